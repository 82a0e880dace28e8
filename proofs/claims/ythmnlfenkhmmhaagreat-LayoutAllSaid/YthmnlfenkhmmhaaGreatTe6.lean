/- LayoutAll. -/
import Derived.Test.YthmnlfenkhmmhaaGreatTe5
namespace Go.Proofs.YthmnlfenkhmmhaaGreat
noncomputable section
open List (length map)
open IntKind (i64)
open Go.Proofs.Tryz
set_option linter.unusedSimpArgs false
set_option linter.unusedVariables false
set_option maxRecDepth 100000
set_option maxHeartbeats 4000000
def zxk:Option (Bool):=
  some true
def zmg(c:List za)(d:T2)(e:T1)(f:T1)(i:T1)(a:za)(j:Int)(b:zg)(l:Int)(m:Int):zL (Int) (Unit) (Bool):=
  (BA c d e f i a.Name b.Name).bind λn=>(cond (!(n == l)) (some true) ((E0 c d e f i a.Name b.Name).bind λo=>some (!(o == m)))).bind λp=>cond p (some (.inr (.inr false))) (some (.inl (i64.wrap (j+1))))
def OS(d:List za)(e:T2)(f:T1)(i:T1)(j:T1)(x:T1)(a:za)(l:T1)(b:Int):zL (Int) (Unit) (Bool):=
  cond (decide (b<(length a.Fields:Int))) ((idx a.Fields b).bind λc=>(idx a.Fields b).bind λm=>cond m.Static ((X2 a.Name [46]).bind λn=>(X2 n c.Name).bind λo=>(Hj x o).bind λp=>zmg d e f i j a b c (-1) p) ((X2 a.Name [46]).bind λq=>(X2 q c.Name).bind λs=>(Hj l s).bind λv=>zmg d e f i j a b c v (-1))) (some (.inr (.inl ())))
def zsw(d:List za)(e:T2)(f:T1)(i:T1)(j:T1)(l:T1)(a:za)(c:T1):Option (Bool):=
  (zk (λz=>OS d e f i j l a c z) 0).bind λo=>zB o (λb=>zxk) some
def OT(f:List za)(i:T2)(j:T1)(l:T1)(m:T1)(c:za)(b:T1)(a:Int):zL (Int) (Unit) (Bool):=
  cond (decide (a<(length b:Int))) ((idx b a).bind λd=>(D9 f i j l m c.Name d).bind λe=>cond (!(e == a)) (some (.inr (.inr false))) (some (.inl (i64.wrap (a+1))))) (some (.inr (.inl ())))
def zsv(c:List za)(d:T2)(e:T1)(f:T1)(i:T1)(m:T1)(a:za)(j:T1)(l:T1):Option (Bool):=
  (zk (λz=>OT c d e f i a l z) 0).bind λo=>zB o (λb=>zsw c d e f i m a j) some
def OU(l:List za)(m:T2)(n:T1)(o:T1)(p:T1)(q:T1)(a:za)(b:Int):zL (Int) (Unit) (Bool):=
  cond (decide (b<(length a.Methods:Int))) ((idx a.Methods b).bind λc=>(Bt l m n o p a.Name c.Name).bind λd=>(X2 a.Name [46]).bind λe=>(idx a.Methods b).bind λf=>(X2 e f.Name).bind λi=>(Hj q i).bind λj=>cond (!(d == j)) (some (.inr (.inr false))) (some (.inl (i64.wrap (b+1))))) (some (.inr (.inl ())))
def zoM(c:List za)(d:T2)(e:T1)(f:T1)(i:T1)(m:List za)(x:Int)(B:T1)(C:T1):Option (Bool):=
  (idx m x).bind λa=>(zko m a.Name).bind λj=>(zkq m a.Name).bind λl=>(By c d e f i a.Name).bind λn=>(KA n j).bind λp=>(cond (!p) (some true) ((zfw c d e f i a.Name).bind λq=>(KA q l).bind λs=>some (!s))).bind λv=>cond v (some false) ((zk (λz=>OU c d e f i B a z) 0).bind λo=>zB o (λb=>zsv c d e f i C a j l) some)
theorem zsx(c:List za)(d:T2)(e:T1)(f:T1)(i:T1)(S:List za)(T:Int)(v:T1)(p:T1){r:Bool}(h:zoM c d e f i S T v p=some r):Xo prog 53 [.ipt 4 [[.ipt 2 [[cL c,mI d]] 0 0,tL e,tL f,tL i]] 0 0,.ipt 1 [[cL S]] 0 0,iA T,tL v,tL p] (bA r):=by
 refine zi func53 y kz y y<|A ?_;obtain ⟨a,q1,h⟩:=bs h;refine A ?_;obtain ⟨l,q2,q,q3,h⟩:=bs2 h;refine rdA [(0,_),(3,_),(4,_),(11,_),(12,_),(13,_)] [some (6,[(zf a)])] [] [0,1,2,3,4,5,6,7,8,9] [(13,_),(12,_),(34,_),(33,_),(32,_),(31,_),(30,_),(29,_),(28,_),(27,_)] 0 (Xl (z:=Xb [0])) ?_;refine ze ?_;obtain ⟨B,q4,v14,q5,U,s,h⟩:=bs3 h;refine A ?_;refine u<|sx [] (zfK c d e f i a.Name q4)<|zu (env0:=[(0,.ipt 4 [[.ipt 2 [[cL c,mI d]] 0 0,tL e,tL f,tL i]] 0 0),(3,tL v),(4,tL p),(11,.mpt 0 0 0),(12,tL l),(13,tL q),(38,.msl 1 0 (length B))]) (st0:=[some (6,[(zf a)]),sT B]) (zm [0,1])<|u<|mv y<|u<|pcs (DY B l q5) y y (.cons (XM y (λ_=>y)) (.cons (si y) .nil)) XA<|u<|nt y<|u<|mv y<|ID (x:=U) (j:=7) 7 1 y y y y y gpn (λm=>by replace s:=bF m s;obtain ⟨V,q7,s⟩:=bs s;obtain ⟨v16,q8,s⟩:=bs s;obtain rfl:=sm s;exact g y m<|mv y<|g y m<|fa ti y y y<|g y m<|ld ti y y<|g y m<|sx [] (zjO c d e f i a.Name q7)<|g y m<|mv y<|g y m<|pcs (DY V q q8) y y (.cons (XM y (λ_=>y)) (.cons (si y) .nil)) XA<|g y m<|nt y<|zw (xg [43,44,45,46,47,48,49] 7 y y y y y y)) (λhb=>(sm (bT hb s)).symm)<|zw ?_;apply Xa h y<;>intro K h
 .refine A ?_;exact RT0
 .refine zc<|ze<|A ?_;obtain ⟨o,ho,h⟩:=bs h;refine lpB ho (λz=>[(0,.ipt 4 [[.ipt 2 [[cL c,mI d]] 0 0,tL e,tL f,tL i]] 0 0),(3,tL v),(4,tL p),(11,.mpt 0 0 0),(12,tL l),(13,tL q),(14,iA z)]) (λz=>[some (6,[(zf a)])]) (λb=>[(0,.ipt 4 [[.ipt 2 [[cL c,mI d]] 0 0,tL e,tL f,tL i]] 0 0),(4,tL p),(11,.mpt 0 0 0),(12,tL l),(13,tL q)]) (λb=>[some (6,[(zf a)])]) (pG f53 bA) (Xb [0]) ?_ ?_
  .rintro n r h;refine ze<|A ?_;apply Xa h y<;>intro L h
   .refine zc<|ze<|zh ?_;obtain ⟨E,F,C,W,Y,Z,v29,G,h⟩:=bs4 h;obtain ⟨H,q24,D,q25,h⟩:=bs2 h;refine rdA [(0,.ipt 4 [[.ipt 2 [[cL c,mI d]] 0 0,tL e,tL f,tL i]] 0 0),(3,tL v),(4,tL p),(11,.mpt 0 0 0),(12,tL l),(13,tL q),(14,iA n),(80,bA (!(C == D)))] [some (6,[(zf a)])] [] [22,21,20,19,18,17,16,15,14,13,12,11,10,9,8,7,6,5,4,3,2,1,0] [(80,bA (!(C == D))),(79,iA D),(78,sA H),(77,sA v29.Name),(76,.ipt 10 (map zd a.Methods) (Int.toNat n) 0),(75,.ipt 10 (map zd a.Methods) (Int.toNat n) 0),(74,iA n),(73,.isl 10 (map zd a.Methods)),(72,.mpt 0 0 5),(71,sA Y),(70,sA a.Name),(69,.mpt 0 0 0),(68,tL v),(67,iA C),(66,sA E.Name),(65,.ipt 10 (map zd a.Methods) (Int.toNat n) 0),(64,.ipt 10 (map zd a.Methods) (Int.toNat n) 0),(63,iA n),(62,.isl 10 (map zd a.Methods)),(61,.mpt 0 0 5),(60,sA a.Name),(59,.mpt 0 0 0),(58,.ipt 4 [[.ipt 2 [[cL c,mI d]] 0 0,tL e,tL f,tL i]] 0 0)] 0 (Ue ⟨(pb y (neq ti y y w)),(pb y (pc (zmB v H q25) y y y w)),(pb y (GO ti y y q24 w)),(pb y (ldI ti y (zQ G).2.2 y w)),(pb y (fa ti y y y w)),(pb y (ixI ti y ti y y y G w)),pe,(pb y (ld ti y y w)),(pb y (fa ti y y y w)),(pb y (GO ti y y Z w)),(pb y (ld ti y y w)),(pb y (fa ti y y y w)),pe,(pb y (pc (zg9 c d e f i a.Name E.Name W) y y y w)),(pb y (ldI ti y (zQ F).2.2 y w)),(pb y (fa ti y y y w)),(pb y (ixI ti y ti y y y F w)),pe,(pb y (ld ti y y w)),(pb y (fa ti y y y w)),(pb y (ld ti y y w)),(pb y (fa ti y y y w)),pe,t⟩ (zm [0])) ?_;apply Xa h y<;>intro M h
    .refine A ?_;refine zA ?_;cases h;exact ⟨_,y,_,y,Xc []⟩
    .refine zc<|A ?_;cases h;exact ⟨_,y,zm [0]⟩
   .refine zp ?_;cases h;exact ⟨y,_,y,zm [0]⟩
  .rintro ⟨⟩ rfl;refine zl<|ze<|A ?_;obtain ⟨o,ho,h⟩:=bs h;refine lpB ho (λz=>[(0,.ipt 4 [[.ipt 2 [[cL c,mI d]] 0 0,tL e,tL f,tL i]] 0 0),(4,tL p),(11,.mpt 0 0 0),(12,tL l),(13,tL q),(15,iA z)]) (λz=>[some (6,[(zf a)])]) (λb=>[(0,.ipt 4 [[.ipt 2 [[cL c,mI d]] 0 0,tL e,tL f,tL i]] 0 0),(4,tL p),(11,.mpt 0 0 0),(12,tL l)]) (λb=>[some (6,[(zf a)])]) (pG f53 bA) (Xb [0]) ?_ ?_
   .rintro v35 r h;refine ze<|A ?_;apply Xa h y<;>intro N h
    .refine zc<|ze<|zh ?_;obtain ⟨v36,q32,v37,q33,h⟩:=bs2 h;refine rdA [(0,_),(4,_),(11,_),(12,_),(13,_),(15,_),(96,_)] [some (6,[(zf a)])] [] [0,1,2,3,4,5,6,7,8,9] [(96,_),(95,_),(94,_),(93,_),(92,_),(91,_),(90,_),(89,_),(88,_),(87,_)] 0 (Xl (z:=Xb [0])) ?_;apply Xa h y<;>intro O h
     .refine A ?_;refine zA ?_;cases h;exact ⟨_,y,_,y,Xc []⟩
     .refine zc<|A ?_;cases h;exact ⟨_,y,zm [0]⟩
    .refine zp ?_;cases h;exact ⟨y,_,y,zm [0]⟩
   .rintro ⟨⟩ rfl;refine zl<|ze<|A ?_;obtain ⟨o,ho,h⟩:=bs h;refine lpB ho (λz=>[(0,.ipt 4 [[.ipt 2 [[cL c,mI d]] 0 0,tL e,tL f,tL i]] 0 0),(4,tL p),(11,.mpt 0 0 0),(12,tL l),(16,iA z)]) (λz=>[some (6,[(zf a)])]) (λb=>[]) (λb=>[]) (pG f53 bA) (Xb [0]) ?_ ?_
    .rintro I r h;refine ze<|A ?_;apply Xa h y<;>intro P h
     .refine zc<|ze<|zh ?_;obtain ⟨J,q51,h⟩:=bs h;refine A ?_;refine A ?_;refine Xz (X:=Int×Int) (λz=>[(0,.ipt 4 [[.ipt 2 [[cL c,mI d]] 0 0,tL e,tL f,tL i]] 0 0),(4,tL p),(11,.mpt 0 0 0),(12,tL l),(16,iA I),(17,sA J.Name),(18,iA z.1),(19,iA z.2)]) (λz=>[some (6,[(zf a)])]) (λz=>zmg c d e f i a I J z.1 z.2=some r) ?_ ?_
      .obtain ⟨v54,q52,h⟩:=bs h;refine A ?_;apply Xa h y<;>intro Q h
       .obtain ⟨v55,q54,v56,q55,v57,q56,h⟩:=bs3 h;refine A ?_;exact (⟨⟨(-1),v57⟩,h,zm [0]⟩)
       .obtain ⟨v58,q57,v59,q58,v60,q59,h⟩:=bs3 h;refine A ?_;exact (⟨⟨v60,(-1)⟩,h,zm [0]⟩)
      .rintro ⟨v61,v62⟩ h;obtain ⟨v63,q60,v65,q63,h⟩:=bs2 h;refine A ?_;apply Xa h y<;>intro R h
       .refine A ?_;refine zA ?_;cases h;exact ⟨_,y,_,y,Xc []⟩
       .refine zc<|A ?_;cases h;exact ⟨_,y,zm [0]⟩
     .refine zp ?_;cases h;exact ⟨y,_,y,zm []⟩
    .rintro ⟨⟩ rfl;refine zl<|A ?_;exact RT0
instance (a:List za)(b:T2)(c:T1)(d:T1)(e:T1)(f:List za)(i:Int)(j:T1)(l:T1):PF prog 53 [.ipt 4 [[.ipt 2 [[cL a,mI b]] 0 0,tL c,tL d,tL e]] 0 0,.ipt 1 [[cL f]] 0 0,iA i,tL j,tL l] (zoM a b c d e f i j l) bA:=⟨λ_=>zsx a b c d e f i j l⟩
def zju(F:T0)(G:T0)(a:(List za)×T2×T1×T1×T1)(d:T1)(e:T1)(f:List za):Option (Bool):=
  (Zv F 10).bind λb=>(Zv G 10).bind λc=>(D8 a.1 a.2.1 a.2.2.1 a.2.2.2.1 a.2.2.2.2 b).bind λi=>(Hj d b).bind λj=>(cond (i == j) ((Bt a.1 a.2.1 a.2.2.1 a.2.2.2.1 a.2.2.2.2 b c).bind λl=>(X2 b [46]).bind λm=>(X2 m c).bind λn=>(Hj e n).bind λo=>some (l == o)) (some false)).bind λp=>(cond p ((zS f b).bind λq=>(cond (decide (0≤q)) (some true) ((BA a.1 a.2.1 a.2.2.1 a.2.2.2.1 a.2.2.2.2 b c).bind λs=>(cond (s == ((-1):Int)) ((D9 a.1 a.2.1 a.2.2.1 a.2.2.2.1 a.2.2.2.2 b c).bind λv=>some (v == ((-1):Int))) (some false)).bind λx=>(cond x ((By a.1 a.2.1 a.2.2.1 a.2.2.2.1 a.2.2.2.2 b).bind λB=>some (((length B):Int) == 0)) (some false)).bind λC=>some C)).bind λD=>some D) (some false)).bind λE=>some E
def H6(b:(List za)×T2×T1×T1×T1)(d:T1)(e:T1)(f:Option zq)(c:Int):zL ((Option zq)×Int) ((List za)) (Bool):=
  Zq f (none) (λa=>cond (decide (c<(length a.L:Int))) ((zoM b.1 b.2.1 b.2.2.1 b.2.2.2.1 b.2.2.2.2 a.L c d e).bind λi=>cond (!i) (some (.inr (.inr false))) (some (.inl ((some a),(i64.wrap (c+1)))))) (some (.inr (.inl a.L))))
def zme(f:T0)(i:T0)(j:(Option zq)×Int)(c:(List za)×T2×T1×T1×T1)(d:T1)(a:T1)(e:T1):Option (Bool):=
  (zk (λz=>H6 c a e z.1 z.2) (j.1,0)).bind λo=>zB o (λb=>zju f i c d a b) some
def EW(b:(List za)×T2×T1×T1×T1)(c:T1)(a:Int):zL (Int) (Unit) (Bool):=
  cond (decide (a<(length c:Int))) ((idx c a).bind λd=>(D8 b.1 b.2.1 b.2.2.1 b.2.2.2.1 b.2.2.2.2 d).bind λe=>cond (!(e == a)) (some (.inr (.inr false))) (some (.inl (i64.wrap (a+1))))) (some (.inr (.inl ())))
def zjt(B:List za)(C:X1)(D:T0)(F:T0):Option (Bool):=
  (znv).bind λG=>cond (!G) (some false) ((Ou (GH.mk B C [] 0)).bind λe=>(HW e.L e.E).bind λj=>(zm2 e.L e.E).bind λc=>cond ((!(j.2 == c.2))||(Option.isNone c.1)) (some (j.2 == c.2)) ((OG j.1).bind λa=>(O4 c.1).bind λd=>(O9 c.1).bind λf=>(O8 c.1).bind λi=>(Ig a.1 a.2.1 a.2.2.1 a.2.2.2.1 a.2.2.2.2).bind λl=>(KA l d).bind λm=>(cond (!m) (some true) ((Iv a.1 a.2.1 a.2.2.1 a.2.2.2.1 a.2.2.2.2).bind λn=>(KA n f).bind λp=>some (!p))).bind λq=>(cond q (some true) ((zek a.1 a.2.1 a.2.2.1 a.2.2.2.1 a.2.2.2.2).bind λs=>(KA s i).bind λv=>some (!v))).bind λx=>cond x (some false) ((zk (λz=>EW a d z) 0).bind λo=>zB o (λb=>zme D F c a d f i) some)))
theorem zmf(Q:List za)(R:X1)(F:T0)(G:T0){r:Bool}(h:zjt Q R F G=some r):Xo prog 8 [cL Q,.agg (Kw R),sA F,sA G] (bA r):=by
 refine zi func8 y kz y y<|A ?_;obtain ⟨v5,q1,h⟩:=bs h;refine A ?_;refine ze<|A ?_;apply Xa h y<;>intro X h
 .refine A ?_;exact RT0
 .refine zc ?_;obtain ⟨M,q3,h⟩:=bs h;refine A ?_;refine u<|pcn (zsu (GH.mk Q R [] 0) q3) y y ⟨(nlA ⟨(nlI y),(nlI y),(nlI y),(nlN),(nlI y),t⟩),t⟩<|A ?_;obtain ⟨v7,q4,h⟩:=bs h;refine rg y<|u<|fa ti y y y<|u<|ld ti y y<|u<|fa ti y y y<|u<|ld ti y y<|u<|pc (Ew M.L M.E q4) y y y<|u<|mv y<|u<|ex y y<|u<|ex y y<|u<|asg y<|u<|asg y<|zw ?_;obtain ⟨H,q5,h⟩:=bs h;refine rg y<|u<|fa ti y y y<|u<|ld ti y y<|u<|fa ti y y y<|u<|ld ti y y<|u<|pc (zrw M.L M.E q5) y y y<|u<|mv y<|u<|ex y y<|u<|ex y y<|u<|asg y<|u<|asg y<|zw ?_;refine ze ?_;refine rg y<|u<|mv y<|u<|mv y<|u<|neq ti y y<|u<|mv y<|Ud (j:=3) 2 y y y y y gpn (λJ=>g y J<|mv y<|g y J<|zJY ti y y y<|zw (egO [48,49] 2 J y y y y)) orT<|zw ?_;apply Xa h y<;>intro Y h
  .refine A ?_;exact RT0
  .refine zc ?_;obtain ⟨a,q8,h⟩:=bs h;refine rg y<|u<|mv y<|u<|sc [] (zrd v7.1 q8) y y y y ⟨(rnI (Zh (λ_=>y))),t⟩ t<|A ?_;obtain ⟨B,q9,f,Z,p,q11,h⟩:=bs3 h;refine rg y<|u<|mv y<|u<|pc (zp4 H.1 q9) y y (Z8 (Zh (λ_=>y)) (y))<|u<|mv y<|u<|pc (zn2 H.1 Z) y y (Z8 (Zh (λ_=>y)) (y))<|u<|mv y<|u<|pc (zn3 H.1 q11) y y (Z8 (Zh (λ_=>y)) (y))<|A ?_;refine ze ?_;obtain ⟨K,q12,v14,q13,v17,q,v20,s,h⟩:=bs4 h;refine rg y<|u<|mv y<|zu (env0:=[(2,sA F),(3,sA G),(13,Xy 1 Zw H.1),(15,.ipt 4 [[.ipt 2 [[cL a.1,mI a.2.1]] 0 0,tL a.2.2.1,tL a.2.2.2.1,tL a.2.2.2.2]] 0 0),(16,tL B),(17,tL f),(18,tL p),(62,.ipt 4 [[.ipt 2 [[cL a.1,mI a.2.1]] 0 0,tL a.2.2.1,tL a.2.2.2.1,tL a.2.2.2.2]] 0 0)]) (st0:=[]) ⟨[],ce y y<|ce y y<|cv y (ci (Zh (λ_=>y)))<|cv y (zJl y y ⟨(ci y),(ZI y y (λ_=>y)),(ZI y y (λ_=>y)),(ZI y y (λ_=>y)),t⟩ y)<|ce y y<|ce y y<|ce y y<|cv y (zJl y y ⟨(ci y),(ZI y y (λ_=>y)),(ZI y y (λ_=>y)),(ZI y y (λ_=>y)),t⟩ y)<|cn,y,t,y,k⟩<|u<|sx [] (zhK a.1 a.2.1 a.2.2.1 a.2.2.2.1 a.2.2.2.2 q12)<|zu (env0:=[(2,sA F),(3,sA G),(13,Xy 1 Zw H.1),(15,.ipt 4 [[.ipt 2 [[cL a.1,mI a.2.1]] 0 0,tL a.2.2.1,tL a.2.2.2.1,tL a.2.2.2.2]] 0 0),(16,tL B),(17,tL f),(18,tL p),(63,.msl 0 0 (length K))]) (st0:=[sT K]) (zm [0])<|u<|mv y<|u<|pcs (DY K B q13) y y (.cons (XM y (λ_=>y)) (.cons (si y) .nil)) XA<|u<|nt y<|u<|mv y<|ID (x:=v17) (j:=5) 5 1 y y y y y gpn (λi=>by replace q:=bF i q;obtain ⟨v15,q15,q⟩:=bs q;obtain ⟨v16,q16,q⟩:=bs q;obtain rfl:=sm q;exact g y i<|mv y<|g y i<|sx [] (zgQ a.1 a.2.1 a.2.2.1 a.2.2.2.1 a.2.2.2.2 q15)<|g y i<|mv y<|g y i<|pcs (DY v15 f q16) y y (.cons (XM y (λ_=>y)) (.cons (si y) .nil)) XA<|g y i<|nt y<|zw (xg [68,69,70,71,72] 5 y y y y y y)) (λhb=>(sm (bT hb q)).symm)<|u<|mv y<|ID (x:=v20) (j:=12) 5 1 y y y y y gpn (λl=>by replace s:=bF l s;obtain ⟨v18,q19,s⟩:=bs s;obtain ⟨v19,q20,s⟩:=bs s;obtain rfl:=sm s;exact g y l<|mv y<|g y l<|sx [] (zjf a.1 a.2.1 a.2.2.1 a.2.2.2.1 a.2.2.2.2 q19)<|g y l<|mv y<|g y l<|pcs (DY v18 p q20) y y (.cons (XM y (λ_=>y)) (.cons (si y) .nil)) XA<|g y l<|nt y<|zw (xg [75,76,77,78,79] 5 y y y y y y)) (λhb=>(sm (bT hb s)).symm)<|zw ?_;apply Xa h y<;>intro S h
   .refine A ?_;exact RT0
   .refine zc<|ze<|A ?_;obtain ⟨o,ho,h⟩:=bs h;refine lpB ho (λz=>[(2,sA F),(3,sA G),(13,Xy 1 Zw H.1),(15,.ipt 4 [[.ipt 2 [[cL a.1,mI a.2.1]] 0 0,tL a.2.2.1,tL a.2.2.2.1,tL a.2.2.2.2]] 0 0),(16,tL B),(17,tL f),(18,tL p),(19,iA z)]) (λz=>[]) (λb=>[(2,sA F),(3,sA G),(13,Xy 1 Zw H.1),(15,.ipt 4 [[.ipt 2 [[cL a.1,mI a.2.1]] 0 0,tL a.2.2.1,tL a.2.2.2.1,tL a.2.2.2.2]] 0 0),(16,tL B),(17,tL f),(18,tL p)]) (λb=>[]) (pG f8 bA) (Xb []) ?_ ?_
    .rintro v24 r h;refine ze<|A ?_;apply Xa h y<;>intro T h
     .refine zc<|ze<|zh ?_;obtain ⟨v25,q28,v26,q29,h⟩:=bs2 h;refine A ?_;apply Xa h y<;>intro U h
      .refine A ?_;refine zA ?_;cases h;exact ⟨_,y,_,y,Xc []⟩
      .refine zc<|A ?_;cases h;exact ⟨_,y,zm []⟩
     .refine zp ?_;cases h;exact ⟨y,_,y,zm []⟩
    .rintro ⟨⟩ rfl;refine zl<|ze<|A ?_;obtain ⟨o,ho,h⟩:=bs h;refine lpB ho (λz=>[(2,sA F),(3,sA G),(13,Xy 1 Zw z.1),(15,.ipt 4 [[.ipt 2 [[cL a.1,mI a.2.1]] 0 0,tL a.2.2.1,tL a.2.2.2.1,tL a.2.2.2.2]] 0 0),(16,tL B),(17,tL f),(18,tL p),(20,iA z.2)]) (λz=>[]) (λb=>[(2,sA F),(3,sA G),(13,.ipt 1 [[cL b]] 0 0),(15,.ipt 4 [[.ipt 2 [[cL a.1,mI a.2.1]] 0 0,tL a.2.2.1,tL a.2.2.2.1,tL a.2.2.2.2]] 0 0),(16,tL B),(17,tL f)]) (λb=>[]) (pG f8 bA) (Xb []) ?_ ?_
     .rintro ⟨N,O⟩ r h;replace h:H6 a f p N O=some r:=h;unfold H6 at h;refine ze ?_;refine rg y<|u<|mv y<|u<|mv y<|?_
      rcases N with _ |v34
      .replace h:=oeN h;cases h
      .replace h:=oeS h;refine u<|nc y y<|u<|fa ti y y y<|u<|ld ti y y<|u<|lnI ti y y<|u<|lss ti y y<|zw ?_;apply Xa h y<;>intro V h
       .refine zc<|ze<|zh ?_;obtain ⟨v35,q35,h⟩:=bs h;refine rg y<|u<|mv y<|u<|mv y<|u<|mv y<|u<|mv y<|u<|mv y<|u<|pc (zsx a.1 a.2.1 a.2.2.1 a.2.2.2.1 a.2.2.2.2 v34.L O f p q35) y y y<|u<|nt y<|zw ?_;apply Xa h y<;>intro W h
        .refine A ?_;refine zA ?_;cases h;exact ⟨_,y,_,y,Xc []⟩
        .refine zc<|A ?_;cases h;exact ⟨_,y,zm []⟩
       .refine zp ?_;cases h;exact ⟨y,_,y,zm []⟩
     .rintro v36 rfl;refine zl ?_;obtain ⟨I,q37,P,q38,h⟩:=bs2 h;refine A ?_;obtain ⟨v39,q39,v40,q40,v45,q46,v53,v,h⟩:=bs4 h;refine A ?_;refine zDB (x:=v53) (j:=20) 25 1 y y y y y gpn (λe=>by replace v:=bT e v;obtain ⟨v46,q48,v⟩:=bs v;obtain ⟨v52,d,v⟩:=bs v;obtain rfl:=sm v;exact g y e<|mv y<|g y e<|mv y<|g y e<|pc (H3 v36 I q48) y y y<|g y e<|geq ti y y<|g y e<|mv y<|ID (x:=v52) (j:=25) 19 1 y y y y y (gps y y e) (λc=>by replace d:=bF c d;obtain ⟨v47,q50,d⟩:=bs d;obtain ⟨v49,C,d⟩:=bs d;obtain ⟨v51,D,d⟩:=bs d;obtain rfl:=sm d;exact g y c<|mv y<|g y c<|mv y<|g y c<|mv y<|g y c<|pc (zh5 a.1 a.2.1 a.2.2.1 a.2.2.2.1 a.2.2.2.2 I P q50) y y y<|g y c<|eql ti y y<|g y c<|mv y<|Zi (x:=v49) (j:=31) 5 y y y y y (gps y y c) (λm=>by replace C:=bT m C;obtain ⟨v48,q52,C⟩:=bs C;obtain rfl:=sm C;exact g y m<|mv y<|g y m<|mv y<|g y m<|mv y<|g y m<|pc (zf9 a.1 a.2.1 a.2.2.1 a.2.2.2.1 a.2.2.2.2 I P q52) y y y<|g y m<|eql ti y y<|zw (eg [147,148,149,150,151] 5 y y y y)) (λhb=>(sm (bF hb C)).symm)<|g y c<|mv y<|zDB (x:=v51) (j:=38) 5 1 y y y y y (gps y y c) (λn=>by replace D:=bT n D;obtain ⟨v50,q55,D⟩:=bs D;obtain rfl:=sm D;exact g y n<|mv y<|g y n<|mv y<|g y n<|sx [] (zfK a.1 a.2.1 a.2.2.1 a.2.2.2.1 a.2.2.2.2 I q55)<|g y n<|lnM ti y y y<|g y n<|eql ti y y<|zw (xg [154,155,156,157,158] 5 y y y y y y)) (λhb=>(sm (bF hb D)).symm)<|zw (xg [141,142,143,144,145,146,147,148,149,150,151,152,153,154,155,156,157,158,159] 9 y y y y y y)) (λhb=>(sm (bT hb d)).symm)<|zw (xg [136,137,138,139,140,141,142,143,144,145,146,147,148,149,150,151,152,153,154,155,156,157,158,159,160] 6 y y y y y y)) (λhb=>(sm (bF hb v)).symm)<|A ?_;exact RT0
instance (a:List za)(b:X1)(c:T0)(d:T0):PF prog 8 [cL a,.agg (Kw b),sA c,sA d] (zjt a b c d) bA:=⟨λ_=>zmf a b c d⟩
theorem zo{α:Type}(l:List α)(i:Nat):idx l (i:Int)=l[i]?:=by
 unfold idx;rw [if_pos (by omega),Jq]
theorem Hd{α:Type}(l:List α):idx l 0=l[0]?:=zo l 0
theorem ZE{n:Int}(h1:-9223372036854775808≤n)(h2:n≤9223372036854775807):i64.wrap n=n:=IntWalk.i64_in n ⟨h1,h2⟩
theorem zz{i:Nat}(h:i<9223372036854775807):i64.wrap ((i:Int)+1)=((i+1:Nat):Int):=by
 rw [ZE (by omega) (by omega)];omega
theorem zw6{α:Type}{l:List α}{a b:Int}(h0:0≤a)(h1:a≤b)(h2:b≤l.length):XK l a b=some ((l.drop a.toNat).take (b.toNat-a.toNat)):=by
 unfold XK;rw [if_pos ⟨h0,h1,h2⟩]
theorem Oi{α:Type}{l:List α}{b:Nat}(h:b≤l.length):XK l 0 (b:Int)=some (l.take b):=by
 rw [zw6 (by omega) (by omega) (by omega)];simp
theorem GI{α:Type}{l:List α}{a:Nat}(h:a≤l.length):XK l (a:Int) (l.length:Int)=some (l.drop a):=by
 rw [zw6 (by omega) (by omega) (by omega)];simp only [Jq];rw [Jy (by simp)]
theorem XJ{α:Type}{w:Nat}{l x:List α}(h:(l.length+x.length)*w≤140737488355328)(h2:l.length+x.length≤9223372036854775807):Xx w l x=some (l++x):=by
 unfold Xx;rw [if_pos ⟨h,h2⟩]
theorem ZC{l x:List UInt8}(h:l.length+x.length≤9223372036854775807):X2 l x=some (l++x):=by unfold X2;rw [if_pos h]
def XE{R U:Type}(u:U):Option R->Sum U R
 |some r=>.inr r
 |none=>.inl u
def UJ{R U:Type}(i:Nat):Option R->Sum Int (Sum U R)
 |some r=>.inr (.inr r)
 |none=>.inl ((i+1:Nat):Int)
theorem zoR{α R U:Type}{body:Int->Option (Sum Int (Sum U R))}{l:List α}{g:α->Option R}{u:U}{k:Nat}
  (hb:∀(i:Nat) x,k≤i->l[i]?=some x->body (i:Int)=some (UJ i (g x)))
  (he:body (l.length:Int)=some (.inr (.inl u))) (hk:k≤l.length):zk body (k:Int)=some (XE u ((l.drop k).findSome? g)):=by
 have key:∀d i,l.length-i=d->k≤i->i≤l.length->zk body (i:Int)=some (XE u ((l.drop i).findSome? g)):=by
  intro d
  induction d with
  |zero =>
   intro i hd hki hi
   have:i=l.length:=by omega
   subst this;rw [zG,he,List.drop_length];rfl
  |succ d ih =>
   intro i hd hki hi
   have hlt:i<l.length:=by omega
   rw [zG,hb i l[i] hki (Qe hlt),JG hlt,Q0]
   cases g l[i] with
   |some r=>rfl
   |none =>
    show zk body ((i+1:Nat):Int)=_;exact ih (i+1) (by omega) (by omega) (by omega)
 exact key _ k rfl (Qg _) hk
theorem Zk{α R U:Type}{body:Int->Option (Sum Int (Sum U R))}{l:List α}{g:α->Option R}{u:U}
  (hb:∀(i:Nat) x,l[i]?=some x->body (i:Int)=some (UJ i (g x)))
  (he:body (l.length:Int)=some (.inr (.inl u))):zk body 0=some (XE u (l.findSome? g)):=
 zoR (k:=0) (λi x _=>hb i x) he (Qo _)
theorem zrY{R U:Type}{body:Int->Option (Sum Int (Sum U R))}{n:Nat}{g:Nat->Option R}{u:U}
  (hb:∀i,i<n->body (i:Int)=some (UJ i (g i)))
  (he:body (n:Int)=some (.inr (.inl u))):zk body 0=some (XE u ((List.range n).findSome? g)):=by
 have h:=Zk (body:=body) (l:=List.range n) (g:=g) (u:=u) (λi x hx=>by
  have hi:i<n:=by
   have:=(Qb.1 hx).1;simpa using this
  have hx':x=i:=by
   have:=(Qb.1 hx).2;simpa using this.symm
  subst hx'
  exact hb x hi) (by rw [List.length_range];exact he)
 exact h
theorem z7{α R:Type}(l:List α)(p:α->Bool)(r:R):l.findSome? (λx=>cond (p x) (some r) none)=cond (l.any p) (some r) none:=by
 induction l with
 |nil=>rfl
 |cons x l ih =>
  rw [Q0,QZ]
  cases p x with
  |true=>rfl
  |false=>simpa using ih
def zig(n:Int):Nat:=if n<0 then (-2*n-1).toNat else (2*n).toNat
def zJ2:Nat->Nat->List UInt8
 | 0,_=>[]
 |k+1,u=>if 127<u then UInt8.ofNat (u % 128+128)::zJ2 k (u / 128) else [UInt8.ofNat u]
def put(n:Int):List UInt8:=zJ2 10 (zig n)
def okC(x:UInt8):Bool:=UU x||Ky x||DK x
def IN(p:UInt8->Bool):List UInt8->Bool
 | []=>false
 |x :: _=>p x
def Kn(s:List UInt8):Bool:=s.all okC&&(!(s == [])&&decide ((s.length:Int)≤8))
def XF(s:List UInt8):Bool:=Kn s&&decide (1<(s.length:Int))&&IN Ky s
def Gt(s:List UInt8):Bool:=(s == [36,105,110,105,116])||(Kn s&&IN UU s)
def XT:List UInt8->List UInt8
 | []=>[]
 |x ::r=>if x=91 then r else x ::r
def Xq(s:List UInt8):Bool:=(XT (XT s) == [73])||XF (XT (XT s))
def ZD(s:List UInt8):Bool:=!(s == [73])&&Xq s
def Z2(s:List UInt8):Bool:=(s == [86])||Xq s
abbrev Len(s:List UInt8):Prop:=s.length≤9223372036854775807
theorem zyQ{α:Type}(l:List α)(p:α->Bool):l.any (λx=>!p x)=!l.all p:=by
 induction l with
 |nil=>rfl
 |cons x l ih=>rw [QZ,Yo,ih];cases p x <;> rfl
theorem zss{s:List UInt8}(h:Len s):zoL s=some (Kn s):=by
 have hl:zk (λz=>OV s z) 0=_:=Zk (l:=s) (g:=λx=>cond (!okC x) (some false) none) (u:=()) (λi x hx=>by
  have hi:=(Qb.1 hx).1;show OV s (i:Int)=_;unfold OV;rw [zo,hx,RD (by omega),zz (by unfold Len at h;omega)];unfold okC
  cases h1:UU x <;> cases h2:Ky x <;> cases h3:DK x <;> simp [h1,h2,h3,UJ]) (by
  show OV s (s.length:Int)=_;unfold OV;rw [RE (by omega)]
  rfl)
 unfold zoL;rw [hl,z7,zyQ];unfold Kn;cases s.all okC <;> rfl
theorem zpu(p:UInt8->Bool)(x:UInt8)(r:List UInt8):IN p (x ::r)=p x:=rfl
theorem zAD{s:List UInt8}(h:Kn s=true):∃x r,s=x ::r:=by
 cases s with
 |nil=>exact absurd h (by decide)
 |cons x r=>exact ⟨x,r,rfl⟩
theorem Ed{s:List UInt8}(h:Len s):HP s=some (XF s):=by
 unfold HP;rw [zss h,Hd];unfold XF
 cases hw:Kn s with
 |false=>rfl
 |true =>
  obtain ⟨x,r,rfl⟩:=zAD hw;simp only [Qa,QC,Q1];cases decide (1<((x ::r).length:Int)) <;> rfl
theorem zoK{s:List UInt8}(h:Len s):Ow s=some (Gt s):=by
 unfold Ow;rw [zss h,Hd];unfold Gt
 cases s == [36,105,110,105,116] with
 |true=>rfl
 |false =>
  cases hw:Kn s with
  |false=>rfl
  |true =>
   obtain ⟨x,r,rfl⟩:=zAD hw;rfl
theorem HQ(x:UInt8)(r:List UInt8):XT (x ::r)=if x=91 then r else x ::r:=rfl
theorem zrF(s:List UInt8):(XT s).length≤s.length:=by
 cases s with
 |nil=>exact Qg _
 |cons x r=>rw [HQ];split <;> simp
theorem zEl{s:List UInt8}(h:Len s):zgo s [91]=some (XT s):=by
 unfold zgo zdF zej
 cases s with
 |nil=>rfl
 |cons x r =>
  have e1:decide ((List.length [(91:UInt8)]:Int)≤(List.length (x ::r):Int))=true:=RD (by simp only [Qv,Q3];omega)
  have e2:XK (x ::r) 0 (List.length [(91:UInt8)]:Int)=some [x]:=by
   have:=Oi (l:=x ::r) (b:=1) (by simp);simpa using this
  have e3:XK (x ::r) (List.length [(91:UInt8)]:Int) (List.length (x ::r):Int)=some r:=by
   have:=GI (l:=x ::r) (a:=1) (by simp);simpa using this
  rw [e1,e2,e3,HQ];by_cases hx:x=91
  .subst hx;rfl
  .rw [if_neg hx]
   have:([x] == [(91:UInt8)])=false:=by simp [hx]
   simp [this]
theorem W6{s:List UInt8}(h:Len s):Hb s=some (Xq s):=by
 have h1:=zrF s;have h2:=zrF (XT s);unfold Hb;rw [zEl h,Qa,zEl (by unfold Len at *;omega),Qa,Ed (by unfold Len at *;omega)];unfold Xq;cases XT (XT s) == [73] <;> rfl
theorem znu{s:List UInt8}(h:Len s):WO s=some (ZD s):=by
 unfold WO;rw [W6 h];unfold ZD;cases s == [73] <;> rfl
theorem zyA{s:List UInt8}(h:Len s):zsW s=some (Z2 s):=by
 unfold zsW;rw [W6 h];unfold Z2;cases s == [86] <;> rfl
theorem zt7(x:UInt8):zm1 x=Ky x:=rfl
theorem zsc(x:UInt8):zlD x=UU x:=rfl
theorem zxL(x:UInt8):zm0 x=DK x:=rfl
theorem O7{s:List UInt8}(h:Len s):HO s=some (XF s):=by
 unfold HO
 have hend:H0 s (s.length:Int)=some (.inr (.inl ())):=by
  unfold H0;rw [RE (by omega)];rfl
 cases s with
 |nil=>rw [zG];rfl
 |cons x r =>
  have hrest:zk (λz=>H0 (x ::r) z) ((1:Nat):Int)=some (XE () (((x ::r).drop 1).findSome? (λy=>cond (!okC y) (some false) none))):=
   zoR (k:=1) (g:=λy=>cond (!okC y) (some false) none) (λi y hi hy=>by
    have hlt:=(Qb.1 hy).1;show H0 (x ::r) (i:Int)=_;unfold H0;rw [zo,hy,RD (by omega),zz (by unfold Len at h;omega)]
    have e:((i:Int) == (0:Int))=false:=by simp;omega
    rw [e];simp only [zt7,zsc,zxL];unfold okC
    cases h1:UU y <;> cases h2:Ky y <;> cases h3:DK y <;> simp [h1,h2,h3,UJ]) hend (by simp)
  have hfirst:H0 (x ::r) 0=some (cond (Ky x) (.inl 1) (.inr (.inr false))):=by
   unfold H0;rw [Hd,RD (by simp only [Qv,Q3];omega)];simp only [zt7]
   have:i64.wrap (0+1)=1:=by decide
   rw [this];simp only [Q1,Qa];cases hg:Ky x <;> rfl
  rw [zG,hfirst]
  cases hg:Ky x with
  |false =>
   have:XF (x ::r)=false:=by unfold XF;rw [zpu,hg];simp
   rw [this];rfl
  |true =>
   show ((zk (λz=>H0 (x ::r) z) ((1:Nat):Int)).bind _)=_;rw [hrest,List.drop_one,List.tail_cons,z7,zyQ]
   have:XF (x ::r)=(r.all okC&&(decide (2≤(List.length (x ::r):Int))&&decide ((List.length (x ::r):Int)≤8))):=by
    unfold XF Kn;rw [zpu]
    have ho:okC x=true:=by unfold okC;rw [hg];simp
    rw [Yo,ho,hg]
    have e:decide (1<(List.length (x ::r):Int))=decide (2≤(List.length (x ::r):Int)):=by congr 1
    rw [e];have e2:((x ::r) == [])=false:=rfl;rw [e2];cases r.all okC <;> cases decide (2≤(List.length (x ::r):Int)) <;> cases decide ((List.length (x ::r):Int)≤8) <;> rfl
   rw [this];cases r.all okC <;> rfl
theorem zo0{s:List UInt8}(h:Len s):Os s=some (Gt s):=by
 unfold Os
 have hend:HU s (s.length:Int)=some (.inr (.inl ())):=by
  unfold HU;rw [RE (by omega)];rfl
 unfold Gt
 cases s == [36,105,110,105,116] with
 |true=>rfl
 |false =>
 show (zk _ _).bind _=some (Kn s&&IN UU s)
 cases s with
 |nil=>rw [zG];rfl
 |cons x r =>
  have hrest:zk (λz=>HU (x ::r) z) ((1:Nat):Int)=some (XE () (((x ::r).drop 1).findSome? (λy=>cond (!okC y) (some false) none))):=
   zoR (k:=1) (g:=λy=>cond (!okC y) (some false) none) (λi y hi hy=>by
    have hlt:=(Qb.1 hy).1;show HU (x ::r) (i:Int)=_;unfold HU;rw [zo,hy,RD (by omega),zz (by unfold Len at h;omega)]
    have e:((i:Int) == (0:Int))=false:=by simp;omega
    rw [e];simp only [zt7,zsc,zxL];unfold okC
    cases h1:UU y <;> cases h2:Ky y <;> cases h3:DK y <;> simp [h1,h2,h3,UJ]) hend (by simp)
  have hfirst:HU (x ::r) 0=some (cond (UU x) (.inl 1) (.inr (.inr false))):=by
   unfold HU;rw [Hd,RD (by simp only [Qv,Q3];omega)];simp only [zsc]
   have:i64.wrap (0+1)=1:=by decide
   rw [this];simp only [Q1,Qa];cases hg:UU x <;> rfl
  rw [zG,hfirst]
  cases hg:UU x with
  |false =>
   have:(Kn (x ::r)&&IN UU (x ::r))=false:=by rw [zpu,hg];simp
   rw [this];rfl
  |true =>
   show ((zk (λz=>HU (x ::r) z) ((1:Nat):Int)).bind _)=_;rw [hrest,List.drop_one,List.tail_cons,z7,zyQ]
   have:(Kn (x ::r)&&IN UU (x ::r))=(r.all okC&&(decide (1≤(List.length (x ::r):Int))&&decide ((List.length (x ::r):Int)≤8))):=by
    unfold Kn;rw [zpu]
    have ho:okC x=true:=by unfold okC;rw [hg];simp
    rw [Yo,ho,hg];have e2:((x ::r) == [])=false:=rfl;have e3:decide (1≤(List.length (x ::r):Int))=true:=RD (by simp only [Qv,Q3];omega);rw [e2,e3];cases r.all okC <;> cases decide ((List.length (x ::r):Int)≤8) <;> rfl
   rw [this];cases r.all okC <;> rfl
theorem HS{s:List UInt8}(h:Len s):Ga s=some (Xq s):=by
 have step:∀(t:List UInt8) (i:Int),i<2->O3 t i=some (match t with | []=>.inr (.inl []) |x ::r=>if x=91 then .inl (r,i64.wrap (i+1)) else .inr (.inl (x ::r))):=λt i hi=>by
  unfold O3;rw [RD hi]
  cases t with
  |nil=>rfl
  |cons x r =>
   have e1:decide ((0:Int)<(List.length (x ::r):Int))=true:=RD (by simp only [Qv,Q3];omega)
   have e3:XK (x ::r) 1 (List.length (x ::r):Int)=some r:=by
    have:=GI (l:=x ::r) (a:=1) (by simp);simpa using this
   rw [e1,Hd,e3];by_cases hx:x=91
   .subst hx;rfl
   .have e:((x.toNat:Int) == (91:Int))=false:=by
     rw [RB];intro h;apply hx
     have:x.toNat=(91:UInt8).toNat:=by simp;omega
     exact JO.1 this
    simp [e,if_neg hx]
 have stop:∀t:List UInt8,O3 t 2=some (.inr (.inl t)):=λt=>by unfold O3;simp
 have hl:zk (λz:List UInt8×Int=>O3 z.1 z.2) (s,0)=some (.inl (XT (XT s))):=by
  have w1:i64.wrap (0+1)=1:=by decide
  have w2:i64.wrap (1+1)=2:=by decide
  rw [zG];simp only [step s 0 (by omega)]
  cases s with
  |nil=>rfl
  |cons x r =>
   rw [HQ];by_cases hx:x=91
   .simp only [if_pos hx,Qa,JT,w1];rw [zG];simp only [step r 1 (by omega)]
    cases r with
    |nil=>rfl
    |cons y q =>
     by_cases hy:y=91
     .simp only [if_pos hy,Qa,JT,w2];rw [zG];simp only [stop];rw [HQ,if_pos hy];rfl
     .simp only [if_neg hy,Qa,Sum.elim_inr];rw [HQ,if_neg hy]
   .simp only [if_neg hx,Qa,Sum.elim_inr];rw [HQ,if_neg hx]
 have h1:=zrF s;have h2:=zrF (XT s);unfold Ga;rw [hl];show zqz _=_;unfold zqz Xq;rw [O7 (by unfold Len at *;omega)];cases XT (XT s) == [73] <;> rfl
theorem zyW{s:List UInt8}(h:Len s):zs3 s=some (ZD s):=by
 unfold zs3;rw [HS h];unfold ZD;cases s == [73] <;> rfl
def zJi(v1:Int):Bool:=
 ((((v1 == (1:Int))||(v1 == (3:Int)))||(v1 == (4:Int)))||(UT v1))
def HB(o:Int)(s:List UInt8):Bool:=cond (Gd o) (ZD s) (cond (Db o) (XF s) (s == []))
def zFj(o:Int)(s:List UInt8):Bool:=cond (Wr o) (Gt s&&!(s == [36,105,110,105,116])) (s == [])
def UP(x:zs):Bool:=(WS x.Op&&HJ x.Op x.A)&&HB x.Op x.C&&zFj x.Op x.M
theorem zBn{o:Int}{s:List UInt8}(h:Len s):zwk o s=some (HB o s):=by
 unfold zwk HB;rw [znu h,Ed h];cases Gd o <;> cases Db o <;> rfl
theorem zBo{o:Int}{s:List UInt8}(h:Len s):zwl o s=some (zFj o s):=by
 unfold zwl zFj;rw [zoK h];cases Wr o <;> rfl
theorem zDl{x:zs}(hC:Len x.C)(hM:Len x.M):zz5 x=some (UP x):=by
 unfold zz5 UP;rw [zBn hC,zBo hM];cases (WS x.Op&&HJ x.Op x.A) <;> cases HB x.Op x.C <;> rfl
theorem zHJ(o A:Int):HJ o A=cond (zJi o) (zlE o A) (A == 0):=by
 have e1:decide (A≤2147483647)=decide (A<2147483648):=by congr 1;apply propext;omega
 have e2:decide (A≤15)=decide (A<16):=by congr 1;apply propext;omega
 have e3:decide (A≤99)=decide (A<100):=by congr 1;apply propext;omega
 unfold HJ zJi zlE DI UT KR;rw [e1,e2,e3];by_cases h1:o=1
 .subst h1;rfl
 by_cases h3:o=3
 .subst h3;rfl
 by_cases h4:o=4
 .subst h4;rfl
 have b1:(o == (1:Int))=false:=RB.2 h1;have b3:(o == (3:Int))=false:=RB.2 h3;have b4:(o == (4:Int))=false:=RB.2 h4;rw [b1,b3,b4];cases (decide (20≤o)&&decide (o≤36)) <;> rfl
theorem zDt:∀k:_root_.Fin 62,(Hi (k.val:Int)).1=zJi (k.val:Int)/\(Hi (k.val:Int)).2.1=cond (Gd (k.val:Int)) 2 (cond (Db (k.val:Int)) 1 0)/\(Hi (k.val:Int)).2.2=Wr (k.val:Int):=by
 decide +kernel
theorem zuN{x:zs}(hC:Len x.C)(hM:Len x.M):zlC x=some (UP x):=by
 unfold zlC UP WS KR;by_cases hk:1≤x.Op/\x.Op≤61
 .obtain ⟨k,hkk⟩:∃k:Nat,x.Op=k:=⟨x.Op.toNat,by omega⟩;obtain ⟨p1,p2,p3⟩:=zDt ⟨k,by omega⟩;simp only at p1 p2 p3;rw [hkk] at hk ⊢;rw [zHJ,p1,p2,p3,RE (show ¬(k:Int)<1 by omega),RE (show ¬(61:Int)<k by omega),RD hk.1,RD hk.2,O7 hC,zyW hC,zo0 hM];unfold HB zFj;cases zJi (k:Int) <;> cases zlE (k:Int) x.A <;> cases (x.A == 0) <;> cases Gd (k:Int) <;> cases Db (k:Int) <;> cases Wr (k:Int) <;> cases (x.C == []) <;> cases XF x.C <;> cases ZD x.C <;> rfl
 .have h1:(decide (x.Op<1)||decide (61<x.Op))=true:=by
   rw [Qt];by_cases h:x.Op<1
   .exact .inl (RD h)
   .exact .inr (RD (by omega))
  have h2:(decide (1≤x.Op)&&decide (x.Op≤61))=false:=by
   rw [JB];by_cases h:1≤x.Op
   .exact .inr (RE (by omega))
   .exact .inl (RE h)
  rw [h1,h2];rfl
def ixF{α:Type}(p:α->Bool):Nat->List α->Int
 |_,[]=>-1
 |k,x ::r=>cond (p x) (k:Int) (ixF p (k+1) r)
theorem ZF{α:Type}(p:α->Bool):∀(k:Nat) (l:List α),decide (0≤ixF p k l)=l.any p
 |_,[]=>rfl
 |k,x ::r=>by
  unfold ixF;rw [QZ]
  cases p x with
  |true=>exact RD (show (0:Int)≤(k:Int) by omega)
  |false=>exact ZF p (k+1) r
theorem Zo{α:Type}{body:Int->Option (Sum Int (Sum Unit Int))}{l:List α}{p:α->Bool}(hl:l.length≤9223372036854775807)
  (hb:∀(i:Nat) x,l[i]?=some x->body (i:Int)=cond (p x) (some (.inr (.inr (i:Int)))) (some (.inl (i64.wrap ((i:Int)+1)))))
  (he:body (l.length:Int)=some (.inr (.inl ()))):
  (zk body 0).bind (λo=>zB o (λ_=>some (-1:Int)) some)=some (ixF p 0 l):=by
 have key:∀(r pre:List α),l=pre++r->(zk body (pre.length:Int)).bind (λo=>zB o (λ_=>some (-1:Int)) some)=some (ixF p pre.length r):=by
  intro r
  induction r with
  |nil =>
   intro pre h;rw [Qx] at h;subst h;rw [zG,he];rfl
  |cons x r ih =>
   intro pre h
   have hlen:l.length=pre.length+(r.length+1):=by rw [h];simp
   have hx:l[pre.length]?=some x:=by rw [h];simp
   rw [zG,hb _ x hx];unfold ixF
   cases p x with
   |true=>rfl
   |false =>
    rw [zz (by omega)];have:=ih (pre++[x]) (by rw [h];simp);rw [show (pre++[x]).length=pre.length+1 by simp] at this;exact this
 exact key l [] rfl
def uB{α:Type}(ok:α->Bool)(nm:α->List UInt8):List α->List α->Bool
 |_,[]=>false
 |pre,x ::r=>(!ok x||pre.any (λy=>nm x == nm y))||uB ok nm (pre++[x]) r
theorem zum{α:Type}{body:Int->Option (Sum Int (Sum Unit Bool))}{l:List α}{ok:α->Bool}{nm:α->List UInt8}(hl:l.length≤9223372036854775807)
  (hb:∀(i:Nat) x,l[i]?=some x->body (i:Int)=cond (!ok x||(l.take i).any (λy=>nm x == nm y)) (some (.inr (.inr false))) (some (.inl (i64.wrap ((i:Int)+1)))))
  (he:body (l.length:Int)=some (.inr (.inl ()))) {k:Option Bool}:
  (zk body 0).bind (λo=>zB o (λ_=>k) some)=cond (uB ok nm [] l) (some false) k:=by
 have key:∀(r pre:List α),l=pre++r->(zk body (pre.length:Int)).bind (λo=>zB o (λ_=>k) some)=cond (uB ok nm pre r) (some false) k:=by
  intro r
  induction r with
  |nil =>
   intro pre h;rw [Qx] at h;subst h;rw [zG,he];rfl
  |cons x r ih =>
   intro pre h
   have hlen:l.length=pre.length+(r.length+1):=by rw [h];simp
   have hx:l[pre.length]?=some x:=by rw [h];simp
   have ht:l.take pre.length=pre:=by rw [h];simp
   rw [zG,hb _ x hx,ht];unfold uB
   cases !ok x||pre.any (λy=>nm x == nm y) with
   |true=>rfl
   |false =>
    rw [zz (by omega)];have:=ih (pre++[x]) (by rw [h];simp);rw [show (pre++[x]).length=pre.length+1 by simp] at this;exact this
 exact key l [] rfl
def eqL{α:Type}(e:α->α->Bool):List α->List α->Bool
 | [],[]=>true
 |x ::a,y ::b=>e x y&&eqL e a b
 |_,_=>false
theorem zCB{α:Type}(e:α->α->Bool):∀(a b:List α),a.length≠b.length->eqL e a b=false
 | [],[],h=>absurd rfl h
 | [],_ :: _,_=>rfl
 |_ :: _,[],_=>rfl
 |x ::a,y ::b,h=>by
  show (e x y&&eqL e a b)=false;rw [zCB e a b (λhh=>h (by simp [hh])),Q9]
theorem zAU{α:Type}{body:Int->Option (Sum Int (Sum Unit Bool))}{a b:List α}{e:α->α->Bool}(hl:a.length≤9223372036854775807)
  (hb:∀(i:Nat) x y,a[i]?=some x->b[i]?=some y->body (i:Int)=cond (!e x y) (some (.inr (.inr false))) (some (.inl (i64.wrap ((i:Int)+1)))))
  (he:body (a.length:Int)=some (.inr (.inl ()))):
  cond (!((a.length:Int) == (b.length:Int))) (some false) ((zk body 0).bind (λo=>zB o (λ_=>some true) some))=some (eqL e a b):=by
 by_cases hn:a.length=b.length
 .have key:∀(r s pre pre':List α),pre.length=pre'.length->a=pre++r->b=pre'++s->(zk body (pre.length:Int)).bind (λo=>zB o (λ_=>some true) some)=some (eqL e r s):=by
   intro r
   induction r with
   |nil =>
    intro s pre pre' hp h1 h2
    have:s=[]:=by
     have:a.length=pre.length:=by rw [h1];simp
     have:b.length=pre'.length+s.length:=by rw [h2];simp
     exact Qf (by omega)
    subst this;rw [Qx] at h1;subst h1;rw [zG,he];rfl
   |cons x r ih =>
    intro s pre pre' hp h1 h2
    have hlen:a.length=pre.length+(r.length+1):=by rw [h1];simp
    have hlen2:b.length=pre'.length+s.length:=by rw [h2];simp
    cases s with
    |nil=>simp at hlen2;omega
    |cons y s =>
     have hx:a[pre.length]?=some x:=by rw [h1];simp
     have hy:b[pre.length]?=some y:=by rw [h2,hp];simp
     rw [zG,hb _ x y hx hy];show _=some (e x y&&eqL e r s)
     cases e x y with
     |false=>rfl
     |true =>
      rw [zz (by omega)];have:=ih s (pre++[x]) (pre'++[y]) (by simp [hp]) (by rw [h1];simp) (by rw [h2];simp);rw [show (pre++[x]).length=pre.length+1 by simp] at this;exact this
  rw [show ((a.length:Int) == (b.length:Int))=true from beq_iff_eq.2 (by omega)];exact key a b [] [] rfl rfl rfl
 .rw [zCB e a b hn,show ((a.length:Int) == (b.length:Int))=false from RB.2 (by omega)];rfl
abbrev XG{α:Type}(l:List α):Prop:=l.length≤9223372036854775807
theorem Xk{α:Type}{l:List α}{i:Nat}{x:α}(h:l[i]?=some x):decide ((i:Int)<(l.length:Int))=true:=
 RD (by have:=(Qb.1 h).1;omega)
theorem Xm{α:Type}(l:List α):decide ((l.length:Int)<(l.length:Int))=false:=RE (by omega)
theorem zE7{l:List zg}(hl:XG l)(n t:List UInt8)(s:Bool):zau l n t s=some (l.any λy=>n == y.Name):=by
 unfold zau zcF
 rw [show ((zk (λz=>za6 l n t s z) 0).bind λo=>zB o (λb=>zeC) some)=_ from Zo (p:=λy:zg=>n == y.Name) hl
  (λi x hx=>by unfold za6;rw [Xk hx,zo,hx];rfl) (by unfold za6;rw [Xm];rfl)]
 exact congrArg some (ZF _ 0 l)
theorem zCT{l:List zb}(hl:XG l)(n:List UInt8)(a b c d e f g h i):zaq l n a b c d e f g h i=some (l.any λy=>n == y.Name):=by
 unfold zaq zch
 rw [show ((zk (λz=>zaS l n a b c d e f g h i z) 0).bind λo=>zB o (λb=>zdA) some)=_ from Zo (p:=λy:zb=>n == y.Name) hl
  (λi x hx=>by unfold zaS;rw [Xk hx,zo,hx];rfl) (by unfold zaS;rw [Xm];rfl)]
 exact congrArg some (ZF _ 0 l)
theorem zHx{l:List (List UInt8)}(hl:XG l)(n:List UInt8):zaF l n=some (l.any λy=>n == y):=by
 unfold zaF zdd
 rw [show ((zk (λz=>zbr l n z) 0).bind λo=>zB o (λb=>zfh) some)=_ from Zo (p:=λy:List UInt8=>n == y) hl
  (λi x hx=>by unfold zbr;rw [Xk hx,zo,hx];rfl) (by unfold zbr;rw [Xm];rfl)]
 exact congrArg some (ZF _ 0 l)
theorem zti{c:za}(hl:XG c.Methods)(n:List UInt8):HX c n=some (ixF (λy=>y.Name == n) 0 c.Methods):=by
 unfold HX zaT
 rw [show ((zk (λz=>zaz c.Methods n z) 0).bind λo=>zB o (λb=>zcX) some)=_ from Zo (p:=λy:zb=>y.Name == n) hl
  (λi x hx=>by unfold zaz;rw [Xk hx,zo,hx];rfl) (by unfold zaz;rw [Xm];rfl)]
 rfl
theorem zuq{c:za}(hl:XG c.Fields)(n:List UInt8):zln c n=some (ixF (λy=>y.Name == n) 0 c.Fields):=by
 unfold zln za7
 rw [show ((zk (λz=>zaL c.Fields n z) 0).bind λo=>zB o (λb=>zds) some)=_ from Zo (p:=λy:zg=>y.Name == n) hl
  (λi x hx=>by unfold zaL;rw [Xk hx,zo,hx];rfl) (by unfold zaL;rw [Xm];rfl)]
 rfl
def K5(f:zg):Bool:=(Gt f.Name&&!(f.Name == [36,105,110,105,116]))&&Xq f.Type_
theorem zur{f:zg}(h1:Len f.Name)(h2:Len f.Type_):zlp f=some (K5 f):=by
 unfold zlp K5;rw [zoK h1,W6 h2,Qa];cases (Gt f.Name&&!(f.Name == [36,105,110,105,116])) <;> rfl
theorem zB5{l:List zg}(hl:XG l)(h:∀f∈l,Len f.Name/\Len f.Type_)(n:Int):zg5 l n=cond (uB K5 (·.Name) [] l) (some false) (some (decide ((l.length:Int)≤n))):=by
 unfold zg5;refine zum (ok:=K5) (nm:=(·.Name)) hl (λi x hx=>?_) ?_
 .have hm:=h x (Qc hx);have hi:=(Qb.1 hx).1;unfold zhH;rw [Xk hx,zo,hx];simp only [Qa,RT];rw [zur hm.1 hm.2,Qa,Oi (by omega),Qa,zE7 (by unfold XG at *;rw [QI];omega)];cases K5 x <;> rfl
 .unfold zhH;rw [Xm];rfl
theorem zEG{l:List (List UInt8)}(hl:XG l)(h:∀s∈l,Len s)(n:Int):ziQ l n=cond (uB XF id [] l) (some false) (some (decide ((l.length:Int)≤n))):=by
 unfold ziQ;refine zum (ok:=XF) (nm:=id) hl (λi x hx=>?_) ?_
 .have hm:=h x (Qc hx);have hi:=(Qb.1 hx).1;unfold ziZ;rw [Xk hx,zo,hx];simp only [Qa,RT];rw [Ed hm,Qa,Oi (by omega),Qa,zHx (by unfold XG at *;rw [QI];omega)];cases XF x <;> rfl
 .unfold ziZ;rw [Xm];rfl
def IU(l:List (List UInt8)):Bool:=!(l.any λs=>!Xq s)
theorem zut{l:List (List UInt8)}(hl:XG l)(h:∀s∈l,Len s):znj l=some (IU l):=by
 unfold znj zbY zeD
 rw [show ((zk (λz=>zbZ l z) 0).bind λo=>zB o (λb=>zgn) some)=_ from Zo (p:=λs=>!Xq s) hl
  (λi x hx=>by
   unfold zbZ znk;rw [Xk hx,zo,hx];simp only [Qa,RT];rw [W6 (h x (Qc hx))]
   rfl) (by unfold zbZ;rw [Xm];rfl)]
 rw [Qa,ZF];rfl
def BW(n:Int)(x:zs):Bool:=(!UP x)||(UT x.Op&&decide (n≤x.A))
def instrN(c:List zs):Bool:=zx (c.length:Int) 1 100&&(c.getLast?.elim false (λy=>GE y.Op)&&!(c.any (BW (c.length:Int))))
theorem zow{m:zb}(hl:XG m.Code)(h:∀x∈m.Code,Len x.C/\Len x.M):zf4 m=some (instrN m.Code):=by
 have hc:zaQ m.Code (m.Code.length:Int)=some (m.Code.any (BW (m.Code.length:Int))):=by
  unfold zaQ zdx
  rw [show ((zk (λz=>zbB m.Code (m.Code.length:Int) z) 0).bind λo=>zB o (λb=>zfD) some)=_ from Zo (p:=BW (m.Code.length:Int)) hl
   (λi x hx=>by
    have hm:=h x (Qc hx);unfold zbB ziD;rw [Xk hx,zo,hx];simp only [Qa,RT];rw [zDl hm.1 hm.2]
    rfl) (by unfold zbB;rw [Xm];rfl)]
  exact congrArg some (ZF _ 0 _)
 unfold zf4 instrN;rw [hc]
 cases hb:zx (m.Code.length:Int) 1 100 with
 |false=>rfl
 |true =>
  have hb':(decide (1≤(m.Code.length:Int))&&decide ((m.Code.length:Int)≤100))=true:=hb;simp only [Qd,decide_eq_true_eq] at hb'
  have e:i64.wrap ((m.Code.length:Int)-1)=((m.Code.length-1:Nat):Int):=by
   rw [ZE (by omega) (by omega)];omega
  rw [e,zo,<-Jp]
  cases hg:m.Code.getLast? with
  |none =>
   rw [Yi] at hg;rw [hg] at hb';simp at hb'
  |some y =>
   simp only [Qa,Qr,RF,Ys,QC];cases GE y.Op <;> rfl
def GZ(n:Int)(y:zU):Bool:=(((decide (y.From<0)||decide (y.To≤y.From))||decide (n<y.To))||!(zx y.At 0 (i64.wrap (n-1))))||(!(y.C == [])&&!XF y.C)
def HE(m:zb):Bool:=!(m.Traps.any (GZ (m.Code.length:Int)))&&decide ((m.Traps.length:Int)≤6)
theorem zus{m:zb}(hl:XG m.Traps)(h:∀x∈m.Traps,Len x.C):znh m=some (HE m):=by
 unfold znh zbh zcV
 rw [show ((zk (λz=>zbi m.Traps m.Name m.Params m.Ret m.Static m.Abstract m.Locals m.Stack m.Code m.Maps m.Traps z) 0).bind λo=>zB o (λb=>ze1) some)=_ from Zo (p:=GZ (m.Code.length:Int)) hl
  (λi x hx=>by
   have hm:=h x (Qc hx);unfold zbi zni GZ;rw [Xk hx,zo,hx];simp only [Qa,RT];rw [Ed hm]
   cases (((decide (x.From<0)||decide (x.To≤x.From))||decide ((m.Code.length:Int)<x.To))||!(zx x.At 0 (i64.wrap ((m.Code.length:Int)-1)))) with
   |true=>rfl
   |false=>cases (x.C == []) <;> rfl) (by unfold zbi;rw [Xm];rfl)]
 rw [Qa,ZF];rfl
def gB{α:Type}(bad:List α->α->Bool):List α->List α->Bool
 |_,[]=>false
 |pre,x ::r=>bad pre x||gB bad (pre++[x]) r
theorem Om{α:Type}{body:Int->Option (Sum Int (Sum Unit Bool))}{l:List α}{bad:List α->α->Bool}(hl:l.length≤9223372036854775807)
  (hb:∀(i:Nat) x,l[i]?=some x->body (i:Int)=cond (bad (l.take i) x) (some (.inr (.inr false))) (some (.inl (i64.wrap ((i:Int)+1)))))
  (he:body (l.length:Int)=some (.inr (.inl ()))):zk body 0=some (cond (gB bad [] l) (.inr false) (.inl ())):=by
 have key:∀(r pre:List α),l=pre++r->zk body (pre.length:Int)=some (cond (gB bad pre r) (.inr false) (.inl ())):=by
  intro r
  induction r with
  |nil =>
   intro pre h;rw [Qx] at h;subst h;rw [zG,he];rfl
  |cons x r ih =>
   intro pre h
   have hlen:l.length=pre.length+(r.length+1):=by rw [h];simp
   have hx:l[pre.length]?=some x:=by rw [h];simp
   have ht:l.take pre.length=pre:=by rw [h];simp
   rw [zG,hb _ x hx,ht];unfold gB
   cases bad pre x with
   |true=>rfl
   |false =>
    rw [zz (by omega)];have:=ih (pre++[x]) (by rw [h];simp);rw [show (pre++[x]).length=pre.length+1 by simp] at this;exact this
 exact key l [] rfl
theorem zGo{α:Type}(p:α->Bool):∀(pre r:List α),gB (λ_ x=>p x) pre r=r.any p
 |_,[]=>rfl
 |pre,x ::r=>by
  show (p x||gB _ _ r)=_;rw [zGo p (pre++[x]) r,QZ]
theorem zF5{α:Type}(ok:α->Bool)(nm:α->List UInt8):∀(pre r:List α),uB ok nm pre r=gB (λpre x=>!ok x||pre.any (λy=>nm x == nm y)) pre r
 |_,[]=>rfl
 |pre,x ::r=>by
  show (_||uB ok nm (pre++[x]) r)=(_||gB _ (pre++[x]) r);rw [zF5 ok nm (pre++[x]) r]
theorem Hg{α:Type}{body:Int->Option (Sum Int (Sum Unit Bool))}{l:List α}{bad:α->Bool}(hl:l.length≤9223372036854775807)
  (hb:∀(i:Nat) x,l[i]?=some x->body (i:Int)=cond (bad x) (some (.inr (.inr false))) (some (.inl (i64.wrap ((i:Int)+1)))))
  (he:body (l.length:Int)=some (.inr (.inl ()))):zk body 0=some (cond (l.any bad) (.inr false) (.inl ())):=by
 rw [Om (bad:=λ_ x=>bad x) hl hb he,zGo]
def U4(v:List UInt8):Bool:=(((v == [73])||(v == [78]))||(v == [84]))||ZD v
theorem zvE{s:List UInt8}(h:Len s):zpr s=some (U4 s):=by
 unfold zpr U4;rw [znu h]
 cases (((s == [73])||(s == [78]))||(s == [84])) <;> rfl
def Uz(l:List (List UInt8)):Bool:=!(l.any λs=>!U4 s)
theorem zmG{l:List (List UInt8)}(hl:XG l)(h:∀s∈l,Len s):ziJ l=some (Uz l):=by
 unfold ziJ zbm zdc
 rw [show ((zk (λz=>zbq l z) 0).bind λo=>zB o (λb=>zfg) some)=_ from Zo (p:=λs=>!U4 s) hl
  (λi x hx=>by
   unfold zbq zkO;rw [Xk hx,zo,hx];simp only [Qa,RT];rw [zvE (h x (Qc hx))]
   rfl) (by unfold zbq;rw [Xm];rfl)]
 rw [Qa,ZF];rfl
theorem zvP{l:List (List UInt8)}(hl:XG l)(n:List UInt8):zI l n=some (l.any λy=>n == y):=by
 unfold zI z8
 rw [show ((zk (λz=>Ix l n z) 0).bind λo=>zB o (λb=>zhw) some)=_ from Zo (p:=λy:List UInt8=>n == y) hl
  (λi x hx=>by unfold Ix;rw [Xk hx,zo,hx];rfl) (by unfold Ix;rw [Xm];rfl)]
 exact congrArg some (ZF _ 0 l)
def Wk(m:zb)(pre:List zV)(x:zV):Bool:=
 ((!(decide (0≤x.At)&&decide (x.At<(m.Code.length:Int))))||(pre.getLast?.elim false (λy=>decide (x.At≤y.At)))) ||
 (((!((x.Locals.length:Int) == m.Locals))||decide (m.Stack<(x.Stack.length:Int)))||((!Uz x.Locals||!Uz x.Stack)||x.Stack.any (λy=>[84] == y)))
def HC(m:zb):Bool:=!(gB (Wk m) [] m.Maps)&&decide ((m.Maps.length:Int)≤100)
structure zBV(m:zb):Prop where
 len:XG m.Maps
 code:XG m.Code
 all:∀x∈m.Maps,(XG x.Locals/\∀s∈x.Locals,Len s)/\(XG x.Stack/\∀s∈x.Stack,Len s)
theorem zx1{α:Type}{l:List α}{i:Nat}(h:i<l.length)(h0:0<i):(l.take i).getLast?=l[i-1]?:=by
 rw [Jp,JK (by simp;omega)];congr 1;simp;omega
theorem zvC{m:zb}(h:zBV m):zpp m=some (HC m):=by
 have j2:∀(i:Nat) (x:zV) (b:Bool),x∈m.Maps->Ef m (i:Int) x b=cond (b||(((!((x.Locals.length:Int) == m.Locals))||decide (m.Stack<(x.Stack.length:Int)))||((!Uz x.Locals||!Uz x.Stack)||x.Stack.any (λy=>[84] == y)))) (some (.inr (.inr false))) (some (.inl (i64.wrap ((i:Int)+1)))):=λi x b hx=>by
  obtain ⟨⟨h1,h2⟩,h3,h4⟩:=h.all x hx;unfold Ef;rw [zmG h1 h2,zmG h3 h4,zvP h3]
  cases b with
  |true=>rfl
  |false =>
   cases ((!((x.Locals.length:Int) == m.Locals))||decide (m.Stack<(x.Stack.length:Int))) with
   |true=>rfl
   |false =>
    cases Uz x.Locals with
    |false=>rfl
    |true=>cases Uz x.Stack <;> rfl
 have hl:zk (λz=>Ee m z) 0=_:=Om (bad:=Wk m) h.len (λi x hx=>by
  have hm:=Qc hx;have hi:=(Qb.1 hx).1;have hlen:=h.len;have hcode:=h.code;unfold XG at hlen hcode;show Ee m (i:Int)=_;unfold Ee Wk;rw [Xk hx,zo,hx];simp only [Qa,RT]
  have hb:zx x.At 0 (i64.wrap ((m.Code.length:Int)-1))=(decide (0≤x.At)&&decide (x.At<(m.Code.length:Int))):=by
   show (decide (0≤x.At)&&decide (x.At≤i64.wrap ((m.Code.length:Int)-1)))=_;rw [ZE (by omega) (by omega)];congr 1;exact decide_eq_decide.2 (by omega)
  rw [hb]
  cases (decide (0≤x.At)&&decide (x.At<(m.Code.length:Int))) with
  |false=>exact j2 i x true hm
  |true =>
   rcases Jo i with h0 |h0
   .subst h0;exact j2 0 x false hm
   .rw [RD (show (0:Int)<(i:Int) by omega),zx1 hi h0]
    have e:i64.wrap ((i:Int)-1)=((i-1:Nat):Int):=by
     rw [ZE (by omega) (by omega)];omega
    rw [e,zo,Qe (show i-1<m.Maps.length by omega)]
    exact j2 i x _ hm) (by show Ee m (m.Maps.length:Int)=_;unfold Ee;rw [Xm];rfl)
 unfold zpp HC;rw [hl];cases gB (Wk m) [] m.Maps <;> rfl
theorem zFP(v:List UInt8):(cond (!(v == [84])&&!(v == [78])) (!Xq v) false)=!U4 v:=by
 by_cases h1:v=[73]
 .subst h1;decide +kernel
 by_cases h2:v=[78]
 .subst h2;decide +kernel
 by_cases h3:v=[84]
 .subst h3;decide +kernel
 unfold U4 ZD;rw [RB.2 h1,RB.2 h2,RB.2 h3];simp
theorem zFQ(v:List UInt8):(cond (!(v == [78])) (!Xq v) false)=(!U4 v||([84] == v)):=by
 by_cases h1:v=[73]
 .subst h1;decide +kernel
 by_cases h2:v=[78]
 .subst h2;decide +kernel
 by_cases h3:v=[84]
 .subst h3;decide +kernel
 unfold U4 ZD;rw [RB.2 h1,RB.2 h2,RB.2 h3,RB.2 (Ne.symm h3)];simp
theorem zIq{α:Type}(l:List α)(p q:α->Bool):l.any (λx=>p x||q x)=(l.any p||l.any q):=by
 induction l with
 |nil=>rfl
 |cons x l ih =>
  simp only [QZ,ih];cases p x <;> cases q x <;> simp
theorem zxH{m:zb}(h:zBV m):zru m=some (HC m):=by
 have l7:∀x:zV,x∈m.Maps->zk (λz=>W5 x z) 0=some (cond (!Uz x.Locals) (.inr false) (.inl ())):=λx hx=>by
  obtain ⟨⟨h1,h2⟩,h3,h4⟩:=h.all x hx
  have:=Hg (body:=λz=>W5 x z) (bad:=λv=>!U4 v) h1 (λi v hv=>by
   show W5 x (i:Int)=_;unfold W5;rw [Xk hv,zo,hv];simp only [Qa,RT];rw [HS (h2 v (Qc hv)),<-zFP]
   cases (!(v == [84])&&!(v == [78])) <;> rfl) (by show W5 x (x.Locals.length:Int)=_;unfold W5;rw [Xm];rfl)
  rw [this];unfold Uz;rw [Bool.not_not]
 have l9:∀x:zV,x∈m.Maps->zk (λz=>W4 x z) 0=some (cond (!Uz x.Stack||x.Stack.any (λy=>[84] == y)) (.inr false) (.inl ())):=λx hx=>by
  obtain ⟨⟨h1,h2⟩,h3,h4⟩:=h.all x hx
  have:=Hg (body:=λz=>W4 x z) (bad:=λv=>!U4 v||([84] == v)) h3 (λi v hv=>by
   show W4 x (i:Int)=_;unfold W4;rw [Xk hv,zo,hv];simp only [Qa,RT];rw [HS (h4 v (Qc hv)),<-zFQ]
   cases (!(v == [78])) <;> rfl) (by show W4 x (x.Stack.length:Int)=_;unfold W4;rw [Xm];rfl)
  rw [this,zIq];unfold Uz;rw [Bool.not_not]
 have j6:∀(i:Nat) (x:zV) (b:Bool),x∈m.Maps->Gi (i:Int) x b=cond (b||((!Uz x.Locals||!Uz x.Stack)||x.Stack.any (λy=>[84] == y))) (some (.inr (.inr false))) (some (.inl (i64.wrap ((i:Int)+1)))):=λi x b hx=>by
  unfold Gi;rw [l7 x hx]
  cases b with
  |true=>rfl
  |false =>
   cases Uz x.Locals with
   |false=>rfl
   |true =>
    show zo1 (i:Int) x=_;unfold zo1;rw [l9 x hx]
    cases Uz x.Stack with
    |false=>rfl
    |true=>cases x.Stack.any (λy=>[84] == y) <;> rfl
 have hl:zk (λz=>O6 m z) 0=_:=Om (bad:=Wk m) h.len (λi x hx=>by
  have hm:=Qc hx;have hi:=(Qb.1 hx).1;have hlen:=h.len;have hcode:=h.code;unfold XG at hlen hcode;show O6 m (i:Int)=_;unfold O6 Wk;rw [Xk hx,zo,hx];simp only [Qa,RT];by_cases h1:x.At<0
  .rw [RD h1,RE (show ¬0≤x.At by omega)];exact j6 i x true hm
  rw [RE h1,RD (show 0≤x.At by omega)];by_cases h2:(m.Code.length:Int)≤x.At
  .rw [RD h2,RE (show ¬x.At<(m.Code.length:Int) by omega)];exact j6 i x true hm
  rw [RE h2,RD (show x.At<(m.Code.length:Int) by omega)]
  rcases Jo i with h0 |h0
  .subst h0;show cond (!((x.Locals.length:Int) == m.Locals)) (Gi ((0:Nat):Int) x true) (Gi ((0:Nat):Int) x (decide (m.Stack<(x.Stack.length:Int))))=_
   cases (!((x.Locals.length:Int) == m.Locals)) with
   |true=>exact j6 0 x true hm
   |false=>exact j6 0 x _ hm
  .rw [RD (show (0:Int)<(i:Int) by omega),zx1 hi h0]
   have e:i64.wrap ((i:Int)-1)=((i-1:Nat):Int):=by
    rw [ZE (by omega) (by omega)];omega
   rw [e,zo,Qe (show i-1<m.Maps.length by omega)];simp only [RT,RF,Qa,Ys]
   cases decide (x.At≤m.Maps[i-1].At) with
   |true=>exact j6 i x true hm
   |false =>
    cases (!((x.Locals.length:Int) == m.Locals)) with
    |true=>exact j6 i x true hm
    |false=>exact j6 i x _ hm) (by show O6 m (m.Maps.length:Int)=_;unfold O6;rw [Xm];rfl)
 unfold zru HC;rw [hl];by_cases hn:(m.Maps.length:Int)≤100
 .rw [RD hn,RE (show ¬100<(m.Maps.length:Int) by omega)];cases gB (Wk m) [] m.Maps <;> rfl
 .rw [RE hn,RD (show 100<(m.Maps.length:Int) by omega),Q9];rfl
structure zGb(m:zb):Prop where
 code:XG m.Code/\∀x∈m.Code,Len x.C/\Len x.M
 traps:XG m.Traps/\∀x∈m.Traps,Len x.C
theorem zxF{m:zb}(h:zGb m):zrt m=some (instrN m.Code&&HE m):=by
 have hcl:=h.code.1;unfold XG at hcl
 have lc:zk (λz=>OR m z) 0=some (cond (m.Code.any (BW (m.Code.length:Int))) (.inr false) (.inl ())):=
  Hg h.code.1 (λi x hx=>by
   have hm:=h.code.2 x (Qc hx);show OR m (i:Int)=_;unfold OR;rw [Xk hx,zo,hx];simp only [Qa,RT];rw [zuN hm.1 hm.2]
   rfl) (by show OR m (m.Code.length:Int)=_;unfold OR;rw [Xm];rfl)
 have lt:zk (λz=>OQ m z) 0=some (cond (m.Traps.any (GZ (m.Code.length:Int))) (.inr false) (.inl ())):=
  Hg h.traps.1 (λi x hx=>by
   have hm:=h.traps.2 x (Qc hx);show OQ m (i:Int)=_;unfold OQ;rw [Xk hx,zo,hx];simp only [Qa,RT];rw [O7 hm]
   have hb:(!(zx x.At 0 (i64.wrap ((m.Code.length:Int)-1))))=(decide (x.At<0)||decide ((m.Code.length:Int)≤x.At)):=by
    show (!(decide (0≤x.At)&&decide (x.At≤i64.wrap ((m.Code.length:Int)-1))))=_;rw [ZE (by omega) (by omega)];by_cases h1:x.At<0
    .rw [RD h1,RE (show ¬0≤x.At by omega)];rfl
    .rw [RE h1,RD (show 0≤x.At by omega)];by_cases h2:(m.Code.length:Int)≤x.At
     .rw [RD h2,RE (show ¬x.At≤(m.Code.length:Int)-1 by omega)];rfl
     .rw [RE h2,RD (show x.At≤(m.Code.length:Int)-1 by omega)];rfl
   unfold GZ;rw [hb]
   cases decide (x.From<0) <;> cases decide (x.To≤x.From) <;> cases decide ((m.Code.length:Int)<x.To) <;> cases decide (x.At<0) <;> cases decide ((m.Code.length:Int)≤x.At) <;> cases (x.C == []) <;> rfl) (by show OQ m (m.Traps.length:Int)=_;unfold OQ;rw [Xm];rfl)
 have hn:decide (6<(m.Traps.length:Int))=!decide ((m.Traps.length:Int)≤6):=by
  by_cases h6:(m.Traps.length:Int)≤6
  .rw [RD h6,RE (show ¬6<(m.Traps.length:Int) by omega)];rfl
  .rw [RE h6,RD (show 6<(m.Traps.length:Int) by omega)];rfl
 have k2:zmj m=some (!m.Traps.any (GZ (m.Code.length:Int))):=by
  unfold zmj;rw [lt];cases m.Traps.any (GZ (m.Code.length:Int)) <;> rfl
 unfold zrt HE instrN;rw [lc,hn];by_cases h1:(m.Code.length:Int)<1
 .rw [RD h1,show zx (m.Code.length:Int) 1 100=false from by show (decide (1≤(m.Code.length:Int))&&_)=false;rw [RE (show ¬1≤(m.Code.length:Int) by omega)];rfl];rfl
 by_cases h2:100<(m.Code.length:Int)
 .rw [RD h2,show zx (m.Code.length:Int) 1 100=false from by show (decide (1≤(m.Code.length:Int))&&decide ((m.Code.length:Int)≤100))=false;rw [RE (show ¬(m.Code.length:Int)≤100 by omega),Q9],Jr];rfl
 rw [RE h1,RE h2,show zx (m.Code.length:Int) 1 100=true from by show (decide (1≤(m.Code.length:Int))&&decide ((m.Code.length:Int)≤100))=true;rw [RD (show 1≤(m.Code.length:Int) by omega),RD (show (m.Code.length:Int)≤100 by omega)];rfl]
 have e:i64.wrap ((m.Code.length:Int)-1)=((m.Code.length-1:Nat):Int):=by
  rw [ZE (by omega) (by omega)];omega
 rw [e,zo,<-Jp]
 cases hg:m.Code.getLast? with
 |none =>
  rw [Yi] at hg;rw [hg] at h1;simp at h1
 |some y =>
  simp only [Qa,Ys];rw [show HN y.Op=GE y.Op from rfl]
  cases GE y.Op with
  |false=>rfl
  |true =>
   cases decide ((m.Traps.length:Int)≤6) with
   |false =>
    cases m.Code.any (BW (m.Code.length:Int)) <;> cases m.Traps.any (GZ (m.Code.length:Int)) <;> rfl
   |true =>
    cases m.Code.any (BW (m.Code.length:Int)) with
    |true=>rfl
    |false =>
     show zmj m=_;rw [k2];cases m.Traps.any (GZ (m.Code.length:Int)) <;> rfl
structure GIn(m:zb):Prop where
 name:Len m.Name
 params:m.Params.length≤1000000000000/\∀s∈m.Params,Len s
 ret:Len m.Ret
 maps:zBV m
 body:zGb m
 small:m.Code.length≤1000000000000/\m.Maps.length≤1000000000000/\m.Traps.length≤1000000000000
def ZY(m:zb):Bool:=
 ((!((!Gt m.Name)||decide (6<(m.Params.length:Int)))&&IU m.Params)&&Z2 m.Ret)&&cond m.Abstract (HV m)
  (!((m.Name == [36,105,110,105,116])&&(((!m.Static)||decide (0<(m.Params.length:Int)))||(!(m.Ret == [86]))))&&(zx m.Locals (Zp m) 16&&(zx m.Stack 0 16&&((instrN m.Code&&HE m)&&HC m))))
theorem zJ0{m:zb}(h:GIn m):XG m.Params:=by have:=h.params.1;unfold XG;omega
theorem zsE{m:zb}(h:GIn m):zl8 m=some (ZY m):=by
 unfold zl8 ZY;rw [zoK h.name,Qa,zut (zJ0 h) h.params.2,zyA h.ret,zow h.body.code.1 h.body.code.2,zvC h.maps,zus h.body.traps.1 h.body.traps.2]
 cases ((!Gt m.Name)||decide (6<(m.Params.length:Int))) with
 |true=>rfl
 |false =>
  cases IU m.Params with
  |false=>rfl
  |true =>
   cases Z2 m.Ret with
   |false=>rfl
   |true =>
    cases m.Abstract with
    |true=>rfl
    |false =>
     cases ((m.Name == [36,105,110,105,116])&&(((!m.Static)||decide (0<(m.Params.length:Int)))||(!(m.Ret == [86])))) with
     |true=>rfl
     |false =>
      cases zx m.Locals (Zp m) 16 with
      |false=>rfl
      |true =>
       cases zx m.Stack 0 16 with
       |false=>rfl
       |true=>cases instrN m.Code <;> cases HC m <;> cases HE m <;> rfl
theorem zyX{s:List UInt8}(h:Len s):zs4 s=some (Z2 s):=by
 unfold zs4 Z2;rw [HS h];cases (s == [86]) <;> rfl
theorem zES{m:zb}(h:GIn m):HV m=(((((((!m.Static)&&(!(m.Name == [36,105,110,105,116])))&&(m.Locals == (0:Int)))&&(m.Stack == (0:Int)))&&((m.Code.length:Int) == (0:Int)))&&((m.Maps.length:Int) == (0:Int)))&&((m.Traps.length:Int) == (0:Int))):=by
 obtain ⟨h1,h2,h3⟩:=h.small
 have key:(((m.Code.length:Int)+(m.Maps.length:Int)+(m.Traps.length:Int)) == (0:Int))=((((m.Code.length:Int) == 0)&&((m.Maps.length:Int) == 0))&&((m.Traps.length:Int) == 0)):=by
  by_cases a:(m.Code.length:Int)=0
  .by_cases b:(m.Maps.length:Int)=0
   .rw [a,b,Int.zero_add,Int.zero_add];rfl
   .rw [RB.2 (show ((m.Code.length:Int)+m.Maps.length+m.Traps.length)≠0 by omega),RB.2 b,Q9,Jj]
  .rw [RB.2 (show ((m.Code.length:Int)+m.Maps.length+m.Traps.length)≠0 by omega),RB.2 a,Jj,Jj]
 unfold HV;rw [ZE (n:=(m.Code.length:Int)+(m.Maps.length:Int)) (by omega) (by omega),ZE (by omega) (by omega),key];simp only [Bool.and_assoc]
theorem ztc(x a b:Int):(decide (x<a)||decide (b<x))=!(zx x a b):=by
 show _=!(decide (a≤x)&&decide (x≤b));by_cases h1:x<a
 .rw [RD h1,RE (show ¬a≤x by omega)];rfl
 .rw [RE h1,RD (show a≤x by omega)];by_cases h2:b<x
  .rw [RD h2,RE (show ¬x≤b by omega)];rfl
  .rw [RE h2,RD (show x≤b by omega)];rfl
theorem zr9{m:zb}(h:GIn m):ziN m=some (ZY m):=by
 have lp:zk (λz=>ED m z) 0=some (cond (m.Params.any λs=>!Xq s) (.inr false) (.inl ())):=
  Hg (zJ0 h) (λi x hx=>by
   show ED m (i:Int)=_;unfold ED;rw [Xk hx,zo,hx];simp only [Qa,RT];rw [HS (h.params.2 x (Qc hx))]
   rfl) (by show ED m (m.Params.length:Int)=_;unfold ED;rw [Xm];rfl)
 have j3:∀a,zgW m a=some (zx m.Locals a 16&&(zx m.Stack 0 16&&((instrN m.Code&&HE m)&&HC m))):=λa=>by
  unfold zgW;rw [ztc,JL,ztc,zxF h.body,zxH h.maps]
  cases zx m.Locals a 16 with
  |false=>rfl
  |true =>
   cases zx m.Stack 0 16 with
   |false=>rfl
   |true=>cases (instrN m.Code&&HE m) <;> rfl
 have k2:zj7 m=some (cond m.Abstract (HV m)
  (!((m.Name == [36,105,110,105,116])&&(((!m.Static)||decide (0<(m.Params.length:Int)))||(!(m.Ret == [86]))))&&(zx m.Locals (Zp m) 16&&(zx m.Stack 0 16&&((instrN m.Code&&HE m)&&HC m))))):=by
  unfold zj7 Zp;rw [j3,j3,zES h]
  cases m.Abstract with
  |true=>rfl
  |false =>
   cases ((m.Name == [36,105,110,105,116])&&(((!m.Static)||decide (0<(m.Params.length:Int)))||(!(m.Ret == [86])))) with
   |true=>rfl
   |false=>cases m.Static <;> rfl
 unfold ziN ZY IU;rw [zo0 h.name,Qa,zyX h.ret,lp]
 cases ((!Gt m.Name)||decide (6<(m.Params.length:Int))) with
 |true=>rfl
 |false =>
  cases Z2 m.Ret with
  |false=>rw [Q9];rfl
  |true =>
   cases m.Params.any λs=>!Xq s with
   |true=>rfl
   |false=>exact k2
theorem zyl{l:List zb}(hl:XG l)(h:∀m∈l,GIn m)(n:Int)(a b:List UInt8)(i:Bool)(c:List (List UInt8))(d:List zg)(e:List zb):
  zeZ l n a b i c d e=cond (uB (λm=>(m.Abstract == i)&&ZY m) (·.Name) [] l) (some false) (some (decide ((l.length:Int)≤n))):=by
 unfold zeZ;refine zum (ok:=λm=>(m.Abstract == i)&&ZY m) (nm:=(·.Name)) hl (λj x hx=>?_) ?_
 .have hm:=h x (Qc hx);have hi:=(Qb.1 hx).1;unfold zg6 znf;rw [Xk hx,zo,hx];simp only [Qa,RT];rw [zsE hm,Oi (by omega)];simp only [Qa];rw [zCT (by unfold XG at *;rw [QI];omega)]
  cases (x.Abstract == i) with
  |false=>rfl
  |true=>cases ZY x <;> rfl
 .unfold zg6;rw [Xm];rfl
structure Wq(c:za):Prop where
 name:Len c.Name
 super:Len c.Super
 impl:XG c.Impl/\∀s∈c.Impl,Len s
 fields:XG c.Fields/\∀f∈c.Fields,Len f.Name/\Len f.Type_
 methods:XG c.Methods/\∀m∈c.Methods,GIn m
def ZN(c:za):Bool:=
 !(c.Interface&&((!(c.Super == [79,98,106,101,99,116]))||decide (0<(c.Fields.length:Int)))) &&
 (((((XF c.Name&&XF c.Super)&&(!(uB XF id [] c.Impl)&&decide ((c.Impl.length:Int)≤4)))&&(!(uB K5 (·.Name) [] c.Fields)&&decide ((c.Fields.length:Int)≤8)))) &&
  (!(uB (λm=>(m.Abstract == c.Interface)&&ZY m) (·.Name) [] c.Methods)&&decide ((c.Methods.length:Int)≤8)))
theorem zvB{c:za}(h:Wq c):zq0 c=some (ZN c):=by
 have e:∀(b d:Bool),cond b (some false) (some d)=some (!b&&d):=λb d=>by cases b <;> rfl
 unfold zq0 ZN;rw [zB5 h.fields.1 h.fields.2,zyl h.methods.1 h.methods.2,Ed h.name,Ed h.super,zEG h.impl.1 h.impl.2,e,e,e]
 cases (c.Interface&&((!(c.Super == [79,98,106,101,99,116]))||decide (0<(c.Fields.length:Int)))) with
 |true=>rfl
 |false =>
  cases XF c.Name with
  |false=>rfl
  |true=>cases XF c.Super <;> rfl
theorem zvL{α:Type}(p:α->Bool):∀(l:List α) (k i:Nat) (x:α),l[i]?=some x->p x=true->(ixF p k l == ((k+i:Nat):Int))=!((l.take i).any p)
 | [],k,i,x,h,_=>by simp at h
 |y ::r,k,0,x,h,hp=>by
  have:y=x:=by simpa using h
  subst this;show (cond (p y) (k:Int) (ixF p (k+1) r) == (k:Int))=true;rw [hp];exact beq_self_eq_true _
 |y ::r,k,i+1,x,h,hp=>by
  have h':r[i]?=some x:=by simpa using h
  show (cond (p y) (k:Int) (ixF p (k+1) r) == ((k+(i+1):Nat):Int))=!(p y||(r.take i).any p)
  cases p y with
  |true=>exact RB.2 (show (k:Int)≠((k+(i+1):Nat):Int) by omega)
  |false =>
   have:=zvL p r (k+1) i x h' hp;rw [show k+1+i=k+(i+1) by omega] at this;exact this
theorem zrq{c:za}(hl:XG c.Fields)(n:List UInt8):zmX c n=some (ixF (λy=>y.Name == n) 0 c.Fields):=by
 unfold zmX
 rw [show ((zk (λz=>zlb c n z) 0).bind λo=>zB o (λb=>zrr) some)=_ from Zo (p:=λy:zg=>y.Name == n) hl
  (λi x hx=>by unfold zlb;rw [Xk hx,zo,hx];rfl) (by unfold zlb;rw [Xm];rfl)]
theorem Ba{c:za}(hl:XG c.Methods)(n:List UInt8):Gg c n=some (ixF (λy=>y.Name == n) 0 c.Methods):=by
 unfold Gg
 rw [show ((zk (λz=>zkr c n z) 0).bind λo=>zB o (λb=>zp6) some)=_ from Zo (p:=λy:zb=>y.Name == n) hl
  (λi x hx=>by unfold zkr;rw [Xk hx,zo,hx];rfl) (by unfold zkr;rw [Xm];rfl)]
theorem zIr(x y:List UInt8):(x == y)=(y == x):=by
 by_cases h:x=y
 .rw [h]
 .rw [RB.2 h,RB.2 (Ne.symm h)]
theorem zy5{α:Type}(l:List α)(f:α->List UInt8)(n:List UInt8):(l.any λy=>f y == n)=l.any λy=>n == f y:=by
 congr 1;funext y;exact zIr _ _
theorem zsN{c:za}(h:Wq c):zlc c=some (ZN c):=by
 have himp:=h.impl.1;unfold XG at himp
 have lf:zk (λz=>EG c z) 0=some (cond (uB K5 (·.Name) [] c.Fields) (.inr false) (.inl ())):=by
  rw [zF5];refine Om h.fields.1 (λi x hx=>?_) (by show EG c (c.Fields.length:Int)=_;unfold EG;rw [Xm];rfl);have hm:=h.fields.2 x (Qc hx);have hfi:=zvL (λy:zg=>y.Name == x.Name) c.Fields 0 i x hx (beq_self_eq_true _);rw [QP,zy5] at hfi;show EG c (i:Int)=_;unfold EG K5;rw [Xk hx,zo,hx];simp only [Qa,RT];rw [zo0 hm.1,HS hm.2,zrq h.fields.1];simp only [Qa];rw [hfi]
  cases Gt x.Name with
  |false=>rfl
  |true =>
   cases (x.Name == [36,105,110,105,116]) with
   |true=>rfl
   |false =>
    cases Xq x.Type_ with
    |false=>rfl
    |true=>cases (c.Fields.take i).any λy=>x.Name == y.Name <;> rfl
 have lm:zk (λz=>EF c z) 0=some (cond (uB (λm=>(m.Abstract == c.Interface)&&ZY m) (·.Name) [] c.Methods) (.inr false) (.inl ())):=by
  rw [zF5];refine Om h.methods.1 (λi x hx=>?_) (by show EF c (c.Methods.length:Int)=_;unfold EF;rw [Xm];rfl);have hm:=h.methods.2 x (Qc hx);have hfi:=zvL (λy:zb=>y.Name == x.Name) c.Methods 0 i x hx (beq_self_eq_true _);rw [QP,zy5] at hfi;show EF c (i:Int)=_;unfold EF;rw [Xk hx,zo,hx];simp only [Qa,RT];rw [zr9 hm,Ba h.methods.1];simp only [Qa];rw [hfi]
  cases (x.Abstract == c.Interface) with
  |false=>rfl
  |true =>
   cases ZY x with
   |false=>cases (c.Methods.take i).any λy=>x.Name == y.Name <;> rfl
   |true=>cases (c.Methods.take i).any λy=>x.Name == y.Name <;> rfl
 have li:zk (λz=>EH c z) 0=some (cond (uB XF id [] c.Impl) (.inr false) (.inl ())):=by
  rw [zF5];refine Om h.impl.1 (λi x hx=>?_) (by show EH c (c.Impl.length:Int)=_;unfold EH;rw [Xm];rfl);have hm:=h.impl.2 x (Qc hx);have hi:=(Qb.1 hx).1
  have hin:zk (λz=>EI c (i:Int) z) 0=some (cond ((c.Impl.take i).any λy=>y == x) (.inr false) (.inl ())):=by
   have ht:(c.Impl.take i).length=i:=by rw [QI];omega
   refine Hg (by omega) (λj y hy=>?_) ?_
   .have hj:=(Qb.1 hy).1;rw [ht] at hj;rw [JK hj] at hy;show EI c (i:Int) (j:Int)=_;unfold EI;rw [RD (show (j:Int)<(i:Int) by omega),zo,hy,zo,hx];rfl
   .rw [ht];show EI c (i:Int) (i:Int)=_;unfold EI;rw [RE (show ¬(i:Int)<(i:Int) by omega)];rfl
  show EH c (i:Int)=_;unfold EH;rw [Xk hx,zo,hx];simp only [Qa,RT];rw [O7 hm,hin,show ((c.Impl.take i).any λy=>y == x)=(c.Impl.take i).any λy=>id x == id y from zy5 _ id x]
  cases XF x with
  |false=>rfl
  |true=>cases (c.Impl.take i).any λy=>id x == id y <;> rfl
 have hle:∀(n:Nat) (b:Int),decide (b<(n:Int))=!decide ((n:Int)≤b):=λn b=>by
  by_cases hb:(n:Int)≤b
  .rw [RD hb,RE (show ¬b<(n:Int) by omega)];rfl
  .rw [RE hb,RD (show b<(n:Int) by omega)];rfl
 unfold zlc zn4 zn5 ZN;rw [O7 h.name,O7 h.super,li,lf,lm,hle c.Impl.length 4,hle c.Fields.length 8,hle c.Methods.length 8]
 generalize (c.Interface&&((!(c.Super == [79,98,106,101,99,116]))||decide (0<(c.Fields.length:Int))))=B
 generalize uB XF id [] c.Impl=u1;generalize uB K5 (·.Name) [] c.Fields=u2;generalize uB (λm=>(m.Abstract == c.Interface)&&ZY m) (·.Name) [] c.Methods=u3;generalize decide ((c.Impl.length:Int)≤4)=d1;generalize decide ((c.Fields.length:Int)≤8)=d2;generalize decide ((c.Methods.length:Int)≤8)=d3
 cases XF c.Name with
 |false=>cases B <;> rfl
 |true =>
  cases XF c.Super with
  |false=>cases B <;> rfl
  |true=>cases B <;> cases u1 <;> cases u2 <;> cases u3 <;> cases d1 <;> cases d2 <;> cases d3 <;> rfl
theorem zxV{body:Int->Option (Sum Int (Sum Unit Bool))}{a b:List (List UInt8)}(hl:a.length≤1000000)(hn:a.length=b.length)
  (hb:∀(i:Nat) x y,a[i]?=some x->b[i]?=some y->body (i:Int)=cond (!(x == y)) (some (.inr (.inr false))) (some (.inl (i64.wrap ((i:Int)+1)))))
  (he:body (a.length:Int)=some (.inr (.inl ()))):zk body 0=some (cond (a == b) (.inl ()) (.inr false)):=by
 have key:∀(r s pre pre':List (List UInt8)),pre.length=pre'.length->a=pre++r->b=pre'++s->zk body (pre.length:Int)=some (cond (r == s) (.inl ()) (.inr false)):=by
  intro r
  induction r with
  |nil =>
   intro s pre pre' hp h1 h2
   have:s=[]:=by
    have:a.length=pre.length:=by rw [h1];simp
    have:b.length=pre'.length+s.length:=by rw [h2];simp
    exact Qf (by omega)
   subst this;rw [Qx] at h1;subst h1;rw [zG,he];rfl
  |cons x r ih =>
   intro s pre pre' hp h1 h2
   have hlen:a.length=pre.length+(r.length+1):=by rw [h1];simp
   have hlen2:b.length=pre'.length+s.length:=by rw [h2];simp
   cases s with
   |nil=>simp at hlen2;omega
   |cons y s =>
    have hx:a[pre.length]?=some x:=by rw [h1];simp
    have hy:b[pre.length]?=some y:=by rw [h2,hp];simp
    rw [zG,hb _ x y hx hy];rw [show ((x ::r) == (y ::s))=((x == y)&&(r == s)) from rfl]
    cases x == y with
    |false=>rfl
    |true =>
     rw [zz (by omega)];have:=ih s (pre++[x]) (pre'++[y]) (by simp [hp]) (by rw [h1];simp) (by rw [h2];simp);rw [show (pre++[x]).length=pre.length+1 by simp] at this;exact this
 exact key a b [] [] rfl rfl rfl
theorem zID{α:Type}{l:List α}{i:Nat}{x:α}(h:l[i]?=some x):decide ((i:Int)<(l.length:Int))=true:=
 RD (by have:=(Qb.1 h).1;omega)
theorem zIX{α:Type}{l:List α}:decide ((l.length:Int)<(l.length:Int))=false:=RE (by omega)
theorem zGw{a b:List (List UInt8)}(h:a.length≠b.length):(a == b)=false:=by
 refine RB.2 λe=>h (by rw [e])
theorem zud{a b:List (List UInt8)}(h:a.length≤1000000):zdy a b=some (a == b):=by
 unfold zdy;by_cases hl:a.length=b.length
 .have e:((a.length:Int) == (b.length:Int))=true:=by rw [hl];exact beq_self_eq_true _
  rw [e,show zk (λz=>zcH a b z) 0=_ from zxV h hl (λi x y hx hy=>by
   unfold zcH
   rw [zID hx,zo,hx,zo,hy];rfl) (by unfold zcH;rw [zIX];rfl)]
  cases a == b <;> rfl
 .have e:((a.length:Int) == (b.length:Int))=false:=RB.2 (by omega);rw [e,zGw hl];rfl
theorem zsM{a b:List (List UInt8)}(h:a.length≤1000000):KA a b=some (a == b):=by
 unfold KA;by_cases hl:a.length=b.length
 .have e:((a.length:Int) == (b.length:Int))=true:=by rw [hl];exact beq_self_eq_true _
  rw [e,show zk (λz=>DZ a b z) 0=_ from zxV h hl (λi x y hx hy=>by
   unfold DZ
   rw [zID hx,zo,hx,zo,hy];rfl) (by unfold DZ;rw [zIX];rfl)]
  cases a == b <;> rfl
 .have e:((a.length:Int) == (b.length:Int))=false:=RB.2 (by omega);rw [e,zGw hl];rfl
abbrev Tx:=List UInt8
def cl(L:List za)(n:Tx):Option za:=L.find? (λc=>c.Name == n)
def atN(L:List za)(n:Tx):Int:=ixF (λc=>c.Name == n) 0 L
def Xj(L:List za)(n:Tx):Bool:=L.any (λc=>c.Name == n)
def isF(L:List za)(n:Tx):Bool:=match cl L n with |some c=>c.Interface |none=>false
theorem WI{α:Type}(p:α->Bool):∀(l:List α) (k:Nat),(∃j x,ixF p k l=((k+j:Nat):Int)/\l[j]?=some x/\p x=true/\l.find? p=some x)∨(ixF p k l=-1/\l.find? p=none)
 | [],k=>.inr ⟨rfl,rfl⟩
 |y ::r,k=>by
  unfold ixF
  cases h:p y with
  |true=>exact .inl ⟨0,y,rfl,rfl,h,by simp [List.find?,h]⟩
  |false =>
   rcases WI p r (k+1) with ⟨j,x,h1,h2,h3,h4⟩ |⟨h1,h2⟩
   .exact .inl ⟨j+1,x,by show ixF p (k+1) r=_;rw [h1];congr 1;omega,by simpa using h2,h3,by simp [List.find?,h,h4]⟩
   .exact .inr ⟨h1,by simp [List.find?,h,h2]⟩
theorem zva{α:Type}(p:α->Bool):∀(l r:List α) (k:Nat),ixF p k (l++r)=cond (l.any p) (ixF p k l) (ixF p (k+l.length) r)
 | [],r,k=>rfl
 |y ::l,r,k=>by
  show ixF p k (y ::(l++r))=_;rw [show ixF p k (y ::(l++r))=cond (p y) (k:Int) (ixF p (k+1) (l++r)) from rfl,show ixF p k (y ::l)=cond (p y) (k:Int) (ixF p (k+1) l) from rfl,QZ]
  cases h:p y with
  |true=>rfl
  |false =>
   rw [QU,RF,RF,zva p l r (k+1),show k+1+l.length=k+(y ::l).length by simp;omega]
theorem Dw(L:List za)(n:Tx):decide (0≤atN L n)=Xj L n:=ZF _ 0 L
theorem Gz(L:List za)(n:Tx):decide (atN L n<0)=!Xj L n:=by
 rw [<-Dw];by_cases h:0≤atN L n
 .rw [RD h,RE (by omega)];rfl
 .rw [RE h,RD (by omega)];rfl
theorem U6(L:List za)(n:Tx):idx L (atN L n)=cl L n:=by
 unfold atN cl
 rcases WI (λc:za=>c.Name == n) L 0 with ⟨j,x,h1,h2,h3,h4⟩ |⟨h1,h2⟩
 .rw [h1,h4,zo,QP,h2]
 .rw [h1,h2];rfl
theorem zCm(L:List za)(n:Tx):(cl L n).isSome=Xj L n:=by
 unfold cl Xj;rw [QK,QB];exact Yk
theorem XO{L:List za}{n:Tx}{c:za}(h:cl L n=some c):c∈L/\c.Name=n:=by
 unfold cl at h;exact ⟨QG h,eq_of_beq (List.find?_some (p:=λc:za=>c.Name == n) h)⟩
theorem X0{L:List za}{n:Tx}(h:Xj L n=true):∃c,cl L n=some c:=by
 rw [<-zCm] at h;exact Option.isSome_iff_exists.1 h
theorem ZB{L:List za}{n:Tx}{c:za}(h:cl L n=some c):Xj L n=true:=by rw [<-zCm,h];rfl
theorem HH{L:List za}{n:Tx}(h:cl L n=none):Xj L n=false:=by rw [<-zCm,h];rfl
theorem KN{L:List za}{n:Tx}:Xj L n=true↔n∈L.map (·.Name):=by
 unfold Xj;rw [QB,QW];constructor
 .rintro ⟨c,h1,h2⟩;exact ⟨c,h1,eq_of_beq h2⟩
 .rintro ⟨c,h1,h2⟩;exact ⟨c,h1,beq_iff_eq.2 h2⟩
def Nd(L:List za):Prop:=∀(i j:Nat) (c d:za),L[i]?=some c->L[j]?=some d->c.Name=d.Name->i=j
theorem Nd.at{L:List za}(h:Nd L){i:Nat}{c:za}(hi:L[i]?=some c):atN L c.Name=(i:Int):=by
 unfold atN
 rcases WI (λd:za=>d.Name == c.Name) L 0 with ⟨j,x,h1,h2,h3,h4⟩ |⟨h1,h2⟩
 .rw [h1,QP,h j i x c h2 hi (eq_of_beq h3)]
 .have:=JP.1 h2 c (Qc hi);simp at this
theorem Nd.cl{L:List za}(h:Nd L){c:za}(hc:c∈L):cl L c.Name=some c:=by
 obtain ⟨i,hi,e⟩:=JI hc
 have hi':L[i]?=some c:=by rw [Qe hi,e]
 rw [<-U6,h.at hi',zo,hi']
theorem Nd.snoc{L:List za}(h:Nd L){c:za}(hc:Xj L c.Name=false):Nd (L++[c]):=by
 have no:∀(i:Nat) d,L[i]?=some d->d.Name≠c.Name:=λi d hi e=>by
  have:Xj L c.Name=true:=KN.2 (QW.2 ⟨d,Qc hi,e⟩);rw [hc] at this;cases this
 have get:∀(i:Nat) d,(L++[c])[i]?=some d->(L[i]?=some d)∨(i=L.length/\d=c):=λi d hi=>by
  rw [List.getElem?_append] at hi;split at hi
  .exact .inl hi
  .rename_i hlt;right;have h1:=(Qb.1 hi).1;simp at h1
   have h2:i=L.length:=by omega
   subst h2;simp at hi;exact ⟨rfl,hi.symm⟩
 intro i j d e hi hj hn
 rcases get i d hi with h1 |⟨h1,h1'⟩ <;> rcases get j e hj with h2 |⟨h2,h2'⟩
 .exact h i j d e h1 h2 hn
 .subst h2';exact absurd hn (no i d h1)
 .subst h1';exact absurd hn.symm (no j e h2)
 .rw [h1,h2]
theorem zE8(L:List za)(c:za)(n:Tx):Xj (L++[c]) n=(Xj L n||(c.Name == n)):=by
 unfold Xj;simp
theorem zvg{α:Type}(k k':Tx)(x:α):∀(m:List (Tx×α)),Zg k (ZV k' x m)=if k=k' then some x else Zg k m
 | []=>by
  unfold ZV Zg Zg;by_cases h:k=k'
  .rw [if_pos h,RD h];rfl
  .rw [if_neg h,RE h];rfl
 |(a,y)::r=>by
  unfold ZV;by_cases h':k'=a
  .subst h';rw [RD rfl];show Zg k ((k',x)::r)=_;unfold Zg;by_cases h:k=k'
   .rw [if_pos h,RD h];rfl
   .rw [if_neg h,RE h];rfl
  .rw [RE h'];show Zg k ((a,y)::ZV k' x r)=_;unfold Zg;rw [zvg k k' x r];by_cases h:k=k'
   .subst h;rw [if_pos rfl,RE h',if_pos rfl];rfl
   .rw [if_neg h,if_neg h]
def Xu(L:List za)(m:List (Tx×Int)):Prop:=∀n,Zg n m=cond (Xj L n) (some (atN L n)) none
theorem Xu.snoc{L:List za}{m:List (Tx×Int)}(h:Xu L m){c:za}(hc:Xj L c.Name=false):Xu (L++[c]) (ZV c.Name (L.length:Int) m):=by
 intro n;rw [zvg,zE8,h n];unfold atN;rw [zva];show _=cond _ (some (cond (Xj L n) _ _)) none;by_cases e:n=c.Name
 .subst e;rw [if_pos rfl,hc,beq_self_eq_true];simp [ixF]
 .rw [if_neg e,RB.2 (Ne.symm e)];cases Xj L n <;> rfl
theorem Xu.has{L:List za}{m:List (Tx×Int)}(h:Xu L m)(n:Tx):(Zg n m).isSome=Xj L n:=by
 rw [h n];cases Xj L n <;> rfl
theorem Xu.idx{L:List za}{m:List (Tx×Int)}(h:Xu L m){n:Tx}(hn:Xj L n=true):idx L ((Zg n m).getD 0)=cl L n:=by
 rw [h n,hn];exact U6 L n
inductive Rc(nx:Tx->List Tx):Tx->Tx->Prop
 |one {a b}:b∈nx a->Rc nx a b
 |more {a b c}:b∈nx a->Rc nx b c->Rc nx a c
theorem Rc.snoc{nx:Tx->List Tx}{a b c:Tx}(h:Rc nx a b)(hc:c∈nx b):Rc nx a c:=by
 induction h with
 |one h=>exact .more h (.one hc)
 |more h _ ih=>exact .more h (ih hc)
theorem Rc.into{nx:Tx->List Tx}{F:Tx->Prop}(hF:∀x,F x->∀y∈nx x,F y){a b:Tx}(h:Rc nx a b):(∀y∈nx a,F y)->F b:=by
 induction h with
 |one h=>exact λha=>ha _ h
 |more h _ ih=>exact λha=>ih (hF _ (ha _ h))
theorem zDv:∀{a b:List Tx},a.Nodup->(∀x∈a,x∈b)->a.length≤b.length
 | [],b,_,_=>by simp
 |x ::r,b,h,hs=>by
  rw [Jk] at h;have hx:=hs x (by simp);have h1:=zDv (a:=r) (b:=b.erase x) h.2 (λy hy=>(List.mem_erase_of_ne (λe=>h.1 (by rw [<-e];exact hy))).2 (hs y (by simp [hy])));have h2:=List.length_erase_of_mem hx;have h3:=List.length_pos_of_mem hx;simp only [Qv];omega
def push(Xd:List Tx):List Tx->List Tx
 | []=>Xd
 |s ::r=>push (cond (Xd.any λy=>s == y) Xd (Xd++[s])) r
theorem zCa{s:Tx}{l:List Tx}:(l.any λy=>s == y)=true↔s∈l:=by
 rw [QB];constructor
 .rintro ⟨y,h1,h2⟩;rw [eq_of_beq h2];exact h1
 .intro h;exact ⟨s,h,beq_self_eq_true _⟩
theorem HL:∀(l Xd:List Tx),∃t,push Xd l=Xd++t/\t.Nodup/\(∀x∈t,x ∉ Xd/\x∈l)/\∀x∈l,x∈Xd++t
 | [],Xd=>⟨[],by simp [push],by simp,λx h=>(by cases h),λx h=>(by cases h)⟩
 |s ::r,Xd=>by
  unfold push
  cases h:(Xd.any λy=>s == y) with
  |true =>
   obtain ⟨t,h1,h2,h3,h4⟩:=HL r Xd;refine ⟨t,h1,h2,λx hx=>⟨(h3 x hx).1,Ji _ (h3 x hx).2⟩,λx hx=>?_⟩
   rcases Qu.1 hx with e |e
   .rw [e];exact Jb _ (zCa.1 h)
   .exact h4 x e
  |false =>
   have hs:s ∉ Xd:=λhm=>by rw [zCa.2 hm] at h;cases h
   obtain ⟨t,h1,h2,h3,h4⟩:=HL r (Xd++[s]);refine ⟨s ::t,by show push (Xd++[s]) r=_;rw [h1];simp,Jk.2 ⟨λhm=>(h3 s hm).1 (by simp),h2⟩,λx hx=>?_,λx hx=>?_⟩
   .rcases Qu.1 hx with e |e
    .rw [e];exact ⟨hs,by simp⟩
    .exact ⟨λhm=>(h3 x e).1 (Jb _ hm),Ji _ (h3 x e).2⟩
   .rcases Qu.1 hx with e |e
    .rw [e];simp
    .have:=h4 x e;simpa using this
def bfs(nx:Tx->List Tx):Nat->Nat->List Tx->List Tx
 | 0,_,Xd=>Xd
 |d+1,i,Xd=>match Xd[i]? with |none=>Xd |some x=>bfs nx d (i+1) (push Xd (nx x))
def fin(nx:Tx->List Tx):Nat->Nat->List Tx->Bool
 | 0,i,Xd=>decide (Xd.length≤i)
 |d+1,i,Xd=>match Xd[i]? with |none=>true |some x=>fin nx d (i+1) (push Xd (nx x))
def Inv(U s0 Xd:List Tx):Prop:=∃T,Xd=s0++T/\T.Nodup/\(∀x∈T,x∈U) 
theorem Inv.push{U s0 Xd l:List Tx}(h:Inv U s0 Xd)(hU:∀y∈l,y∈U):Inv U s0 (push Xd l):=by
 obtain ⟨T,h1,h2,h3⟩:=h;obtain ⟨t,k1,k2,k3,k4⟩:=HL l Xd;refine ⟨T++t,by rw [k1,h1];simp,JD.2 ⟨h2,k2,λa ha b hb e=>(k3 b hb).1 (by rw [h1,<-e];exact List.mem_append_right _ ha)⟩,λx hx=>?_⟩
 rcases Qm.1 hx with e |e
 .exact h3 x e
 .exact hU x (k3 x e).2
theorem Inv.len{U s0 Xd:List Tx}(h:Inv U s0 Xd):Xd.length≤s0.length+U.length:=by
 obtain ⟨T,h1,h2,h3⟩:=h;have:=zDv h2 h3;rw [h1,Qy];omega
theorem Inv.mem{U s0 Xd:List Tx}(h:Inv U s0 Xd)(h0:∀x∈s0,x∈U):∀x∈Xd,x∈U:=by
 obtain ⟨T,h1,h2,h3⟩:=h;intro x hx;rw [h1] at hx
 rcases Qm.1 hx with e |e
 .exact h0 x e
 .exact h3 x e
theorem Inv.start{U s0:List Tx}:Inv U s0 s0:=⟨[],by simp,by simp,λx h=>(by cases h)⟩
theorem zCG{nx:Tx->List Tx}{U s0:List Tx}(hU:∀x y,y∈nx x->y∈U):∀(d i:Nat) (Xd:List Tx),Inv U s0 Xd->s0.length+U.length≤d+i->fin nx d i Xd=true
 | 0,i,Xd,h,hd=>by
  have:=h.len;exact RD (by omega)
 |d+1,i,Xd,h,hd=>by
  unfold fin
  cases Xd[i]? with
  |none=>rfl
  |some x=>exact zCG hU d (i+1) _ (h.push (hU x)) (by omega)
theorem zqY{nx:Tx->List Tx}:∀(d i:Nat) (Xd:List Tx),∃t,bfs nx d i Xd=Xd++t
 | 0,i,Xd=>⟨[],by simp [bfs]⟩
 |d+1,i,Xd=>by
  unfold bfs
  cases Xd[i]? with
  |none=>exact ⟨[],by simp⟩
  |some x =>
   obtain ⟨t,h⟩:=zqY (nx:=nx) d (i+1) (push Xd (nx x));obtain ⟨u,k,_⟩:=HL (nx x) Xd;exact ⟨u++t,by show bfs nx d (i+1) _=_;rw [h,k];simp⟩
theorem zCf{nx:Tx->List Tx}{U s0:List Tx}(hU:∀x y,y∈nx x->y∈U):∀(d i:Nat) (Xd:List Tx),Inv U s0 Xd->Inv U s0 (bfs nx d i Xd)
 | 0,i,Xd,h=>h
 |d+1,i,Xd,h=>by
  unfold bfs
  cases Xd[i]? with
  |none=>exact h
  |some x=>exact zCf hU d (i+1) _ (h.push (hU x))
theorem ztd{nx:Tx->List Tx}{Q:Tx->Prop}(hQ:∀x,Q x->∀y∈nx x,Q y):∀(d i:Nat) (Xd:List Tx),(∀x∈Xd,Q x)->∀x∈bfs nx d i Xd,Q x
 | 0,i,Xd,h=>h
 |d+1,i,Xd,h=>by
  unfold bfs
  cases hi:Xd[i]? with
  |none=>exact h
  |some x =>
   refine ztd hQ d (i+1) _ λy hy=>?_;obtain ⟨u,k1,_,k3,_⟩:=HL (nx x) Xd;rw [k1] at hy
   rcases Qm.1 hy with e |e
   .exact h y e
   .exact hQ x (h x (Qc hi)) y (k3 y e).2
theorem zrN{nx:Tx->List Tx}:∀(d i:Nat) (Xd:List Tx),fin nx d i Xd=true->(∀j x,j<i->Xd[j]?=some x->∀y∈nx x,y∈Xd)->∀x∈bfs nx d i Xd,∀y∈nx x,y∈bfs nx d i Xd
 | 0,i,Xd,hf,h=>λx hx y hy=>by
  have hl:Xd.length≤i:=of_decide_eq_true hf;obtain ⟨j,hj,e⟩:=JI (show x∈Xd from hx);exact h j x (by omega) (by rw [Qe hj,e]) y hy
 |d+1,i,Xd,hf,h=>by
  unfold fin at hf;unfold bfs
  cases hi:Xd[i]? with
  |none =>
   intro x hx y hy;have hl:Xd.length≤i:=JH.1 hi;obtain ⟨j,hj,e⟩:=JI (show x∈Xd from hx);exact h j x (by omega) (by rw [Qe hj,e]) y hy
  |some z =>
   rw [hi] at hf;obtain ⟨u,k1,_,k3,k4⟩:=HL (nx z) Xd;have hlt:i<Xd.length:=(Qb.1 hi).1;refine zrN d (i+1) _ hf λj x hj hx y hy=>?_;rw [k1] at hx ⊢;rw [Qq (by omega)] at hx;by_cases e:j=i
   .subst e;rw [hi] at hx;cases hx;exact k4 y hy
   .exact Jb _ (h j x (by omega) hx y hy)
theorem zIs{nx:Tx->List Tx}{d:Nat}{a b:Tx}(hf:fin nx d 0 (nx a)=true):b∈bfs nx d 0 (nx a)↔Rc nx a b:=by
 constructor
 .exact ztd (Q:=λx=>Rc nx a x) (λx hx y hy=>hx.snoc hy) d 0 _ (λx hx=>.one hx) b
 .intro h;refine h.into (F:=λx=>x∈bfs nx d 0 (nx a)) (zrN d 0 _ hf (λj x hj=>by omega)) λy hy=>?_;obtain ⟨t,e⟩:=zqY (nx:=nx) d 0 (nx a);rw [e];exact Jb _ hy
theorem zx6{R:Type}{I:List Tx->Prop}{nx:Tx->List Tx}{stop:Tx->Option R}{body:List Tx×Int->Option (Sum (List Tx×Int) (Sum Unit R))}
  (hb:∀(i:Nat) Xd x,I Xd->Xd[i]?=some x->body (Xd,(i:Int))=match stop x with |some r=>some (.inr (.inr r)) |none=>some (.inl (push Xd (nx x),((i+1:Nat):Int))))
  (he:∀(i:Nat) Xd,I Xd->Xd.length≤i->body (Xd,(i:Int))=some (.inr (.inl ())))
  (hp:∀Xd x,I Xd->x∈Xd->I (push Xd (nx x))):∀(d i:Nat) (Xd:List Tx),I Xd->fin nx d i Xd=true ->
  zk body (Xd,(i:Int))=some (match ((bfs nx d i Xd).drop i).findSome? stop with |some r=>(Sum.inr r:Sum Unit R) |none=>Sum.inl ())
 | 0,i,Xd,hI,hf=>by
  have hl:Xd.length≤i:=of_decide_eq_true hf;rw [zG,he i Xd hI hl]
  show _=some (match (Xd.drop i).findSome? stop with |some r=>(Sum.inr r:Sum Unit R) |none=>Sum.inl ())
  rw [Jz hl];rfl
 |d+1,i,Xd,hI,hf=>by
  unfold fin at hf;unfold bfs
  cases hi:Xd[i]? with
  |none =>
   have hl:Xd.length≤i:=JH.1 hi;rw [zG,he i Xd hI hl]
   show _=some (match (Xd.drop i).findSome? stop with |some r=>(Sum.inr r:Sum Unit R) |none=>Sum.inl ())
   rw [Jz hl];rfl
  |some x =>
   rw [hi] at hf;obtain ⟨t,ht⟩:=zqY (nx:=nx) d (i+1) (push Xd (nx x));obtain ⟨u,hu,_⟩:=HL (nx x) Xd
   have hx:(bfs nx d (i+1) (push Xd (nx x)))[i]?=some x:=by
    rw [ht,hu,Jc,Qq (Qb.1 hi).1,hi]
   obtain ⟨hlt,hge⟩:=Qb.1 hx;rw [zG,hb i Xd x hI hi]
   show _=some (match ((bfs nx d (i+1) (push Xd (nx x))).drop i).findSome? stop with |some r=>(Sum.inr r:Sum Unit R) |none=>Sum.inl ())
   rw [JG hlt,Q0,hge]
   cases stop x with
   |some r=>rfl
   |none=>exact zx6 hb he hp d (i+1) _ (hp _ _ hI (Qc hi)) hf
def nxA(L:List za)(n:Tx):List Tx:=match cl L n with |none=>[] |some c=>(c.Super ::c.Impl).filter (λs=>!(s == []))
def nxI(L:List za)(n:Tx):List Tx:=match cl L n with |none=>[] |some c=>c.Impl
structure Dk(L:List za):Prop where
 nd:Nd L
 noE:Xj L []=false
 closed:∀c∈L,∀s∈c.Super ::c.Impl,s≠[]->Xj L s=true
 implE:∀c∈L,[] ∉ c.Impl
structure Wf(L:List za):Prop extends Dk L where
 acyc:∀n,¬Rc (nxA L) n n
 superF:∀c∈L,isF L c.Super=false
 implF:∀c∈L,∀s∈c.Impl,isF L s=true
theorem Dk.nxA_in{L:List za}(h:Dk L)(x y:Tx)(hy:y∈nxA L x):y∈L.map (·.Name):=by
 unfold nxA at hy;split at hy
 .cases hy
 .rename_i c hc;rw [Jf] at hy;exact KN.1 (h.closed c (XO hc).1 y hy.1 (by have:=hy.2;simpa using this))
theorem Dk.nxI_in{L:List za}(h:Dk L)(x y:Tx)(hy:y∈nxI L x):y∈L.map (·.Name):=by
 unfold nxI at hy;split at hy
 .cases hy
 .rename_i c hc;exact KN.1 (h.closed c (XO hc).1 y (Ji _ hy) (λe=>h.implE c (XO hc).1 (by rw [<-e];exact hy)))
def sup(L:List za):Nat->Tx->List Tx
 | 0,_=>[]
 |d+1,n=>match cl L n with |none=>[] |some c=>n ::sup L d c.Super
def UG(L:List za):Nat->Tx->Bool
 | 0,n=>!Xj L n
 |d+1,n=>match cl L n with |none=>true |some c=>UG L d c.Super
theorem zAo{L:List za}(h:Wf L):∀(d:Nat) (n:Tx),UG L d n=false->Xj L n=true/\∃r,sup L (d+1) n=n ::r/\r.length=d/\(n ::r).Nodup/\(∀x∈r,x∈L.map (·.Name)/\Rc (nxA L) n x)
 | 0,n,hf=>by
  have hn:Xj L n=true:=by simpa [UG] using hf
  obtain ⟨c,hc⟩:=X0 hn;exact ⟨hn,[],by simp [sup,hc],rfl,by simp,λx h=>(by cases h)⟩
 |d+1,n,hf=>by
  unfold UG at hf;split at hf
  .cases hf
  .rename_i c hc;obtain ⟨h0,r,h1,h2,h3,h4⟩:=zAo h d c.Super hf
   have hs:c.Super∈nxA L n:=by
    unfold nxA;rw [hc];refine Jf.2 ⟨by simp,?_⟩
    have:c.Super≠[]:=λe=>by rw [e,h.noE] at h0;cases h0
    simpa using this
   have h5:∀x∈c.Super ::r,x∈L.map (·.Name)/\Rc (nxA L) n x:=λx hx=>by
    rcases Qu.1 hx with e |e
    .rw [e];exact ⟨KN.1 h0,.one hs⟩
    .exact ⟨(h4 x e).1,.more hs (h4 x e).2⟩
   refine ⟨ZB hc,c.Super ::r,?_,by simp [h2],Jk.2 ⟨λhm=>h.acyc n (h5 n hm).2,h3⟩,h5⟩
   show (match cl L n with |none=>[] |some c=>n ::sup L (d+1) c.Super)=_
   rw [hc];show n ::sup L (d+1) c.Super=_;rw [h1]
theorem zwD{L:List za}(h:Wf L)(n:Tx):UG L L.length n=true:=by
 cases hf:UG L L.length n with
 |true=>rfl
 |false =>
  obtain ⟨h0,r,h1,h2,h3,h4⟩:=zAo h _ n hf
  have:=zDv h3 (b:=L.map (·.Name)) (λx hx=>by
   rcases Qu.1 hx with e |e
   .rw [e];exact KN.1 h0
   .exact (h4 x e).1)
  simp at this;omega
def KF:Tx:=[79,98,106,101,99,116]
def Dh:Tx:=[84,104,114,111,119,110]
def gC(n s:Tx):za:=za.mk n s false [] [] []
def giv:List za:=[gC KF [],gC Dh KF,gC [78,117,108,108,69,114,114] Dh,gC [82,97,110,103,101,69,114,114] Dh,gC [77,97,116,104,69,114,114] Dh,gC [67,97,115,116,69,114,114] Dh,
 gC [83,105,122,101,69,114,114] Dh,gC [83,116,111,114,101,69,114,114] Dh,gC [73,110,105,116,69,114,114] Dh,gC [67,108,97,115,115,69,114,114] Dh]
theorem zvR:zrV=some giv:=by kernel_rfl
theorem zwu:zsb=some giv:=by kernel_rfl
def Dn(k:Nat)(m:List (Tx×Int)):List za->List (Tx×Int)
 | []=>m
 |c ::r=>Dn (k+1) (ZV c.Name (k:Int) m) r
def fresh(pre:List za):List za->Bool
 | []=>true
 |c ::r=>!Xj pre c.Name&&fresh (pre++[c]) r
theorem zzZ:∀(r pre:List za) (m:List (Tx×Int)),Xu pre m->fresh pre r=true->Xu (pre++r) (Dn pre.length m r)
 | [],pre,m,h,_=>by simpa [Dn] using h
 |c ::r,pre,m,h,hf=>by
  simp only [fresh,Qd,Qk] at hf;have:=zzZ r (pre++[c]) _ (h.snoc hf.1) hf.2;simpa [Dn] using this
theorem zzI:∀(r pre:List za),Nd pre->fresh pre r=true->Nd (pre++r)
 | [],pre,h,_=>by simpa using h
 |c ::r,pre,h,hf=>by
  simp only [fresh,Qd,Qk] at hf;have:=zzI r (pre++[c]) (h.snoc hf.1) hf.2;simpa using this
theorem zHr:zk (λz=>ztv giv z.1 z.2) ([],0)=some (.inl (Dn 0 [] giv)):=by kernel_rfl
theorem zCQ:Xu giv (Dn 0 [] giv):=zzZ giv [] [] (λn=>rfl) (by decide +kernel)
theorem Oa:Nd giv:=zzI giv [] (λi j c d h=>by simp at h) (by decide +kernel)
def lay:List za->List za->Option (List za)
 |L,[]=>some L
 |L,c ::r=>cond (Xj L c.Name||!ZN c) none (lay (L++[c]) r)
theorem B6:∀(r L L':List za),Nd L->lay L r=some L'->L'=L++r/\Nd L'/\∀c∈r,ZN c=true
 | [],L,L',h,e=>by
  unfold lay at e;cases e;exact ⟨by simp,h,λc hc=>by cases hc⟩
 |c ::r,L,L',h,e=>by
  unfold lay at e
  cases h1:Xj L c.Name with
  |true=>rw [h1] at e;cases e
  |false =>
   cases h2:ZN c with
   |false=>rw [h1,h2] at e;cases e
   |true =>
    rw [h1,h2] at e;obtain ⟨k1,k2,k3⟩:=B6 r (L++[c]) L' (h.snoc h1) e;refine ⟨by rw [k1];simp,k2,λd hd=>?_⟩
    rcases Qu.1 hd with e |e
    .rw [e];exact h2
    .exact k3 d e
theorem zJT{w:Nat}{L:List za}{c:za}(h:L.length≤1000)(hw:w≤1000):Xx w L [c]=some (L++[c]):=by
 refine XJ ?_ (by simp;omega);have:(L.length+[c].length)*w≤1001*1000:=Nat.mul_le_mul (by simp;omega) hw;omega
theorem zzS{l:List za}(hl:l.length≤16)(hc:∀c∈l,Wq c):∀(r pre L:List za) (m:List (Tx×Int)),l=pre++r->Xu L m->L.length=10+pre.length ->
  (lay L r=none->zk (λz=>GK l z.1 z.2.1 z.2.2) (L,m,(pre.length:Int))=some (.inr (none,1))) /\
  (∀L',lay L r=some L'->∃m',Xu L' m'/\zk (λz=>GK l z.1 z.2.1 z.2.2) (L,m,(pre.length:Int))=some (.inl (L',m')))
 | [],pre,L,m,e,hm,hL=>by
  rw [Qx] at e;subst e;unfold lay;refine ⟨λh=>(by cases h),λL' h=>?_⟩;cases h;refine ⟨m,hm,?_⟩;rw [zG];show (GK l L m (l.length:Int)).bind _=_;unfold GK;rw [Xm];rfl
 |c ::r,pre,L,m,e,hm,hL=>by
  have hlen:l.length=pre.length+(r.length+1):=by rw [e];simp
  have hx:l[pre.length]?=some c:=by rw [e];simp
  have hcm:c∈l:=Qc hx
  have step:zk (λz=>GK l z.1 z.2.1 z.2.2) (L,m,(pre.length:Int))=(cond (Xj L c.Name||!ZN c) (some (.inr (.inr (none,1)))) (some (.inl (L++[c],ZV c.Name (L.length:Int) m,((pre.length+1:Nat):Int))))).bind (Sum.elim (zk (λz=>GK l z.1 z.2.1 z.2.2)) some):=by
   rw [zG];show (GK l L m (pre.length:Int)).bind _=_;congr 1;unfold GK;rw [Xk hx,zo,hx];simp only [RT,Qa];rw [hm.has,zvB (hc c hcm),zJT (by omega) (by omega),zz (by omega)];cases Xj L c.Name <;> cases ZN c <;> rfl
  rw [step];unfold lay
  cases h1:(Xj L c.Name||!ZN c) with
  |true=>exact ⟨λ_=>rfl,λL' h=>by cases h⟩
  |false =>
   rw [Qn] at h1;have:=zzS hl hc r (pre++[c]) (L++[c]) _ (by rw [e];simp) (hm.snoc h1.1) (by simp;omega);rw [show (pre++[c]).length=pre.length+1 by simp] at this;exact this
structure Okc(c:za):Prop where
 name:c.Name≠[]
 impl:c.Impl.length≤4
 implE:∀s∈c.Impl,s≠[]
theorem OA{s:Tx}(h:XF s=true):s≠[]:=by
 intro e;subst e;unfold XF at h;simp at h
theorem B2{α:Type}{ok:α->Bool}{nm:α->List UInt8}:∀{l pre:List α},uB ok nm pre l=false->∀x∈l,ok x=true
 | [],_,_,x,hx=>by cases hx
 |y ::r,pre,h,x,hx=>by
  unfold uB at h;simp only [Qn,Q6] at h
  rcases Qu.1 hx with e |e
  .rw [e];exact h.1.1
  .exact B2 h.2 x e
theorem zHL{c:za}(h:ZN c=true):Okc c:=by
 unfold ZN at h;simp only [Qd,Qk,decide_eq_true_eq] at h;obtain ⟨_,⟨⟨⟨⟨h1,h2⟩,h3,h4⟩,h5⟩,h6⟩⟩:=h;exact ⟨OA h1,by omega,λs hs=>OA (B2 h3 s hs)⟩
theorem zHt:∀c∈giv,Okc c:=by
 intro c hc
 have h:giv.all (λc=>!(c.Name == [])&&(c.Impl == []))=true:=by decide +kernel
 have:=Qp.1 h c hc;simp only [Qd,Qk,RB,beq_iff_eq] at this;exact ⟨this.1,by rw [this.2];simp,λs hs=>by rw [this.2] at hs;cases hs⟩
theorem zvZ{l L:List za}(h:lay giv l=some L):∀c∈L,Okc c:=by
 obtain ⟨h1,h2,h3⟩:=B6 l giv L Oa h;intro c hc;rw [h1] at hc
 rcases Qm.1 hc with e |e
 .exact zHt c e
 .exact zHL (h3 c e)
theorem zzf{c:za}(h:c.Impl.length≤4):Xx 16 [c.Super] c.Impl=some (c.Super ::c.Impl):=XJ (by simp;omega) (by simp;omega)
theorem znp{c:za}(h:c.Impl.length≤4):OH c=some (c.Super ::c.Impl):=by
 unfold OH;rw [zzf h];rfl
theorem zCq{l:List Tx}{L:List za}{m:List (Tx×Int)}(hm:Xu L m)(hl:l.length≤1000):zaG l L m=some (l.any λs=>!Xj L s):=by
 unfold zaG zde
 rw [show ((zk (λz=>zbs l L m z) 0).bind λo=>zB o (λb=>zfi) some)=_ from Zo (l:=l) (p:=λs=>!Xj L s) (by omega)
  (λi x hx=>by unfold zbs zpv Kf;rw [Xk hx,zo,hx];simp only [RT,Qa];rw [hm.has]) (by unfold zbs;rw [Xm];rfl)]
 exact congrArg some (ZF _ 0 l)
theorem Ob{L:List za}{m:List (Tx×Int)}(hm:Xu L m){n:Tx}(hn:Xj L n=true):Hl L m n=cl L n:=by
 unfold Hl;rw [hm.idx hn];cases cl L n <;> rfl
theorem zCr{l:List Tx}{L:List za}{m:List (Tx×Int)}(hm:Xu L m)(hl:l.length≤1000)(hh:∀s∈l,Xj L s=true):zaH l L m=some (l.any λs=>!isF L s):=by
 unfold zaH zdf
 rw [show ((zk (λz=>zbt l L m z) 0).bind λo=>zB o (λb=>zfj) some)=_ from Zo (l:=l) (p:=λs=>!isF L s) (by omega)
  (λi x hx=>by
   obtain ⟨c,hc⟩:=X0 (hh x (Qc hx));unfold zbt zkS isF
   rw [Xk hx,zo,hx];simp only [RT,Qa];rw [Ob hm (ZB hc),hc];rfl) (by unfold zbt;rw [Xm];rfl)]
 exact congrArg some (ZF _ 0 l)
def cyc(L:List za)(n:Tx):Bool:=@decide (Rc (nxA L) n n) (Classical.propDecidable _)
theorem zvI{L:List za}{n:Tx}:cyc L n=true↔Rc (nxA L) n n:=by unfold cyc;exact @decide_eq_true_iff _ (Classical.propDecidable _)
def Ut(L:List za)(c:za):Bool:=isF L c.Super||(c.Impl.any (λs=>!isF L s)||cyc L c.Name)
theorem ztT{R:Type}{body:List Tx×Int->Option (Sum (List Tx×Int) (Sum (List Tx) R))}{l:List Tx}{p:Tx->Bool}(hl:l.length≤100)
  (hb:∀(i:Nat) x Xd,Xd.length≤1000->l[i]?=some x->body (Xd,(i:Int))=some (.inl (cond (p x&&!(Xd.any λy=>x == y)) (Xd++[x]) Xd,i64.wrap ((i:Int)+1))))
  (he:∀Xd,body (Xd,(l.length:Int))=some (.inr (.inl Xd))):∀(r pre Xd:List Tx),l=pre++r->Xd.length+r.length≤1000->zk body (Xd,(pre.length:Int))=some (.inl (push Xd (r.filter p)))
 | [],pre,Xd,e,hs=>by
  rw [Qx] at e;subst e;rw [zG,he];rfl
 |x ::r,pre,Xd,e,hs=>by
  have hlen:l.length=pre.length+(r.length+1):=by rw [e];simp
  have hx:l[pre.length]?=some x:=by rw [e];simp
  simp only [Qv] at hs;rw [zG,hb _ x Xd (by omega) hx,zz (by omega)];have ih:=λs h=>ztT hl hb he r (pre++[x]) s (by rw [e];simp) h;rw [show (pre++[x]).length=pre.length+1 by simp] at ih
  cases h1:p x with
  |false =>
   rw [Yt (by rw [h1];exact Jh)];exact ih Xd (by omega)
  |true =>
   rw [Yu h1];unfold push
   cases h2:(Xd.any λy=>x == y) with
   |true=>exact ih Xd (by omega)
   |false=>exact ih (Xd++[x]) (by simp;omega)
theorem zsV{l:List Tx}(hl:l.length≤1000)(n:Tx):zI l n=some (l.any λy=>n == y):=zvP (by unfold XG;omega) n
theorem zCI{l Xd:List Tx}(hl:l.length≤100)(hs:Xd.length+l.length≤1000):zk (λz=>EE l z.1 z.2) (Xd,0)=some (.inl (push Xd (l.filter (λs=>!(s == []))))):=by
 refine ztT (l:=l) (p:=λs=>!(s == [])) hl (λi x s h hx=>?_) (λs=>?_) l [] Xd rfl hs
 .show EE l s (i:Int)=_;unfold EE zil;rw [Xk hx,zo,hx];simp only [RT,Qa];rw [zsV h,XJ (w:=16) (l:=s) (x:=[x]) (by simp;omega) (by simp;omega)];cases (x == []) <;> cases (s.any λy=>x == y) <;> rfl
 .show EE l s (l.length:Int)=_;unfold EE;rw [Xm];rfl
theorem WB{L:List za}{n:Tx}{c:za}(h:cl L n=some c):nxA L n=(c.Super ::c.Impl).filter (λs=>!(s == [])):=by unfold nxA;rw [h]
theorem zGz{L:List za}(hL:∀c∈L,Okc c)(n:Tx):(nxA L n).length≤5:=by
 unfold nxA;split
 .simp
 .rename_i c hc;have:=(hL c (XO hc).1).impl;exact QL (JY _ _) (by simp;omega)
theorem zFB(l Xd:List Tx):(push Xd l).length≤Xd.length+l.length:=by
 induction l generalizing Xd with
 |nil=>simp [push]
 |cons x r ih =>
  unfold push
  cases (Xd.any λy=>x == y) with
  |true=>have:=ih Xd;simp only [RT,Qv];omega
  |false=>have:=ih (Xd++[x]);simp only [RF,Qv];simp at this;omega
theorem zHm{L:List za}{m:List (Tx×Int)}(hm:Xu L m)(h:Dk L)(hO:∀c∈L,Okc c)(hlen:L.length≤100){c:za}(hc:c∈L)(hs:c.Super≠[]):El L m c=some (!Ut L c):=by
 have hcs:=h.closed c hc;have hsup:Xj L c.Super=true:=hcs c.Super (by simp) hs;obtain ⟨x,hx⟩:=X0 hsup;have himp:∀s∈c.Impl,Xj L s=true:=λs hm=>hcs s (by simp [hm]) ((hO c hc).implE s hm);have hi4:=(hO c hc).impl
 have e0:(c.Super ::c.Impl)=nxA L c.Name:=by
  rw [WB (h.nd.cl hc),List.filter_eq_self.2];intro s hsm
  rcases Qu.1 hsm with e |e
  .rw [e];simpa using hs
  .simpa using (hO c hc).implE s e
 unfold El;rw [Ob hm hsup,hx,zCr hm (by omega) himp,znp hi4];simp only [Qa]
 have eF:isF L c.Super=x.Interface:=by unfold isF;rw [hx]
 unfold Ut;rw [eF]
 cases x.Interface with
 |true=>rfl
 |false =>
  cases c.Impl.any (λs=>!isF L s) with
  |true=>rfl
  |false =>
   have hfin:fin (nxA L) (5+L.length) 0 (nxA L c.Name)=true:=zCG (U:=L.map (·.Name)) (s0:=nxA L c.Name) h.nxA_in _ _ _ .start (by have:=zGz hO c.Name;simp;omega)
   have hw:=zx6 (R:=Bool) (I:=λs=>Inv (List.map (λc:za=>c.Name) L) (nxA L c.Name) s) (nx:=nxA L) (stop:=λy=>cond (y == c.Name) (some false) none) (body:=λz=>Bq L m c z.1 z.2)
    (λi Xd y hI hy=>by
     have hsl:=hI.len;have h5:=zGz hO c.Name;have hym:Xj L y=true:=KN.2 (hI.mem (λz hz=>h.nxA_in _ z hz) y (Qc hy));obtain ⟨d,hd⟩:=X0 hym;have hd4:=(hO d (XO hd).1).impl;have hpl:=zFB (nxA L y) Xd;simp only [Q4] at hsl;show Bq L m c Xd (i:Int)=_;unfold Bq zmK;rw [Xk hy,zo,hy];simp only [RT,Qa];have hilt:=(Qb.1 hy).1;rw [Ob hm hym,hd];simp only [Qa];rw [znp hd4];simp only [Qa];rw [zCI (by simp;omega) (by simp;omega),<-WB hd,zz (by omega)]
     cases y == c.Name <;> rfl)
    (λi Xd hI hle=>by
     show Bq L m c Xd (i:Int)=_;unfold Bq
     rw [RE (by omega)];rfl)
    (λzam y hI hy=>hI.push (h.nxA_in y)) (5+L.length) 0 (nxA L c.Name) .start hfin
   rw [e0];rw [show zk (λz=>Bq L m c z.1 z.2) (nxA L c.Name,0)=_ from hw,Yd,z7]
   have:(bfs (nxA L) (5+L.length) 0 (nxA L c.Name)).any (λy=>y == c.Name)=cyc L c.Name:=by
    rw [QK,zvI,<-zIs hfin,QB];constructor
    .rintro ⟨y,h1,h2⟩;obtain rfl:=eq_of_beq h2;exact h1
    .intro h1;exact ⟨_,h1,beq_self_eq_true _⟩
   rw [this];cases cyc L c.Name <;> rfl
def onB(inn:List Bool)(n:Nat):Bool:=inn.getD n false
def ZM(L:List za)(inn:List Bool)(s:Tx):Bool:=Xj L s&&!onB inn (atN L s).toNat
def mk1(L:List za)(inn:List Bool)(s:Tx):List Bool:=cond (ZM L inn s) (inn.set (atN L s).toNat true) inn
def mkS(L:List za):List Bool->List Tx->List Bool
 |inn,[]=>inn
 |inn,s ::r=>mkS L (mk1 L inn s) r
theorem Wt{L:List za}{s:Tx}(h:Xj L s=true):0≤atN L s/\(atN L s).toNat<L.length:=by
 unfold Xj at h;unfold atN
 rcases WI (λc:za=>c.Name == s) L 0 with ⟨j,x,h1,h2,h3,h4⟩ |⟨h1,h2⟩
 .have:=(Qb.1 h2).1;rw [h1];omega
 .rw [QB] at h;obtain ⟨c,k1,k2⟩:=h;have:=JP.1 h2 c k1;exact absurd k2 this
theorem zwe(L:List za)(inn:List Bool)(s:Tx):(mk1 L inn s).length=inn.length:=by
 unfold mk1;cases ZM L inn s <;> simp
theorem WH(L:List za):∀(l:List Tx) (inn:List Bool),(mkS L inn l).length=inn.length
 | [],inn=>rfl
 |s ::r,inn=>by unfold mkS;rw [WH L r,zwe]
theorem zGA{inn:List Bool}{n k:Nat}(h:n<inn.length):onB (inn.set n true) k=(onB inn k||Nat.beq k n):=by
 unfold onB;rw [Qj,Qj,List.getElem?_set];by_cases e:n=k
 .subst e;simp [h]
 .rw [if_neg e]
  have:Nat.beq k n=false:=by
   cases hb:Nat.beq k n with
   |false=>rfl
   |true=>exact absurd (Ql hb).symm e
  rw [this,Q2]
theorem zIO{L:List za}{inn:List Bool}(hl:inn.length=L.length)(s:Tx)(k:Nat):onB (mk1 L inn s) k=(onB inn k||(Xj L s&&Nat.beq k (atN L s).toNat)):=by
 unfold mk1 ZM
 cases h:Xj L s with
 |false=>simp
 |true =>
  cases h2:onB inn (atN L s).toNat with
  |false =>
   simp only [QH,JM,RT,QC];exact zGA (by rw [hl];exact (Wt h).2)
  |true =>
   simp only [Qr,Q9,RF,QC]
   cases h3:Nat.beq k (atN L s).toNat with
   |false=>simp
   |true=>rw [Ql h3,h2];rfl
theorem zzY{L:List za}:∀(l:List Tx) (inn:List Bool),inn.length=L.length->∀k,onB (mkS L inn l) k=(onB inn k||l.any (λs=>Xj L s&&Nat.beq k (atN L s).toNat))
 | [],inn,hl,k=>by simp [mkS]
 |s ::r,inn,hl,k=>by
  unfold mkS;rw [zzY r _ (by rw [zwe];exact hl),zIO hl,QZ,JL]
theorem zxs{L:List za}:∀(l:List Tx) (inn:List Bool),l.any (ZM L inn)=false->mkS L inn l=inn
 | [],inn,_=>rfl
 |s ::r,inn,h=>by
  rw [QZ,Qn] at h;unfold mkS
  have:mk1 L inn s=inn:=by unfold mk1;rw [h.1];rfl
  rw [this,zxs r inn h.2]
theorem zrZ{R:Type}{L:List za}{l:List Tx}{body:List Bool×Bool×Int->Option (Sum (List Bool×Bool×Int) (Sum (List Bool×Bool) R))}(hl:l.length≤1000)
  (hb:∀(j:Nat) s inn more,inn.length=L.length->l[j]?=some s->body (inn,more,(j:Int))=some (.inl (mk1 L inn s,more||ZM L inn s,i64.wrap ((j:Int)+1))))
  (he:∀inn more,body (inn,more,(l.length:Int))=some (.inr (.inl (inn,more)))):
  ∀(r pre:List Tx) (inn:List Bool) (more:Bool),l=pre++r->inn.length=L.length->zk body (inn,more,(pre.length:Int))=some (.inl (mkS L inn r,more||r.any (ZM L inn)))
 | [],pre,inn,more,e,hi=>by
  rw [Qx] at e;subst e;rw [zG,he];show some _=some _;simp [mkS]
 |s ::r,pre,inn,more,e,hi=>by
  have hlen:l.length=pre.length+(r.length+1):=by rw [e];simp
  have hx:l[pre.length]?=some s:=by rw [e];simp
  rw [zG,hb _ s inn more hi hx,zz (by omega)];have ih:=λi m h=>zrZ hl hb he r (pre++[s]) i m (by rw [e];simp) h;rw [show (pre++[s]).length=pre.length+1 by simp] at ih;show zk body (mk1 L inn s,more||ZM L inn s,((pre.length+1:Nat):Int))=_;rw [ih _ _ (by rw [zwe];exact hi),QZ,show mkS L inn (s ::r)=mkS L (mk1 L inn s) r from rfl]
  cases h:ZM L inn s with
  |true=>simp
  |false =>
   have:mk1 L inn s=inn:=by unfold mk1;rw [h];rfl
   rw [this];simp
def ZH(L:List za)(nx:za->List Tx)(act:Nat->Bool):List Bool->Nat->List za->List Bool
 |inn,_,[]=>inn
 |inn,k,c ::r=>ZH L nx act (cond (onB inn k||act k) (mkS L inn (nx c)) inn) (k+1) r
def UN(L:List za)(nx:za->List Tx)(act:Nat->Bool):List Bool->Nat->List za->Bool
 |_,_,[]=>false
 |inn,k,c ::r=>cond (onB inn k||act k) ((nx c).any (ZM L inn)) false||UN L nx act (cond (onB inn k||act k) (mkS L inn (nx c)) inn) (k+1) r
section
variable {L : List za} {nx : za -> List Tx} {act : Nat -> Bool}
theorem zwm:∀(r:List za) (k:Nat) (inn:List Bool),(ZH L nx act inn k r).length=inn.length
 | [],k,inn=>rfl
 |c ::r,k,inn=>by
  unfold ZH;rw [zwm r]
  cases onB inn k||act k
  .rfl
  .exact WH L _ _
theorem zD3{inn:List Bool}(hl:inn.length=L.length)(b:Bool)(l:List Tx)(n:Nat)(h:onB inn n=true):onB (cond b (mkS L inn l) inn) n=true:=by
 cases b with
 |false=>exact h
 |true=>show onB (mkS L inn l) n=true;rw [zzY l inn hl,h];rfl
theorem ztQ:∀(r:List za) (k:Nat) (inn:List Bool),inn.length=L.length->∀n,onB inn n=true->onB (ZH L nx act inn k r) n=true
 | [],k,inn,hl,n,h=>h
 |c ::r,k,inn,hl,n,h=>by
  unfold ZH;refine ztQ r (k+1) _ ?_ n (zD3 hl _ _ n h)
  cases onB inn k||act k
  .exact hl
  .exact (WH L _ _).trans hl
theorem zpz:∀(r:List za) (k:Nat) (inn:List Bool),UN L nx act inn k r=false->ZH L nx act inn k r=inn/\∀(j:Nat) c,r[j]?=some c->(onB inn (k+j)||act (k+j))=true->(nx c).any (ZM L inn)=false
 | [],k,inn,_=>⟨rfl,λj c h=>by simp at h⟩
 |c ::r,k,inn,h=>by
  unfold UN at h;unfold ZH;rw [Qn] at h
  have e:cond (onB inn k||act k) (mkS L inn (nx c)) inn=inn:=by
   cases hb:onB inn k||act k with
   |false=>rfl
   |true=>rw [hb] at h;exact zxs _ _ h.1
  rw [e] at h ⊢;obtain ⟨h1,h2⟩:=zpz r (k+1) inn h.2;refine ⟨h1,λj d hj hb=>?_⟩
  cases j with
  |zero =>
   have:c=d:=by simpa using hj
   subst this;rw [Jd] at hb;rw [hb] at h;exact h.1
  |succ j=>exact h2 j d (by simpa using hj) (by rw [show k+1+j=k+(j+1) by omega];exact hb)
theorem zz9:∀(r:List za) (k:Nat) (inn:List Bool),inn.length=L.length->∀(j:Nat) c,r[j]?=some c->(onB inn (k+j)||act (k+j))=true->∀s∈nx c,Xj L s=true->onB (ZH L nx act inn k r) (atN L s).toNat=true
 | [],k,inn,hl,j,c,h,_=>by simp at h
 |d ::r,k,inn,hl,j,c,hj,hb=>by
  intro s hs hh;unfold ZH
  have hl2:(cond (onB inn k||act k) (mkS L inn (nx d)) inn).length=L.length:=by
   cases onB inn k||act k
   .exact hl
   .exact (WH L _ _).trans hl
  cases j with
  |zero =>
   have:d=c:=by simpa using hj
   subst this;rw [Jd] at hb;refine ztQ r (k+1) _ hl2 _ ?_;rw [hb];show onB (mkS L inn (nx d)) _=true;rw [zzY _ _ hl,Qt];right;rw [QB];exact ⟨s,hs,by rw [hh,QC];exact Nat.beq_refl _⟩
  |succ j =>
   refine zz9 r (k+1) _ hl2 j c (by simpa using hj) ?_ s hs hh;rw [show k+1+j=k+(j+1) by omega];rw [Qt] at hb ⊢
   rcases hb with hb |hb
   .exact .inl (zD3 hl _ _ _ hb)
   .exact .inr hb
theorem zr3{Q:Nat->Prop}:∀(r:List za) (k:Nat) (inn:List Bool),inn.length=L.length->(∀(j:Nat) c,r[j]?=some c->(Q (k+j)∨act (k+j)=true)->∀s∈nx c,Xj L s=true->Q (atN L s).toNat) ->
  (∀n,onB inn n=true->Q n)->∀n,onB (ZH L nx act inn k r) n=true->Q n
 | [],k,inn,hl,hQ,h=>h
 |c ::r,k,inn,hl,hQ,h=>by
  unfold ZH;refine zr3 r (k+1) _ ?_ (λj d hj hor=>?_) (λn hn=>?_)
  .cases onB inn k||act k
   .exact hl
   .exact (WH L _ _).trans hl
  .rw [show k+1+j=k+(j+1) by omega] at hor;exact hQ (j+1) d (by simpa using hj) hor
  .cases hb:onB inn k||act k with
   |false=>rw [hb] at hn;exact h n hn
   |true =>
    rw [hb] at hn;have hn:onB (mkS L inn (nx c)) n=true:=hn;rw [zzY _ _ hl,Qt] at hn
    rcases hn with hn |hn
    .exact h n hn
    .rw [QB] at hn;obtain ⟨s,hs,hs2⟩:=hn;rw [Qd] at hs2;rw [Ql hs2.2];refine hQ 0 c rfl ?_ s hs hs2.1;rw [Jd];rw [Qt] at hb;exact hb.imp (h k) id
def cnt(inn:List Bool):Nat:=inn.count true
theorem zCp:∀(inn:List Bool) (n:Nat),n<inn.length->onB inn n=false->cnt (inn.set n true)=cnt inn+1
 | [],n,h,_=>by simp at h
 |b ::r,0,h,hb=>by
  have:b=false:=by simpa [onB] using hb
  subst this;simp [cnt]
 |b ::r,n+1,h,hb=>by
  have:=zCp r n (by simpa using h) (by simpa [onB] using hb);unfold cnt at this ⊢;rw [List.set_cons_succ,List.count_cons,List.count_cons,this];omega
theorem zHd{inn:List Bool}(hl:inn.length=L.length)(s:Tx):cnt (mk1 L inn s)=cnt inn+cond (ZM L inn s) 1 0:=by
 unfold mk1
 cases h:ZM L inn s with
 |false=>rfl
 |true =>
  unfold ZM at h;rw [Qd,Qk] at h;exact zCp inn _ (by rw [hl];exact (Wt h.1).2) h.2
theorem zCo:∀(l:List Tx) (inn:List Bool),inn.length=L.length->cnt inn+cond (l.any (ZM L inn)) 1 0≤cnt (mkS L inn l)
 | [],inn,hl=>by simp [mkS]
 |s ::r,inn,hl=>by
  have ih:=zCo r (mk1 L inn s) (by rw [zwe];exact hl);have h1:=zHd hl s;unfold mkS;rw [QZ]
  cases h:ZM L inn s with
  |true=>rw [h] at h1;simp only [RT] at h1;simp only [Bool.true_or,RT];omega
  |false =>
   have e:mk1 L inn s=inn:=by unfold mk1;rw [h];rfl
   rw [e] at ih ⊢;simpa using ih
theorem zzu:∀(r:List za) (k:Nat) (inn:List Bool),inn.length=L.length->cnt inn+cond (UN L nx act inn k r) 1 0≤cnt (ZH L nx act inn k r)
 | [],k,inn,hl=>by simp [ZH,UN]
 |c ::r,k,inn,hl=>by
  unfold ZH UN
  have hl2:(cond (onB inn k||act k) (mkS L inn (nx c)) inn).length=L.length:=by
   cases onB inn k||act k
   .exact hl
   .exact (WH L _ _).trans hl
  have ih:=zzu r (k+1) _ hl2
  have h1:cnt inn+cond (cond (onB inn k||act k) ((nx c).any (ZM L inn)) false) 1 0≤cnt (cond (onB inn k||act k) (mkS L inn (nx c)) inn):=by
   cases onB inn k||act k with
   |false=>simp
   |true=>exact zCo _ _ hl
  generalize cond (onB inn k||act k) ((nx c).any (ZM L inn)) false=x at *
  generalize UN L nx act (cond (onB inn k||act k) (mkS L inn (nx c)) inn) (k+1) r=y at *
  cases x <;> cases y <;> simp only [Q2,Jr,RT,RF] at*<;> omega
theorem zIx(inn:List Bool):cnt inn≤inn.length:=List.count_le_length
theorem ztP{R X:Type}{st:List Bool->Bool->Int->X}{body:X->Option (Sum X (Sum (List Bool×Bool) R))}(hL:L.length≤1000)
  (hb:∀(k:Nat) c inn more,inn.length=L.length->L[k]?=some c->body (st inn more (k:Int))=some (.inl (cond (onB inn k||act k) (st (mkS L inn (nx c)) (more||(nx c).any (ZM L inn)) ((k+1:Nat):Int)) (st inn more ((k+1:Nat):Int)))))
  (he:∀inn more,body (st inn more (L.length:Int))=some (.inr (.inl (inn,more)))):
  ∀(r pre:List za) (inn:List Bool) (more:Bool),L=pre++r->inn.length=L.length->zk body (st inn more (pre.length:Int))=some (.inl (ZH L nx act inn pre.length r,more||UN L nx act inn pre.length r))
 | [],pre,inn,more,e,hi=>by
  rw [Qx] at e;subst e;rw [zG,he];show some _=some _;simp [ZH,UN]
 |c ::r,pre,inn,more,e,hi=>by
  have hx:L[pre.length]?=some c:=by rw [e];simp
  rw [zG,hb _ c inn more hi hx];have ih:=λi m h=>ztP hL hb he r (pre++[c]) i m (by rw [e];simp) h;rw [show (pre++[c]).length=pre.length+1 by simp] at ih;unfold ZH UN
  cases onB inn pre.length||act pre.length with
  |false =>
   show zk body (st inn more ((pre.length+1:Nat):Int))=_;rw [ih _ _ hi];simp
  |true =>
   show zk body (st (mkS L inn (nx c)) _ ((pre.length+1:Nat):Int))=_;rw [ih _ _ (by rw [WH];exact hi),JL];rfl
def zJs(L:List za)(nx:za->List Tx)(act:Nat->Bool)(R:List Bool):Prop:=
 ∀(k:Nat) c,L[k]?=some c->(onB R k||act k)=true->∀s∈nx c,Xj L s=true->onB R (atN L s).toNat=true
theorem zH4{inn:List Bool}(h:UN L nx act inn 0 L=false):zJs L nx act inn:=λk c hk hb s hs hh=>by
 have:=(zpz L 0 inn h).2 k c hk (by rw [QP];exact hb);rw [Qw] at this;have:=this s hs;unfold ZM at this;rw [hh,QC,Qk,Bool.not_eq_false] at this;exact this
theorem zr2{R X:Type}{st:List Bool->Bool->X}{body:X->Option (Sum X (Sum (List Bool) R))}{Q:Nat->Prop}
  (hb:∀inn,inn.length=L.length->body (st inn true)=some (.inl (st (ZH L nx act inn 0 L) (UN L nx act inn 0 L))))
  (he:∀inn,inn.length=L.length->body (st inn false)=some (.inr (.inl inn)))
  (hQ:∀(j:Nat) c,L[j]?=some c->(Q j∨act j=true)->∀s∈nx c,Xj L s=true->Q (atN L s).toNat):
  ∀(d:Nat) (inn:List Bool),inn.length=L.length->L.length≤d+cnt inn->(∀n,onB inn n=true->Q n) ->
  ∃F,zk body (st inn true)=some (.inl F)/\F.length=L.length/\zJs L nx act F/\(∀n,onB inn n=true->onB F n=true)/\(∀n,onB F n=true->Q n)
 |d,inn,hl,hd,hq=>by
  have hl2:(ZH L nx act inn 0 L).length=L.length:=(zwm L 0 inn).trans hl;rw [zG,hb inn hl]
  cases hg:UN L nx act inn 0 L with
  |false =>
   have e:=(zpz L 0 inn hg).1;refine ⟨inn,?_,hl,zH4 hg,λn h=>h,hq⟩;show zk body (st _ false)=_;rw [zG,he _ hl2,e];rfl
  |true =>
   have hc:=zzu (nx:=nx) (act:=act) L 0 inn hl;rw [hg] at hc;simp only [RT] at hc;have hle:=zIx (ZH L nx act inn 0 L);have hq2:∀n,onB (ZH L nx act inn 0 L) n=true->Q n:=zr3 L 0 inn hl (λj c hj hor=>by rw [QP] at hor;exact hQ j c hj hor) hq
   cases d with
   |zero=>omega
   |succ d =>
    obtain ⟨F,k1,k2,k3,k4,k5⟩:=zr2 hb he hQ d _ hl2 (by omega) hq2;exact ⟨F,k1,k2,k3,λn h=>k4 n (ztQ L 0 inn hl n h),k5⟩
end
def mis(L:List za)(c:za):Bool:=(c.Super ::c.Impl).any (λs=>!Xj L s)
def Up(l:List za):Option (List za)×Int:=
 cond (decide (16<(l.length:Int))) (none,3) (match lay giv l with
  |none=>(none,1)
  |some L=>cond (l.any (mis L)) (none,4) (cond (l.any (Ut L)) (none,1) (some L,0)))
theorem zyB{l L:List za}(h:lay giv l=some L)(hm:l.any (mis L)=false):Dk L/\∀c∈l,c.Super≠[]:=by
 obtain ⟨h1,h2,h3⟩:=B6 l giv L Oa h;have hO:=zvZ h
 have noE:Xj L []=false:=by
  cases hh:Xj L [] with
  |false=>rfl
  |true =>
   obtain ⟨c,hc⟩:=X0 hh;exact absurd (XO hc).2 (hO c (XO hc).1).name
 have hl:∀c∈l,∀s∈c.Super ::c.Impl,Xj L s=true:=λc hc s hs=>by
  have:=Qw.1 hm c hc;unfold mis at this;rw [Yv,Qw] at this;simpa using this s hs
 refine ⟨⟨h2,noE,λc hc s hs hne=>?_,λc hc hm=>(hO c hc).implE [] hm rfl⟩,λc hc e=>?_⟩
 .rw [h1] at hc
  rcases Qm.1 hc with e |e
  .have hg:giv.all (λc=>(c.Super ::c.Impl).all (λs=>s == []||Xj giv s))=true:=by decide +kernel
   have:=Qp.1 (Qp.1 hg c e) s hs;rw [Qt,beq_iff_eq] at this
   rcases this with e |e
   .exact absurd e hne
   .rw [KN] at e ⊢;rw [h1,JN];exact Jb _ e
  .exact hl c e s hs
 .have:=hl c hc c.Super (by simp);rw [e,noE] at this;cases this
theorem zIP{l L:List za}{m:List (Tx×Int)}(hl:l.length≤16)(hm:Xu L m)(hO:∀c∈l,c.Impl.length≤4):
  zk (λz=>O2 l L m z) 0=some (XE () (cond (l.any (mis L)) (some (none,4)) none)):=by
 rw [<-z7];refine Zk (λi c hc=>?_) ?_
 .show O2 l L m (i:Int)=_;have:=hO c (Qc hc);have hi:=(Qb.1 hc).1;unfold O2;rw [Xk hc,zo,hc];simp only [RT,Qa];rw [znp this];simp only [Qa];rw [zCq hm (by simp;omega),zz (by omega)];simp only [Qa];show _=some (UJ i (cond (mis L c) _ _));unfold mis;cases ((c.Super ::c.Impl).any λs=>!Xj L s) <;> rfl
 .show O2 l L m (l.length:Int)=_;unfold O2;rw [Xm];rfl
theorem zIQ{l L:List za}{m:List (Tx×Int)}(hl:l.length≤16)(hf:∀c∈l,El L m c=some (!Ut L c)):
  zk (λz=>O1 l L m z) 0=some (XE () (cond (l.any (Ut L)) (some (none,1)) none)):=by
 rw [<-z7];refine Zk (λi c hc=>?_) ?_
 .show O1 l L m (i:Int)=_;have hi:=(Qb.1 hc).1;unfold O1;rw [Xk hc,zo,hc];simp only [RT,Qa];rw [hf c (Qc hc),zz (by omega)];simp only [Qa];cases Ut L c <;> rfl
 .show O1 l L m (l.length:Int)=_;unfold O1;rw [Xm];rfl
theorem zyx{l:List za}(hc:∀c∈l,Wq c):∃m,(∀L,(Up l).1=some L->Xu L m)/\WP l=some ((Up l).1.map (λL=>zD.mk L m),(Up l).2):=by
 unfold WP Up
 cases hl:decide (16<(l.length:Int)) with
 |true=>exact ⟨[],λL h=>(by cases h),rfl⟩
 |false =>
  have hl:=of_decide_eq_false hl;rw [zvR];simp only [RF,Qa];rw [zHr];simp only [Qa,zB]
  have hl16:l.length≤16:=by omega
  obtain ⟨h1,h2⟩:=zzS hl16 hc l [] giv _ rfl zCQ rfl;unfold zts
  cases hy:lay giv l with
  |none =>
   rw [show zk (λz=>GK l z.1 z.2.1 z.2.2) (giv,Dn 0 [] giv,0)=_ from h1 hy];exact ⟨[],λL h=>(by cases h),rfl⟩
  |some L =>
   obtain ⟨m,hm,e⟩:=h2 L hy;rw [show zk (λz=>GK l z.1 z.2.1 z.2.2) (giv,Dn 0 [] giv,0)=_ from e];obtain ⟨k1,k2,k3⟩:=B6 l giv L Oa hy;have hO:=zvZ hy
   have hlL:∀c∈l,c∈L:=λc hc=>by rw [k1];exact List.mem_append_right _ hc
   have hlen:L.length≤100:=by rw [k1,Qy];have:giv.length=10:=rfl;omega
   simp only [Qa,zB];unfold ztt;rw [zIP hl16 hm (λc hc=>(hO c (hlL c hc)).impl)]
   cases hmis:l.any (mis L) with
   |true=>exact ⟨[],λL h=>(by cases h),rfl⟩
   |false =>
    obtain ⟨hL,hS⟩:=zyB hy hmis;simp only [RF,Qa,zB,XE];unfold ztu;rw [zIQ hl16 (λc hc=>zHm hm hL hO hlen (hlL c hc) (hS c hc))]
    cases hb:l.any (Ut L) with
    |true=>exact ⟨[],λL h=>(by cases h),rfl⟩
    |false=>exact ⟨m,λL' h=>(by cases h;exact hm),rfl⟩
theorem Zb{L:List za}(hl:L.length≤1000)(n:Tx):zS L n=some (atN L n):=by
 unfold zS
 rw [show ((zk (λz=>zjD L n z) 0).bind λo=>zB o (λb=>zo2) some)=_ from Zo (l:=L) (p:=λc:za=>c.Name == n) (by omega)
  (λi x hx=>by unfold zjD;rw [Xk hx,zo,hx];rfl) (by unfold zjD;rw [Xm];rfl)]
 rfl
theorem zC0{l:List za}(hl:l.length≤16)(hc:∀c∈l,Wq c):∀(r pre L:List za),l=pre++r->L.length=10+pre.length ->
  zk (λz=>HR l z.1 z.2) (L,(pre.length:Int))=some (match lay L r with |none=>.inr (none,1) |some L'=>.inl L')
 | [],pre,L,e,hL=>by
  rw [Qx] at e;subst e;rw [zG];show (HR l L (l.length:Int)).bind _=_;unfold HR;rw [Xm];rfl
 |c ::r,pre,L,e,hL=>by
  have hlen:l.length=pre.length+(r.length+1):=by rw [e];simp
  have hx:l[pre.length]?=some c:=by rw [e];simp
  have hcm:c∈l:=Qc hx
  have step:zk (λz=>HR l z.1 z.2) (L,(pre.length:Int))=(cond (Xj L c.Name||!ZN c) (some (.inr (.inr (none,1)))) (some (.inl (L++[c],((pre.length+1:Nat):Int))))).bind (Sum.elim (zk (λz=>HR l z.1 z.2)) some):=by
   rw [zG];show (HR l L (pre.length:Int)).bind _=_;congr 1;unfold HR;rw [Xk hx,zo,hx];simp only [RT,Qa];rw [zsN (hc c hcm),Zb (by omega),zJT (by omega) (by omega),zz (by omega)];simp only [Qa];rw [Dw];cases Xj L c.Name <;> cases ZN c <;> rfl
  rw [step];unfold lay
  cases h1:(Xj L c.Name||!ZN c) with
  |true=>rfl
  |false =>
   have:=zC0 hl hc r (pre++[c]) (L++[c]) (by rw [e];simp) (by simp;omega);rw [show (pre++[c]).length=pre.length+1 by simp] at this;exact this
theorem zI3{L:List za}(hL:L.length≤100){c:za}(hi:c.Impl.length≤4):zk (λz=>OL L c z) 0=some (XE () (cond (c.Impl.any (λs=>!Xj L s)) (some (none,4)) none)):=by
 rw [<-z7];refine Zk (λi s hs=>?_) ?_
 .show OL L c (i:Int)=_;have hi:=(Qb.1 hs).1;unfold OL;rw [Xk hs,zo,hs];simp only [RT,Qa];rw [Zb (by omega),zz (by omega)];simp only [Qa];rw [Gz];cases Xj L s <;> rfl
 .show OL L c (c.Impl.length:Int)=_;unfold OL;rw [Xm];rfl
theorem zI4{L:List za}(hL:L.length≤100)(h1:1≤L.length)(hO:∀c∈L,Okc c):zk (λz=>OK L z) 1=some (XE () (cond ((L.drop 1).any (mis L)) (some (none,4)) none)):=by
 rw [<-z7];refine zoR (k:=1) (λi c _ hc=>?_) ?_ h1
 .show OK L (i:Int)=_;have hi:=(Qb.1 hc).1;unfold OK;rw [Xk hc,zo,hc];simp only [RT,Qa];rw [Zb (by omega)];simp only [Qa];rw [Gz,zI3 hL (hO c (Qc hc)).impl];unfold zt3;rw [zz (by omega)];show _=some (UJ i (cond (mis L c) _ _));unfold mis;rw [QZ];cases Xj L c.Super <;> cases (c.Impl.any λs=>!Xj L s) <;> rfl
 .show OK L (L.length:Int)=_;unfold OK;rw [Xm];rfl
theorem zyg{L:List za}{l:List Tx}(hL:L.length≤100)(hl:l.length≤100){inn:List Bool}(hi:inn.length=L.length)(more:Bool):
  zk (λz=>E5 L l z.1 z.2.1 z.2.2) (inn,more,0)=some (.inl (mkS L inn l,more||l.any (ZM L inn))):=by
 refine zrZ (l:=l) (by omega) (λj s inn more hi hs=>?_) (λinn more=>?_) l [] inn more rfl hi
 .show E5 L l inn more (j:Int)=_;unfold E5 zhi;rw [Xk hs,zo,hs];simp only [RT,Qa];rw [Zb (by omega)];simp only [Qa];rw [Dw];unfold mk1 ZM
  cases hh:Xj L s with
  |false=>simp
  |true =>
   obtain ⟨g1,g2⟩:=Wt hh
   have e:idx inn (atN L s)=some (onB inn (atN L s).toNat):=by
    unfold idx onB;rw [if_pos g1,Qj,Qe (by omega)];rfl
   rw [e];simp only [RT,Qa,QC];cases onB inn (atN L s).toNat <;> simp
 .show E5 L l inn more (l.length:Int)=_;unfold E5;rw [Xm];rfl
theorem zz4{inn:List Bool}{k:Nat}(h:k<inn.length):idx inn (k:Int)=some (onB inn k):=by
 rw [zo,Qe h];unfold onB;rw [Qj,Qe h];rfl
abbrev abv(c:za):List Tx:=c.Super ::c.Impl
theorem zuW{L:List za}(hL:L.length≤100)(hO:∀c∈L,Okc c)(v:Nat)(first:Bool){inn:List Bool}(hi:inn.length=L.length)(more:Bool):
  zk (λz=>Bw L (v:Int) first z.1 z.2.1 z.2.2) (inn,more,0)=some (.inl (ZH L abv (λk=>first&&Nat.beq k v) inn 0 L,more||UN L abv (λk=>first&&Nat.beq k v) inn 0 L)):=by
 refine ztP (st:=λa b c=>(a,b,c)) (nx:=abv) (act:=λk=>first&&Nat.beq k v) (by omega) (λk c inn more hi hc=>?_) (λinn more=>?_) L [] inn more rfl hi
 .show Bw L (v:Int) first inn more (k:Int)=_
  have hk:=(Qb.1 hc).1;have h4:=(hO c (Qc hc)).impl;unfold Bw;rw [Xk hc,zz4 (by omega),zo,hc];simp only [RT,Qa];rw [zzf h4];simp only [Qa];rw [zyg hL (by simp;omega) hi];unfold zhk zhj;rw [zz (by omega)]
  have e:((k:Int) == (v:Int))=Nat.beq k v:=by
   rw [QK,beq_iff_eq,Nat.beq_eq];omega
  rw [e]
  cases onB inn k <;> cases first <;> cases Nat.beq k v <;> rfl
 .show Bw L (v:Int) first inn more (L.length:Int)=_
  unfold Bw;rw [Xm];rfl
theorem zBY{L:List za}(hL:L.length≤100)(hO:∀c∈L,Okc c)(h:Dk L){v:Nat}{c0:za}(hv:L[v]?=some c0):zie L (v:Int)=some (cyc L c0.Name):=by
 have hvl:=(Qb.1 hv).1
 let Q:Nat->Prop:=λn=>∃c,L[n]?=some c/\Rc (nxA L) c0.Name c.Name
 have hnx:∀{c:za},c∈L->∀s∈abv c,Xj L s=true->s∈nxA L c.Name:=λ{c} hc s hs hh=>by
  rw [WB (h.nd.cl hc)];refine Jf.2 ⟨hs,?_⟩
  have:s≠[]:=λe=>by rw [e,h.noE] at hh;cases hh
  simpa using this
 have hat:∀{s:Tx},Xj L s=true->∃d,L[(atN L s).toNat]?=some d/\d.Name=s:=λ{s} hh=>by
  obtain ⟨d,hd⟩:=X0 hh;have e:=U6 L s;rw [hd] at e;obtain ⟨g1,g2⟩:=Wt hh;refine ⟨d,?_,(XO hd).2⟩;unfold idx at e;rw [if_pos g1] at e;exact e
 have hQ:∀(a:Nat->Bool),(∀k,a k=true->k=v)->∀(j:Nat) c,L[j]?=some c->(Q j∨a j=true)->∀s∈abv c,Xj L s=true->Q (atN L s).toNat:=λa ha j c hj hor s hs hh=>by
  obtain ⟨d,hd,hd2⟩:=hat hh;have hsx:=hnx (Qc hj) s hs hh;refine ⟨d,hd,?_⟩;rw [hd2]
  rcases hor with ⟨c',hc',hr⟩ |hj2
  .rw [hj] at hc';cases hc';exact hr.snoc hsx
  .have:=ha j hj2;subst this;rw [hj] at hv;cases hv;exact .one hsx
 have body2:∀inn more first,Bv L (v:Int) inn more first=cond more ((zk (λz=>Bw L (v:Int) first z.1 z.2.1 z.2.2) (inn,false,0)).bind λo=>zB o (λb=>zlL b.1 b.2) (λr=>some (.inr (.inr r)))) (some (.inr (.inl inn))):=λ_ _ _=>rfl
 have hrep:(List.replicate L.length false).length=L.length:=by simp
 have hoff:∀n,onB (List.replicate L.length false) n=false:=λn=>by
  unfold onB;rw [Qj,JQ];split <;> rfl
 have hF:∃F,zk (λz=>Bv L (v:Int) z.1 z.2.1 z.2.2) (List.replicate L.length false,true,true)=some (.inl F)/\F.length=L.length/\zJs L abv (λ_=>false) F/\(∀s∈abv c0,Xj L s=true->onB F (atN L s).toNat=true)/\(∀n,onB F n=true->Q n):=by
  let inn1:=ZH L abv (λk=>true&&Nat.beq k v) (List.replicate L.length false) 0 L
  have hl1:inn1.length=L.length:=(zwm L 0 _).trans hrep
  have hq1:∀n,onB inn1 n=true->Q n:=zr3 L 0 _ hrep (λj c hj hor=>by
   rw [QP] at hor
   exact hQ (λk=>true&&Nat.beq k v) (λk hk=>by simpa using hk) j c hj hor) (λn hn=>by rw [hoff] at hn;cases hn)
  have ha1:∀s∈abv c0,Xj L s=true->onB inn1 (atN L s).toNat=true:=zz9 L 0 _ hrep v c0 hv (by simp);rw [zG];show ∃F,(Bv L (v:Int) (List.replicate L.length false) true true).bind _=_/\_;rw [body2,zuW hL hO v true hrep false]
  cases hg:UN L abv (λk=>true&&Nat.beq k v) (List.replicate L.length false) 0 L with
  |false =>
   refine ⟨inn1,?_,hl1,?_,ha1,hq1⟩
   .show zk (λz=>Bv L (v:Int) z.1 z.2.1 z.2.2) (inn1,false,false)=_;rw [zG];rfl
   .have e:inn1=List.replicate L.length false:=(zpz L 0 _ hg).1;rw [e];intro k c hk hb;rw [hoff] at hb;cases hb
  |true =>
   obtain ⟨F,k1,k2,k3,k4,k5⟩:=zr2 (L:=L) (nx:=abv) (act:=λk=>false&&Nat.beq k v) (R:=Bool) (st:=λa b=>(a,b,false)) (body:=λz=>Bv L (v:Int) z.1 z.2.1 z.2.2) (Q:=Q)
    (λinn hi=>by
     show Bv L (v:Int) inn true false=_;rw [body2,zuW hL hO v false hi false]
     rfl) (λinn hi=>rfl) (hQ _ (λk hk=>by simp at hk)) L.length inn1 hl1 (by omega) hq1
   refine ⟨F,k1,k2,λk c hk hb=>k3 k c hk (by simpa using hb),λs hs hh=>k4 _ (ha1 s hs hh),k5⟩
 obtain ⟨F,f1,f2,f3,f4,f5⟩:=hF;unfold zie;rw [show mkP 1 (L.length:Int)=some L.length by unfold mkP;rw [if_pos (by omega),Jq]];simp only [Qa];rw [f1];show (idx F (v:Int)).bind _=_;rw [zz4 (by omega)];show some (onB F v)=_;congr 1;rw [QK,zvI];constructor
 .intro hb;obtain ⟨c,hc,hr⟩:=f5 v hb;rw [hv] at hc;cases hc;exact hr
 .intro hr
  have key:∀x,Rc (nxA L) c0.Name x->onB F (atN L x).toNat=true:=λx hx=>by
   refine hx.into (F:=λy=>onB F (atN L y).toNat=true/\Xj L y=true) (λy hy z hz=>?_) (λy hy=>?_) |>.1
   .have hz2:Xj L z=true:=KN.2 (h.nxA_in y z hz);obtain ⟨d,hd,hd2⟩:=hat hy.2;refine ⟨f3 _ d hd (by rw [hy.1];rfl) z ?_ hz2,hz2⟩;rw [<-hd2,WB (h.nd.cl (Qc hd))] at hz;exact (Jf.1 hz).1
   .have hy2:Xj L y=true:=KN.2 (h.nxA_in _ y hy);refine ⟨f4 y ?_ hy2,hy2⟩;rw [WB (h.nd.cl (Qc hv))] at hy;exact (Jf.1 hy).1
  have:=key _ hr;rw [h.nd.at hv,Jq] at this;exact this
theorem Oc{L l:List za}(h:L=giv++l){n:Tx}{c:za}(hc:cl giv n=some c):cl L n=some c:=by
 rw [h];unfold cl at hc ⊢;rw [List.find?_append,hc];rfl
theorem zIv{L l:List za}(h:L=giv++l){n:Tx}(hn:Xj giv n=true):cl L n=cl giv n:=by
 obtain ⟨c,hc⟩:=X0 hn;rw [hc,Oc h hc]
theorem zHz{L l:List za}(h:L=giv++l){n:Tx}(hn:Xj giv n=true):Xj L n=true:=by
 obtain ⟨c,hc⟩:=X0 hn;exact ZB (Oc h hc)
theorem zE4:giv.all (λc=>(nxA giv c.Name).all (λs=>decide (atN giv s<atN giv c.Name)&&Xj giv s))=true:=by decide +kernel
theorem zIC{L l:List za}(h:L=giv++l){a b:Tx}(hr:Rc (nxA L) a b):Xj giv a=true->atN giv b<atN giv a/\Xj giv b=true:=by
 have one:∀{a b:Tx},b∈nxA L a->Xj giv a=true->atN giv b<atN giv a/\Xj giv b=true:=λ{a b} hb ha=>by
  have e:nxA L a=nxA giv a:=by unfold nxA;rw [zIv h ha]
  rw [e] at hb;obtain ⟨c,hc⟩:=X0 ha;have h1:=Qp.1 zE4 c (XO hc).1;rw [(XO hc).2] at h1;have h2:=Qp.1 h1 b hb;rw [Qd,decide_eq_true_eq] at h2;exact h2
 induction hr with
 |one hb=>exact one hb
 |more hb _ ih =>
  intro ha;have h1:=one hb ha;have h2:=ih h1.2;exact ⟨by omega,h2.2⟩
theorem zHp{L l:List za}(h:L=giv++l){c:za}(hc:c∈giv):cyc L c.Name=false:=by
 cases hh:cyc L c.Name with
 |false=>rfl
 |true =>
  have:=(zIC h (zvI.1 hh) (ZB (Oa.cl hc))).1;omega
theorem zCP:giv.all (λc=>(c.Impl == [])&&!c.Interface&&(c.Super == []||Xj giv c.Super))=true:=by decide +kernel
theorem zxb:(giv.drop 1).all (λc=>!(c.Super == []))=true:=by decide +kernel
theorem zE3{c:za}(hc:c∈giv):c.Impl=[]/\c.Interface=false/\(c.Super=[]∨Xj giv c.Super=true):=by
 have:=Qp.1 zCP c hc;simp only [Qd,beq_iff_eq,Qk,Qt] at this;exact ⟨this.1.1,this.1.2,this.2⟩
theorem zHq{L l:List za}(h:L=giv++l){n:Tx}(hn:Xj giv n=true):isF L n=false:=by
 obtain ⟨c,hc⟩:=X0 hn;unfold isF;rw [Oc h hc];exact (zE3 (XO hc).1).2.1
theorem zCN{L l:List za}(h:L=giv++l)(hE:Xj L []=false){c:za}(hc:c∈giv):Ut L c=false:=by
 obtain ⟨h1,h2,h3⟩:=zE3 hc;unfold Ut;rw [zHp h hc,h1]
 rcases h3 with e |e
 .rw [e]
  have:isF L []=false:=by
   unfold isF
   cases hcl:cl L [] with
   |none=>rfl
   |some d=>rw [ZB hcl] at hE;cases hE
  rw [this];rfl
 .rw [zHq h e];rfl
theorem zHs{L l:List za}(h:L=giv++l){c:za}(hc:c∈giv.drop 1):mis L c=false:=by
 obtain ⟨h1,h2,h3⟩:=zE3 (J9 hc);have hs:=Qp.1 zxb c hc;unfold mis;rw [h1,QZ,List.any_nil,Q2]
 rcases h3 with e |e
 .rw [e] at hs;cases hs
 .rw [zHz h e];rfl
theorem zzw{L l:List za}(h:L=giv++l){p:za->Bool}(hp:∀c∈giv.drop 1,p c=false):(L.drop 1).any p=l.any p:=by
 have e:L.drop 1=giv.drop 1++l:=by rw [h];rfl
 rw [e,List.any_append,Qw.2 (λc hc=>by rw [hp c hc];exact Jh),QU]
theorem GB{L:List za}{n:Tx}{c:za}(h:cl L n=some c):idx L (atN L n)=some c:=by rw [U6,h]
theorem zDH{L:List za}(hL:L.length≤100){c:za}(hi:c.Impl.length≤4)(hh:∀s∈c.Impl,Xj L s=true)(b:Bool):
  zk (λz=>HT L c z.1 z.2) (b,0)=some (.inl (b||c.Impl.any (λs=>!isF L s))):=by
 have key:∀(r pre:List Tx) (b:Bool),c.Impl=pre++r->zk (λz=>HT L c z.1 z.2) (b,(pre.length:Int))=some (.inl (b||r.any (λs=>!isF L s))):=by
  intro r
  induction r with
  |nil =>
   intro pre b e;rw [Qx] at e;rw [zG];show (HT L c b (pre.length:Int)).bind _=_;unfold HT;rw [<-e,Xm];simp
  |cons s r ih =>
   intro pre b e
   have hlen:c.Impl.length=pre.length+(r.length+1):=by rw [e];simp
   have hx:c.Impl[pre.length]?=some s:=by rw [e];simp
   obtain ⟨d,hd⟩:=X0 (hh s (Qc hx))
   have step:HT L c b (pre.length:Int)=some (.inl (b||!isF L s,((pre.length+1:Nat):Int))):=by
    unfold HT;rw [Xk hx,zo,hx];simp only [RT,Qa];rw [Zb (by omega)];simp only [Qa];rw [GB hd,zz (by omega)];unfold isF;rw [hd];cases b <;> rfl
   rw [zG];show (HT L c b (pre.length:Int)).bind _=_;rw [step];show zk (λz=>HT L c z.1 z.2) (b||!isF L s,((pre.length+1:Nat):Int))=_;have:=ih (pre++[s]) (b||!isF L s) (by rw [e];simp);rw [show (pre++[s]).length=pre.length+1 by simp] at this;rw [this,QZ,JL]
 exact key c.Impl [] b rfl
theorem zHX{L:List za}(hL:L.length≤100)(h1:1≤L.length)(hO:∀c∈L,Okc c)(h:Dk L)(hS:∀c∈L.drop 1,c.Super≠[]):
  zk (λz=>OP L z) 1=some (XE () (cond ((L.drop 1).any (Ut L)) (some (none,1)) none)):=by
 rw [<-z7];refine zoR (k:=1) (λi c hk hc=>?_) ?_ h1
 .show OP L (i:Int)=_;have hcm:=Qc hc;have hi:=(Qb.1 hc).1;have hcd:c∈L.drop 1:=Qc (i:=i-1) (by rw [Jw,show 1+(i-1)=i by omega,hc]);obtain ⟨x,hx⟩:=X0 (h.closed c hcm c.Super (by simp) (hS c hcd));have himp:∀s∈c.Impl,Xj L s=true:=λs hs=>h.closed c hcm s (by simp [hs]) ((hO c hcm).implE s hs);unfold OP;rw [Xk hc,zo,hc];simp only [RT,Qa];rw [Zb (by omega)];simp only [Qa];rw [GB hx];simp only [Qa];rw [zBY hL hO h hc];simp only [Qa];unfold zmo;rw [zDH hL (hO c hcm).impl himp,zDH hL (hO c hcm).impl himp];simp only [Qa,zB];unfold zsA;rw [zz (by omega)];show _=some (UJ i (cond (Ut L c) _ _));unfold Ut;rw [show isF L c.Super=x.Interface by unfold isF;rw [hx]];cases x.Interface <;> cases (c.Impl.any λs=>!isF L s) <;> cases cyc L c.Name <;> rfl
 .show OP L (L.length:Int)=_;unfold OP;rw [Xm];rfl
theorem zAR{L l:List za}(h:L=giv++l)(hS:∀c∈l,c.Super≠[]):∀c∈L.drop 1,c.Super≠[]:=by
 have e:L.drop 1=giv.drop 1++l:=by rw [h];rfl
 intro c hc;rw [e] at hc
 rcases Qm.1 hc with e |e
 .have:=Qp.1 zxb c e;intro e2;rw [e2] at this;cases this
 .exact hS c e
theorem zyY{l:List za}(hc:∀c∈l,Wq c):zs5 l=some ((Up l).1.map zq.mk,(Up l).2):=by
 unfold zs5 Up
 cases hl:decide (16<(l.length:Int)) with
 |true=>rfl
 |false =>
  have hl:=of_decide_eq_false hl;rw [zwu];simp only [RF,Qa]
  have hl16:l.length≤16:=by omega
  rw [show zk (λz=>HR l z.1 z.2) (giv,0)=_ from zC0 hl16 hc l [] giv rfl rfl]
  cases hy:lay giv l with
  |none=>rfl
  |some L =>
   obtain ⟨k1,k2,k3⟩:=B6 l giv L Oa hy;have hO:=zvZ hy
   have hlen:L.length≤100:=by rw [k1,Qy];have:giv.length=10:=rfl;omega
   have hpos:1≤L.length:=by rw [k1,Qy];have:giv.length=10:=rfl;omega
   simp only [Qa,zB];unfold zt2;rw [zI4 hlen hpos hO,zzw k1 (λc hc=>zHs k1 hc)]
   cases hmis:l.any (mis L) with
   |true=>rfl
   |false =>
    obtain ⟨hL,hS⟩:=zyB hy hmis;simp only [RF,Qa,zB,XE];unfold zt4;rw [zHX hlen hpos hO hL (zAR k1 hS),zzw k1 (λc hc=>zCN k1 hL.noE (J9 hc))]
    cases hb:l.any (Ut L) with
    |true=>rfl
    |false=>rfl
structure Xe(l L:List za):Prop extends Wf L where
 app:L=giv++l
 few:l.length≤16
 okc:∀c∈L,Okc c
 may:∀c∈l,ZN c=true
theorem Xe.len{l L:List za}(h:Xe l L):L.length≤26:=by
 rw [h.app,Qy];have:giv.length=10:=rfl;have:=h.few;omega
theorem zDa{l L:List za}(h:(Up l).1=some L):Xe l L/\(Up l).2=0:=by
 unfold Up at h ⊢
 cases hl:decide (16<(l.length:Int)) with
 |true=>rw [hl] at h;cases h
 |false =>
  rw [hl] at h;have hl:=of_decide_eq_false hl;simp only [RF] at h ⊢
  cases hy:lay giv l with
  |none=>rw [hy] at h;cases h
  |some L' =>
   rw [hy] at h;simp only at h ⊢
   cases hmis:l.any (mis L') with
   |true=>rw [hmis] at h;cases h
   |false =>
    cases hb:l.any (Ut L') with
    |true=>rw [hmis,hb] at h;cases h
    |false =>
     rw [hmis,hb] at h
     have e:L'=L:=by
      have h:some L'=some L:=h;cases h;rfl
     subst e;obtain ⟨hL,hS⟩:=zyB hy hmis;obtain ⟨k1,k2,k3⟩:=B6 l giv L' Oa hy
     have bad:∀c∈L',Ut L' c=false:=λc hc=>by
      rw [k1] at hc
      rcases Qm.1 hc with e |e
      .exact zCN k1 hL.noE e
      .simpa using Qw.1 hb c e
     have bad':∀c∈L',isF L' c.Super=false/\(c.Impl.any (λs=>!isF L' s)=false/\cyc L' c.Name=false):=λc hc=>by
      have:=bad c hc;unfold Ut at this;rw [Qn,Qn] at this;exact this
     refine ⟨⟨⟨hL,λn hr=>?_,λc hc=>(bad' c hc).1,λc hc s hs=>?_⟩,k1,by omega,zvZ hy,k3⟩,rfl⟩
     .cases hn:cl L' n with
      |none =>
       have:nxA L' n=[]:=by unfold nxA;rw [hn]
       cases hr with
       |one h=>rw [this] at h;cases h
       |more h _=>rw [this] at h;cases h
      |some c =>
       have h1:=(bad' c (XO hn).1).2.2;rw [(XO hn).2] at h1;rw [zvI.2 hr] at h1;cases h1
     .have:=Qw.1 (bad' c hc).2.1 s hs;simpa using this
theorem zDb{l:List za}(h:(Up l).1=none):(Up l).2≠0:=by
 unfold Up at h ⊢
 cases hl:decide (16<(l.length:Int)) with
 |true=>simp
 |false =>
  rw [hl] at h;simp only [RF] at h ⊢
  cases hy:lay giv l with
  |none=>simp
  |some L' =>
   rw [hy] at h;simp only at h ⊢
   cases hmis:l.any (mis L') with
   |true=>simp
   |false =>
    cases hb:l.any (Ut L') with
    |true=>simp
    |false=>rw [hmis,hb] at h;simp at h
section
variable {l L : List za} {m : List (Tx × Int)}
theorem zuf(h:Xe l L)(hm:Xu L m):∀(d:Nat) (n:Tx) (acc:List Tx),UG L d n=true->acc.length+d≤200->zk (λz=>BJ L m z.1 z.2) (n,acc)=some (.inl (acc++sup L d n))
 | 0,n,acc,hf,hd=>by
  rw [zG];show (BJ L m n acc).bind _=_;unfold BJ Kf;rw [hm.has]
  have:Xj L n=false:=by simpa [UG] using hf
  rw [this];simp [sup]
 |d+1,n,acc,hf,hd=>by
  rw [zG];show (BJ L m n acc).bind _=_;unfold BJ Kf;rw [hm.has];unfold UG at hf;unfold sup
  cases hc:cl L n with
  |none=>rw [HH hc];simp
  |some c =>
   rw [hc] at hf;rw [ZB hc,Ob hm (ZB hc),hc,XJ (by simp;omega) (by simp;omega)];show zk (λz=>BJ L m z.1 z.2) (c.Super,acc++[n])=_;rw [zuf h hm d c.Super (acc++[n]) hf (by simp;omega)];simp
def Xn(L:List za)(n:Tx):List Tx:=sup L L.length n
theorem DG(h:Xe l L)(hm:Xu L m)(n:Tx):Gk L m n=some (Xn L n):=by
 unfold Gk;rw [zuf h hm L.length n [] (zwD h.toWf n) (by have:=h.len;simp;omega)];rfl
theorem zpd(h:Xe l L):∀(d:Nat) (n:Tx) (acc:List Tx),UG L d n=true->acc.length+d≤200->zk (λz=>BE L z.1 z.2) (acc,atN L n)=some (.inl (acc++sup L d n))
 | 0,n,acc,hf,hd=>by
  rw [zG];show (BE L acc (atN L n)).bind _=_;unfold BE
  have:Xj L n=false:=by simpa [UG] using hf
  rw [Dw,this];simp [sup]
 |d+1,n,acc,hf,hd=>by
  rw [zG];show (BE L acc (atN L n)).bind _=_;unfold BE;rw [Dw];unfold UG at hf;unfold sup
  cases hc:cl L n with
  |none=>rw [HH hc];simp
  |some c =>
   rw [hc] at hf;have:=h.len;rw [ZB hc,GB hc];simp only [RT,Qa];rw [Zb (by omega),XJ (by simp;omega) (by simp;omega),(XO hc).2];show zk (λz=>BE L z.1 z.2) (acc++[n],atN L c.Super)=_;rw [zpd h d c.Super (acc++[n]) hf (by simp;omega)];simp
theorem HZ(h:Xe l L)(n:Tx):KU L n=some (Xn L n):=by
 have:=h.len;unfold KU;rw [Zb (by omega)];simp only [Qa];rw [zpd h L.length n [] (zwD h.toWf n) (by simp;omega)];rfl
theorem zD9:∀(d:Nat) (n:Tx),(sup L d n).length≤d
 | 0,n=>by simp [sup]
 |d+1,n=>by
  unfold sup
  cases cl L n with
  |none=>simp
  |some c=>have:=zD9 d c.Super;simpa using this
theorem Z7(h:Xe l L)(n:Tx):(Xn L n).length≤26:=QL (zD9 _ n) h.len
theorem zzd(h:Xe l L):∀d,sup L d []=[]
 | 0=>rfl
 |d+1=>by
  unfold sup
  cases hE:cl L [] with
  |none=>rfl
  |some c=>have:=ZB hE;rw [h.noE] at this;cases this
theorem Kb(h:Xe l L):∀(d:Nat) (n x:Tx),x∈sup L d n->Xj L x=true/\(x=n∨Rc (nxA L) n x)/\(x=n∨∃c∈L,x=c.Super)
 | 0,n,x,hx=>by simp [sup] at hx
 |d+1,n,x,hx=>by
  unfold sup at hx
  cases hc:cl L n with
  |none=>rw [hc] at hx;cases hx
  |some c =>
   rw [hc] at hx
   rcases Qu.1 hx with e |e
   .subst e;exact ⟨ZB hc,.inl rfl,.inl rfl⟩
   .obtain ⟨h1,h2,h3⟩:=Kb h d c.Super x e
    have hne:c.Super≠[]:=λe2=>by rw [e2,zzd h] at e;cases e
    have h6:c.Super∈nxA L n:=by rw [WB hc];exact Jf.2 ⟨by simp,by simpa using hne⟩
    refine ⟨h1,.inr ?_,.inr ?_⟩
    .rcases h2 with e2 |e2
     .rw [e2];exact .one h6
     .exact .more h6 e2
    .rcases h3 with e2 |e2
     .exact ⟨c,(XO hc).1,e2⟩
     .exact e2
theorem zx0(h:Xe l L):∀(d:Nat) (n:Tx),(sup L d n).Nodup
 | 0,n=>by simp [sup]
 |d+1,n=>by
  unfold sup
  cases hc:cl L n with
  |none=>simp
  |some c =>
   refine Jk.2 ⟨λhm=>?_,zx0 h d c.Super⟩
   have hne:c.Super≠[]:=λe2=>by rw [e2,zzd h] at hm;cases hm
   have h6:c.Super∈nxA L n:=by rw [WB hc];exact Jf.2 ⟨by simp,by simpa using hne⟩
   obtain ⟨_,h2,_⟩:=Kb h d c.Super n hm
   rcases h2 with e2 |e2
   .exact h.acyc n (.one (by rw [<-e2] at h6;exact h6))
   .exact h.acyc n (.more h6 e2)
theorem zD6(h:Xe l L){n x:Tx}(hx:x∈Xn L n):x∈L.map (·.Name):=KN.1 (Kb h _ n x hx).1
theorem zD7{n:Tx}(hn:Xj L n=true):n∈Xn L n:=by
 unfold Xn;obtain ⟨c,hc⟩:=X0 hn
 have:L≠[]:=λe=>by rw [e] at hn;cases hn
 cases hL:L.length with
 |zero=>exact absurd (Qf hL) this
 |succ d=>unfold sup;rw [hc];simp
theorem DH{n:Tx}(hn:Xj L n=false):Xn L n=[]:=by
 unfold Xn
 cases L.length with
 |zero=>rfl
 |succ d =>
  unfold sup
  cases hc:cl L n with
  |none=>rfl
  |some c=>rw [ZB hc] at hn;cases hn
end
theorem zv1:∀(a b:List UInt8),Op.bytesLess a b=true↔a<b
 |a,[]=>by
  have e:Op.bytesLess a []=false:=by cases a <;> rfl
  rw [e];constructor
  .intro h;cases h
  .intro h;exact absurd h (List.not_lt_nil a)
 | [],b ::y=>by
  constructor
  .intro _;exact List.nil_lt_cons b y
  .intro _;rfl
 |a ::x,b ::y=>by
  rw [List.cons_lt_cons_iff,<-zv1 x y];show (decide (a<b)||(a == b&&Op.bytesLess x y))=true↔_;rw [Qt,decide_eq_true_eq,Qd,beq_iff_eq]
theorem zxe:∀(s:Tx) (l:List Tx),Kj s l=l.takeWhile (λx=>Op.bytesLess x s)++s ::l.dropWhile (λx=>Op.bytesLess x s)
 |s,[]=>rfl
 |s,x ::r=>by
  unfold Kj;rw [Jn,Jt];by_cases h:s≤x
  .rw [if_pos h];have:¬(Op.bytesLess x s=true):=λh2=>absurd ((zv1 x s).1 h2) (List.not_lt.2 h);rw [if_neg this,if_neg this];rfl
  .rw [if_neg h];have:Op.bytesLess x s=true:=(zv1 x s).2 (List.not_le.1 h);rw [if_pos this,if_pos this,zxe s r];rfl
theorem zpc{s:Tx}{l:List Tx}(hl:l.length≤1000):∀(r pre:List Tx),l=pre++r->zk (λz=>DR l s z) (pre.length:Int)=some (.inl ((pre.length+(r.takeWhile (λx=>Op.bytesLess x s)).length:Nat):Int))
 | [],pre,e=>by
  rw [Qx] at e;rw [zG];show (DR l s (pre.length:Int)).bind _=_;unfold DR;rw [<-e,Xm];rfl
 |x ::r,pre,e=>by
  have hlen:l.length=pre.length+(r.length+1):=by rw [e];simp
  have hx:l[pre.length]?=some x:=by rw [e];simp
  rw [zG];show (DR l s (pre.length:Int)).bind _=_;unfold DR;rw [Xk hx,zo,hx,Jn,zz (by omega)]
  cases hb:Op.bytesLess x s with
  |false=>simp [hb]
  |true =>
   simp only [RT,Qa,hb,if_true];show zk (λz=>DR l s z) ((pre.length+1:Nat):Int)=_;have:=zpc (s:=s) hl r (pre++[x]) (by rw [e];simp);rw [show (pre++[x]).length=pre.length+1 by simp] at this;rw [this,Qv];congr 2;omega
theorem zEd{α:Type}(p:α->Bool):∀(l:List α),l.take (l.takeWhile p).length=l.takeWhile p/\l.drop (l.takeWhile p).length=l.dropWhile p/\(l.takeWhile p).length≤l.length
 | []=>by simp
 |x ::r=>by
  rw [Jn,Jt]
  cases p x with
  |false=>simp
  |true =>
   obtain ⟨h1,h2,h3⟩:=zEd p r;simp [h1,h2,h3]
theorem zwz{s:Tx}{l:List Tx}(hl:l.length≤900):znK l s=some (Kj s l):=by
 unfold znK;obtain ⟨h1,h2,h3⟩:=zEd (λx=>Op.bytesLess x s) l;rw [show zk (λz=>DR l s z) 0=_ from zpc (by omega) l [] rfl];simp only [Qa,zB,Q3,QP];unfold zp8;rw [Oi h3,h1];simp only [Qa];rw [XJ (w:=16) (l:=[]) (by simp;omega) (by simp;omega)];simp only [Qa,Jl];rw [GI h3,h2];simp only [Qa];rw [XJ (w:=16) (x:=[s]) (by simp;omega) (by simp;omega)];simp only [Qa]
 have h4:(l.dropWhile (λx=>Op.bytesLess x s)).length≤l.length:=by rw [<-h2,List.length_drop];omega
 rw [XJ (w:=16) (by simp;omega) (by simp;omega),zxe];simp
theorem zqi:∀{l:List Tx} (a:Tx),l.Nodup->l.count a=if a∈l then 1 else 0
 | [],a,_=>by simp
 |x ::r,a,h=>by
  rw [Jk] at h;rw [List.count_cons,zqi a h.2];by_cases e:x=a
  .subst e;simp [h.1]
  .have:a≠x:=λe2=>e e2.symm;simp [e,this]
theorem zBp{a b:List Tx}(ha:a.Nodup)(hb:b.Nodup)(h:∀x,x∈a↔x∈b):a.Perm b:=by
 rw [List.perm_iff_count];intro x;rw [zqi x ha,zqi x hb];by_cases hx:x∈a
 .rw [if_pos hx,if_pos ((h x).1 hx)]
 .rw [if_neg hx,if_neg (λhb=>hx ((h x).2 hb))]
theorem zDU{a b:List Tx}(ha:a.Pairwise (·≤·))(hb:b.Pairwise (·≤·))(h:a.Perm b):a=b:=
 Yp (λa b _ _ h1 h2=>List.le_antisymm h1 h2) ha hb h
theorem zw5{nx:Tx->List Tx}:∀(d i:Nat) (Xd:List Tx),Xd.Nodup->(bfs nx d i Xd).Nodup
 | 0,i,Xd,h=>h
 |d+1,i,Xd,h=>by
  unfold bfs
  cases Xd[i]? with
  |none=>exact h
  |some x =>
   refine zw5 d (i+1) _ ?_;obtain ⟨t,k1,k2,k3,k4⟩:=HL (nx x) Xd;rw [k1];exact JD.2 ⟨h,k2,λa ha b hb e=>(k3 b hb).1 (by rw [<-e];exact ha)⟩
theorem ztp{R:Type}{I:List Tx->Prop}{nx:Tx->List Tx}{p:Tx->Bool}{body:List Tx×List Tx×Int->Option (Sum (List Tx×List Tx×Int) (Sum (List Tx) R))}
  (hb:∀(i:Nat) acc Xd x,I Xd->acc.length≤i->Xd[i]?=some x->body (acc,Xd,(i:Int))=some (.inl (cond (p x) (acc++[x]) acc,push Xd (nx x),((i+1:Nat):Int))))
  (he:∀(i:Nat) acc Xd,I Xd->Xd.length≤i->body (acc,Xd,(i:Int))=some (.inr (.inl acc)))
  (hp:∀Xd x,I Xd->x∈Xd->I (push Xd (nx x))):∀(d i:Nat) (acc Xd:List Tx),I Xd->acc.length≤i->fin nx d i Xd=true ->
  zk body (acc,Xd,(i:Int))=some (.inl (acc++((bfs nx d i Xd).drop i).filter p))
 | 0,i,acc,Xd,hI,ha,hf=>by
  have hl:Xd.length≤i:=of_decide_eq_true hf;rw [zG,he i acc Xd hI hl];show some (Sum.inl acc:Sum (List Tx) R)=some (Sum.inl (acc++((Xd.drop i).filter p)));rw [Jz hl];simp
 |d+1,i,acc,Xd,hI,ha,hf=>by
  unfold fin at hf;unfold bfs
  cases hi:Xd[i]? with
  |none =>
   have hl:Xd.length≤i:=JH.1 hi;rw [zG,he i acc Xd hI hl];show some (Sum.inl acc:Sum (List Tx) R)=some (Sum.inl (acc++((Xd.drop i).filter p)));rw [Jz hl];simp
  |some x =>
   rw [hi] at hf;obtain ⟨t,ht⟩:=zqY (nx:=nx) d (i+1) (push Xd (nx x));obtain ⟨u,hu,_⟩:=HL (nx x) Xd
   have hx:(bfs nx d (i+1) (push Xd (nx x)))[i]?=some x:=by
    rw [ht,hu,Jc,Qq (Qb.1 hi).1,hi]
   obtain ⟨hlt,hge⟩:=Qb.1 hx;have ih:=λa ha=>ztp hb he hp d (i+1) a _ (hp _ _ hI (Qc hi)) ha hf;rw [zG,hb i acc Xd x hI ha hi];show zk body (cond (p x) (acc++[x]) acc,push Xd (nx x),((i+1:Nat):Int))=some (.inl (acc++((bfs nx d (i+1) (push Xd (nx x))).drop i).filter p));rw [ih _ (by cases p x <;> simp <;> omega),JG hlt,hge]
   cases hpx:p x with
   |true=>rw [Yu hpx];simp
   |false=>rw [Yt (by rw [hpx];exact Jh)];rfl
def Ug(L:List za)(n:Tx):List Tx:=bfs (nxI L) 100 0 (Xn L n)
def XN(L:List za)(n:Tx):List Tx:=Dt ((Ug L n).filter (isF L))
section
variable {l L : List za} {m : List (Tx × Int)}
theorem zAu(h:Xe l L)(n:Tx):fin (nxI L) 100 0 (Xn L n)=true:=
 zCG (U:=List.map (λc:za=>c.Name) L) (s0:=Xn L n) h.nxI_in _ _ _ .start (by have:=Z7 h n;have:=h.len;simp;omega)
theorem zAv(h:Xe l L)(n:Tx):Inv (List.map (λc:za=>c.Name) L) (Xn L n) (Ug L n):=zCf h.nxI_in _ _ _ .start
theorem zAw(h:Xe l L)(n:Tx):(Ug L n).length≤52:=by
 have h1:=(zAv h n).len;have h2:=Z7 h n;have h3:=h.len;simp only [Q4] at h1;omega
theorem zwF(h:Xe l L){n x:Tx}(hx:x∈Ug L n):Xj L x=true:=KN.2 ((zAv h n).mem (λy hy=>zD6 h hy) x hx)
theorem zDd{n:Tx}{c:za}(hc:cl L n=some c):nxI L n=c.Impl:=by unfold nxI;rw [hc]
theorem zAX{R:Type}{body:List Tx×Int->Option (Sum (List Tx×Int) (Sum (List Tx) R))}{l:List Tx}(hl:l.length≤100)
  (hb:∀(i:Nat) x Xd,Xd.length≤1000->l[i]?=some x->body (Xd,(i:Int))=some (.inl (cond (!(Xd.any λy=>x == y)) (Xd++[x]) Xd,i64.wrap ((i:Int)+1))))
  (he:∀Xd,body (Xd,(l.length:Int))=some (.inr (.inl Xd))) (Xd:List Tx) (hs:Xd.length≤800):zk body (Xd,0)=some (.inl (push Xd l)):=by
 have:=ztT (p:=λ_=>true) hl (λi x s h hx=>by rw [hb i x s h hx];rfl) he l [] Xd rfl (by omega);rw [List.filter_eq_self.2 (λ_ _=>rfl)] at this;exact this
theorem ztm(h:Xe l L)(hm:Xu L m)(n:Tx):EX L m n=some (XN L n):=by
 unfold EX Kf;rw [hm.has]
 cases hn:Xj L n with
 |false =>
  unfold XN Ug;rw [DH hn];rfl
 |true =>
  rw [DG h hm];simp only [Qr,RF,Qa];have h26:=h.len;have hs26:=Z7 h n
  have hl:=ztp (R:=List Tx) (I:=λs=>Inv (List.map (λc:za=>c.Name) L) (Xn L n) s) (nx:=nxI L) (p:=isF L) (body:=λz=>BK L m z.1 z.2.1 z.2.2)
   (λi acc Xd x hI ha hx=>by
    have hsl:=hI.len;simp only [Q4] at hsl;have hxm:Xj L x=true:=KN.2 (hI.mem (λy hy=>zD6 h hy) x (Qc hx));obtain ⟨c,hc⟩:=X0 hxm;have h4:=(h.okc c (XO hc).1).impl;have hilt:=(Qb.1 hx).1
    have hp:∀acc',zef Xd (i:Int) c acc'=some (.inl (acc',push Xd c.Impl,((i+1:Nat):Int))):=λacc'=>by
     unfold zef
     rw [zAX (l:=c.Impl) (by omega) (λj y s hs hy=>by
      show zeg c s (j:Int)=_;unfold zeg zf6;rw [Xk hy,zo,hy];simp only [RT,Qa];rw [zsV hs,XJ (w:=16) (l:=s) (x:=[y]) (by simp;omega) (by simp;omega)]
      cases (s.any λz=>y == z) <;> rfl) (λs=>by
      show zeg c s (c.Impl.length:Int)=_;unfold zeg
      rw [Xm];rfl) Xd (by omega)]
     simp only [Qa,zB];unfold zjM;rw [zz (by omega)]
    show BK L m acc Xd (i:Int)=_;unfold BK;rw [Xk hx,zo,hx];simp only [RT,Qa];rw [Ob hm hxm,hc];simp only [Qa];rw [hp,XJ (w:=16) (l:=acc) (x:=[c.Name]) (by simp;omega) (by simp;omega)];simp only [Qa];rw [hp,zDd hc,(XO hc).2]
    have e:isF L x=c.Interface:=by unfold isF;rw [hc]
    rw [e]
    cases c.Interface <;> rfl)
   (λi acc Xd hI hle=>by
    show BK L m acc Xd (i:Int)=_;unfold BK
    rw [RE (by omega)];rfl)
   (λzam y hI hy=>hI.push (h.nxI_in y)) 100 0 [] (Xn L n) .start (by simp) (zAu h n)
  rw [show zk (λz=>BK L m z.1 z.2.1 z.2.2) ([],Xn L n,0)=_ from hl];simp only [Qa,zB,Yd,Jl];unfold zjN IK;have h1:((bfs (nxI L) 100 0 (Xn L n)).filter (isF L)).length≤52:=QL (JY _ _) (zAw h n);rw [if_pos (by omega)];rfl
theorem zw9(n:Tx):(XN L n).Pairwise (·≤·):=zns _
theorem zw8{n x:Tx}:x∈XN L n↔x∈Ug L n/\isF L x=true:=by
 unfold XN;rw [(W7 _).mem_iff,Jf]
theorem zBO(h:Xe l L)(n:Tx):(Ug L n).Nodup:=zw5 _ _ _ (zx0 h _ n)
theorem zwG{n x:Tx}(hx:x∈Xn L n):x∈Ug L n:=by
 obtain ⟨t,e⟩:=zqY (nx:=nxI L) 100 0 (Xn L n);unfold Ug;rw [e];exact Jb _ hx
theorem zuj(h:Xe l L){n x y:Tx}(hx:x∈Ug L n)(hy:y∈nxI L x):y∈Ug L n:=
 zrN 100 0 _ (zAu h n) (λj x hj=>by omega) x hx y hy
end
theorem zpD{l:List Tx}(hl:l.length≤1000)(n:Tx):DF l n=some (l.any λy=>y == n):=by
 unfold DF
 rw [show zk (λz=>OJ l n z) 0=some (XE () (cond (l.any λy=>y == n) (some true) none)) from by
  rw [<-z7];refine Zk (λi x hx=>?_) ?_
  .show OJ l n (i:Int)=_;have hi:=(Qb.1 hx).1;unfold OJ;rw [Xk hx,zo,hx,zz (by omega)];simp only [RT,Qa];cases x == n <;> rfl
  .show OJ l n (l.length:Int)=_;unfold OJ
   rw [Xm];rfl]
 cases (l.any λy=>y == n) <;> rfl
section
variable {l L : List za}
def Di(L:List za)(n:Tx)(k:Nat):Bool:=match L[k]? with |some c=>(Xn L n).any (λy=>y == c.Name) |none=>false
theorem zys(h:Xe l L){c:za}(hc:c∈L){inn:List Bool}(hi:inn.length=L.length)(more:Bool):
  zk (λz=>Ic L c z.1 z.2.1 z.2.2) (inn,more,0)=some (.inl (mkS L inn c.Impl,more||c.Impl.any (ZM L inn))):=by
 have h26:=h.len;have h4:=(h.okc c hc).impl;refine zrZ (l:=c.Impl) (by omega) (λj s inn more hi hs=>?_) (λinn more=>?_) c.Impl [] inn more rfl hi
 .show Ic L c inn more (j:Int)=_;have hsm:=Qc hs;have hh:Xj L s=true:=h.closed c hc s (Ji _ hsm) ((h.okc c hc).implE s hsm);unfold Ic zhb;rw [Xk hs,zo,hs];simp only [RT,Qa];rw [Zb (by omega)];simp only [Qa];unfold mk1 ZM;obtain ⟨g1,g2⟩:=Wt hh
  have e:idx inn (atN L s)=some (onB inn (atN L s).toNat):=by
   unfold idx onB;rw [if_pos g1,Qj,Qe (by omega)];rfl
  rw [e,hh];simp only [Qa,QC];cases onB inn (atN L s).toNat <;> simp
 .show Ic L c inn more (c.Impl.length:Int)=_;unfold Ic;rw [Xm];rfl
theorem zAW(h:Xe l L)(n:Tx){inn:List Bool}(hi:inn.length=L.length)(more:Bool):
  zk (λz=>Ib L (Xn L n) z.1 z.2.1 z.2.2) (inn,more,0)=some (.inl (ZH L (·.Impl) (Di L n) inn 0 L,more||UN L (·.Impl) (Di L n) inn 0 L)):=by
 have h26:=h.len;have hs26:=Z7 h n;refine ztP (st:=λa b c=>(a,b,c)) (nx:=(·.Impl)) (act:=Di L n) (by omega) (λk c inn more hi hc=>?_) (λinn more=>?_) L [] inn more rfl hi
 .show Ib L (Xn L n) inn more (k:Int)=_;have hk:=(Qb.1 hc).1
  have e:Di L n k=(Xn L n).any (λy=>y == c.Name):=by unfold Di;rw [hc]
  unfold Ib;rw [Xk hc,zz4 (by omega),zo,hc];simp only [RT,Qa];rw [zpD (by omega),zys h (Qc hc) hi,e];unfold zhe zhc;rw [zz (by omega)];cases onB inn k <;> cases ((Xn L n).any (λy=>y == c.Name)) <;> rfl
 .show Ib L (Xn L n) inn more (L.length:Int)=_;unfold Ib;rw [Xm];rfl
def GA(F:List Bool):Nat->List za->List Tx
 |_,[]=>[]
 |k,c ::r=>cond (onB F k) (c.Name ::GA F (k+1) r) (GA F (k+1) r)
theorem zqy{F:List Bool}:∀(r:List za) (k:Nat) (x:Tx),x∈GA F k r↔∃(j:Nat) (c:za),r[j]?=some c/\onB F (k+j)=true/\c.Name=x
 | [],k,x=>by
  constructor
  .intro h;cases h
  .rintro ⟨j,c,h,_⟩;simp at h
 |c ::r,k,x=>by
  have ih:=zqy (F:=F) r (k+1) x
  have back:(∃(j:Nat) (d:za),r[j]?=some d/\onB F (k+1+j)=true/\d.Name=x)↔∃(j:Nat) (d:za),0<j/\(c ::r)[j]?=some d/\onB F (k+j)=true/\d.Name=x:=by
   constructor
   .rintro ⟨j,d,h1,h2,h3⟩;exact ⟨j+1,d,by omega,by simpa using h1,by rw [show k+(j+1)=k+1+j by omega];exact h2,h3⟩
   .rintro ⟨j,d,h0,h1,h2,h3⟩
    cases j with
    |zero=>omega
    |succ j=>exact ⟨j,d,by simpa using h1,by rw [show k+1+j=k+(j+1) by omega];exact h2,h3⟩
  unfold GA
  cases hb:onB F k with
  |true =>
   rw [RT,Qu,ih,back];constructor
   .rintro (e |⟨j,d,_,h1⟩)
    .exact ⟨0,c,rfl,hb,e.symm⟩
    .exact ⟨j,d,h1⟩
   .rintro ⟨j,d,h1,h2,h3⟩
    cases j with
    |zero=>left;have e:c=d:=(by simpa using h1);rw [e];exact h3.symm
    |succ j=>exact .inr ⟨j+1,d,by omega,h1,h2,h3⟩
  |false =>
   rw [RF,ih,back];constructor
   .rintro ⟨j,d,_,h1⟩;exact ⟨j,d,h1⟩
   .rintro ⟨j,d,h1,h2,h3⟩
    cases j with
    |zero=>rw [Jd,hb] at h2;cases h2
    |succ j=>exact ⟨j+1,d,by omega,h1,h2,h3⟩
theorem zri{F:List Bool}:∀(r pre:List za),Nd (pre++r)->(GA F pre.length r).Nodup
 | [],pre,h=>by simp [GA]
 |c ::r,pre,h=>by
  have ih:=zri (F:=F) r (pre++[c]) (by simpa using h);rw [show (pre++[c]).length=pre.length+1 by simp] at ih;unfold GA
  cases onB F pre.length with
  |false=>exact ih
  |true =>
   refine Jk.2 ⟨λhm=>?_,ih⟩;obtain ⟨j,d,h1,_,h3⟩:=(zqy r _ _).1 hm;have:=h pre.length (pre.length+(j+1)) c d (by simp) (by rw [Qs (by omega),show pre.length+(j+1)-pre.length=j+1 by omega];simpa using h1) h3.symm;omega
def B4(acc:List Tx):List Tx->List Tx
 | []=>acc
 |x ::r=>B4 (Kj x acc) r
theorem zue:∀(r acc:List Tx),(B4 acc r).Perm (acc++r)
 | [],acc=>by simp [B4]
 |x ::r,acc=>(zue r (Kj x acc)).trans (by
  refine ((zoJ x acc).append_right r).trans ?_
  exact (List.perm_middle (l₁:=acc) (l₂:=r) (a:=x)).symm)
theorem zrA:∀(r acc:List Tx),acc.Pairwise (·≤·)->(B4 acc r).Pairwise (·≤·)
 | [],acc,h=>h
 |x ::r,acc,h=>zrA r _ (zqo x h)
theorem zFa(x:Tx)(l:List Tx):(Kj x l).length=l.length+1:=by rw [(zoJ x l).length_eq];rfl
theorem zsn{F:List Bool}(hl:L.length≤100)(hF:F.length=L.length):∀(r pre:List za) (acc:List Tx),L=pre++r->acc.length≤pre.length ->
  zk (λz=>H7 L F z.1 z.2) (acc,(pre.length:Int))=some (.inl (B4 acc (GA F pre.length r)))
 | [],pre,acc,e,ha=>by
  rw [Qx] at e;rw [zG];show (H7 L F acc (pre.length:Int)).bind _=_;unfold H7;rw [<-e,Xm];rfl
 |c ::r,pre,acc,e,ha=>by
  have hlen:L.length=pre.length+(r.length+1):=by rw [e];simp
  have hx:L[pre.length]?=some c:=by rw [e];simp
  have ih:=λa ha=>zsn hl hF r (pre++[c]) a (by rw [e];simp) ha;rw [show (pre++[c]).length=pre.length+1 by simp] at ih;rw [zG];show (H7 L F acc (pre.length:Int)).bind _=_;unfold H7;rw [Xk hx,zz4 (by omega),zo,hx];simp only [RT,Qa];rw [zwz (by omega)];unfold zhd GA;rw [zz (by omega)]
  cases onB F pre.length with
  |false =>
   show zk (λz=>H7 L F z.1 z.2) (acc,((pre.length+1:Nat):Int))=_;exact ih acc (by omega)
  |true =>
   show zk (λz=>H7 L F z.1 z.2) (Kj c.Name acc,((pre.length+1:Nat):Int))=_;exact ih _ (by rw [zFa];omega)
theorem zzp(h:Xe l L){s:Tx}(hh:Xj L s=true):∃d,L[(atN L s).toNat]?=some d/\d.Name=s:=by
 obtain ⟨d,hd⟩:=X0 hh;have e:=U6 L s;rw [hd] at e;obtain ⟨g1,g2⟩:=Wt hh;refine ⟨d,?_,(XO hd).2⟩;unfold idx at e;rw [if_pos g1] at e;exact e
theorem zzD(h:Xe l L){n:Tx}(hn:Xj L n=true){inn:List Bool}(hi:inn.length=L.length)
  (h0:∀k,onB inn k=true↔(isF L n=true/\k=(atN L n).toNat)):zgf L n inn=some (XN L n):=by
 have h26:=h.len
 let Q:Nat->Prop:=λk=>∃c,L[k]?=some c/\c.Name∈Ug L n/\c.Interface=true
 have isF_of:∀{k:Nat} {c:za},L[k]?=some c->isF L c.Name=c.Interface:=λ{k c} hk=>by
  unfold isF;rw [h.nd.cl (Qc hk)]
 have hq0:∀k,onB inn k=true->Q k:=λk hk=>by
  obtain ⟨h1,h2⟩:=(h0 k).1 hk;obtain ⟨d,hd,hd2⟩:=zzp h hn;refine ⟨d,by rw [h2];exact hd,by rw [hd2];exact zwG (zD7 hn),?_⟩;rw [<-isF_of hd,hd2];exact h1
 have hQ:∀(j:Nat) c,L[j]?=some c->(Q j∨Di L n j=true)->∀s∈c.Impl,Xj L s=true->Q (atN L s).toNat:=λj c hj hor s hs hh=>by
  have hcT:c.Name∈Ug L n:=by
   rcases hor with ⟨c',hc',hm,_⟩ |ha
   .rw [hj] at hc';cases hc';exact hm
   .unfold Di at ha;rw [hj] at ha;have ha:(Xn L n).any (λy=>y == c.Name)=true:=ha;rw [QB] at ha;obtain ⟨y,hy,e⟩:=ha;rw [<-eq_of_beq e];exact zwG hy
  obtain ⟨d,hd,hd2⟩:=zzp h hh;refine ⟨d,hd,?_,?_⟩
  .rw [hd2];exact zuj h hcT (by rw [zDd (h.nd.cl (Qc hj))];exact hs)
  .rw [<-isF_of hd,hd2];exact h.implF c (Qc hj) s hs
 obtain ⟨F,k1,k2,k3,k4,k5⟩:=zr2 (L:=L) (nx:=(·.Impl)) (act:=Di L n) (R:=List Tx) (st:=λa b=>(a,b)) (body:=λz=>zhf L (Xn L n) z.1 z.2) (Q:=Q)
  (λinn hi=>by
   show zhf L (Xn L n) inn true=_;unfold zhf;rw [zAW h n hi false]
   rfl) (λinn hi=>rfl) hQ L.length inn hi (by omega) hq0
 unfold zgf;rw [HZ h];simp only [Qa];rw [k1];simp only [Qa,zB];unfold zlG;rw [show zk (λz=>H7 L F z.1 z.2) ([],0)=_ from zsn (by omega) k2 L [] [] rfl (by simp)];simp only [Qa,zB];show some (B4 [] (GA F 0 L))=_;congr 1;refine zDU (zrA _ _ (by simp)) (zw9 n) ((zue _ _).trans ?_);rw [Jl];refine (zBp (zri (F:=F) L [] h.nd) ((zBO h n).filter (isF L)) λx=>?_).trans (W7 _).symm;show x∈GA F 0 L↔_;rw [zqy,Jf];constructor
 .rintro ⟨j,c,h1,h2,h3⟩;rw [QP] at h2;obtain ⟨c',hc',hm,hI⟩:=k5 j h2;rw [h1] at hc';cases hc';rw [<-h3];exact ⟨hm,by rw [isF_of h1];exact hI⟩
 .rintro ⟨hx,hxF⟩
  have key:∀y∈Ug L n,y∈Ug L n/\(y∈Xn L n∨onB F (atN L y).toNat=true):=by
   refine ztd (Q:=λy=>y∈Ug L n/\(y∈Xn L n∨onB F (atN L y).toNat=true)) (λy hy z hz=>?_) 100 0 _ (λy hy=>⟨zwG hy,.inl hy⟩);refine ⟨zuj h hy.1 hz,.inr ?_⟩;have hyh:=zwF h hy.1;obtain ⟨d,hd,hd2⟩:=zzp h hyh;have hzh:=zwF h (zuj h hy.1 hz);rw [<-hd2,zDd (h.nd.cl (Qc hd))] at hz;refine k3 _ d hd ?_ z hz hzh;rw [Qt]
   rcases hy.2 with h1 |h1
   .right;unfold Di;rw [hd];show (Xn L n).any (λw=>w == d.Name)=true;rw [hd2,QB];exact ⟨y,h1,beq_self_eq_true _⟩
   .exact .inl h1
  have hxh:=zwF h hx;obtain ⟨d,hd,hd2⟩:=zzp h hxh;refine ⟨(atN L x).toNat,d,hd,?_,hd2⟩;rw [QP]
  rcases (key x hx).2 with h1 |h1
  .rcases (Kb h _ n x h1).2.2 with e |⟨c,hc,e⟩
   .subst e;exact k4 _ ((h0 _).2 ⟨hxF,rfl⟩)
   .rw [e,h.superF c hc] at hxF;cases hxF
  .exact h1
theorem zpb(h:Xe l L)(n:Tx):Em L n=some (XN L n):=by
 have h26:=h.len;unfold Em;rw [show mkP 1 (L.length:Int)=some L.length by unfold mkP;rw [if_pos (by omega),Jq],Zb (by omega)];simp only [Qa];rw [Gz]
 have hrep:(List.replicate L.length false).length=L.length:=by simp
 have hoff:∀n,onB (List.replicate L.length false) n=false:=λn=>by
  unfold onB;rw [Qj,JQ];split <;> rfl
 cases hn:Xj L n with
 |false =>
  unfold XN Ug;rw [DH hn];rfl
 |true =>
  obtain ⟨c,hc⟩:=X0 hn;obtain ⟨g1,g2⟩:=Wt hn
  have eF:isF L n=c.Interface:=by unfold isF;rw [hc]
  rw [GB hc];simp only [Qr,RF,Qa]
  cases hI:c.Interface with
  |false =>
   simp only [RF];refine zzD h hn hrep λk=>?_;rw [hoff,eF,hI];simp
  |true =>
   have e:idx (List.replicate L.length false) (atN L n)=some false:=by
    unfold idx;rw [if_pos g1,JQ,if_pos g2]
   rw [e];simp only [RT,Qa];refine zzD h hn (by simp) λk=>?_;rw [zGA (by rw [hrep];exact g2),hoff,QU,eF,hI,Nat.beq_eq];simp
end
def brk:Tx->Bool
 | []=>false
 |x :: _=>x == 91
def ess(s:Tx):Tx:=XT (XT s)
theorem Oo{s:Tx}(h:brk s=false):XT s=s:=by
 cases s with
 |nil=>rfl
 |cons x r =>
  rw [HQ,if_neg];intro e;subst e;cases h
theorem Ha{s:Tx}(h:brk s=true):XT s=s.drop 1/\s=91 ::s.drop 1:=by
 cases s with
 |nil=>cases h
 |cons x r =>
  have:x=91:=by simpa [brk] using h
  subst this;exact ⟨rfl,rfl⟩
theorem WX{s:Tx}(h:XF s=true):brk s=false:=by
 cases s with
 |nil=>rfl
 |cons x r =>
  cases hb:(x == 91) with
  |false=>exact hb
  |true =>
   have:x=91:=by simpa using hb
   subst this;unfold XF at h;rw [Qd] at h;have h2:Ky 91=true:=h.2;exact absurd h2 (by decide +kernel)
theorem zER{s:Tx}(h:XF s=true):(s == [73])=false:=by
 cases hb:(s == [73]) with
 |false=>rfl
 |true =>
  have:s=[73]:=by simpa using hb
  subst this;unfold XF at h;simp at h
theorem WW{s:Tx}(h:XF s=true):Xq s=true:=by
 unfold Xq;rw [Oo (WX h),Oo (WX h),h,Jr]
theorem zHj{s:Tx}(h:Xq s=true):brk (ess s)=false:=by
 unfold Xq at h;rw [Qt] at h
 rcases h with h |h
 .unfold ess;rw [eq_of_beq h];rfl
 .exact WX h
theorem zre{s:Tx}(h:Xq s=true)(hb:brk s=true):Xq (s.drop 1)=true/\ess (s.drop 1)=ess s:=by
 obtain ⟨h1,h2⟩:=Ha hb;have h3:=zHj h
 have e:XT (XT (s.drop 1))=XT (XT s):=by
  rw [h1];exact Oo (show brk (XT (s.drop 1))=false from by rw [<-h1];exact h3)
 exact ⟨by unfold Xq at h ⊢;rw [e];exact h,e⟩
theorem Og{s:Tx}(hb:brk s=false):ess s=s:=by unfold ess;rw [Oo hb,Oo hb]
theorem zCO:giv.all (λc=>XF c.Name)=true:=by decide +kernel
def zAr(L:List za)(t:Tx):Bool:=(ess t == [73])||Xj L (ess t)
def thN(L:List za)(t:Tx):Bool:=Xq t&&zAr L t
section
variable {l L : List za} {m : List (Tx × Int)}
theorem W2(h:Xe l L){n:Tx}(hn:Xj L n=true):XF n=true:=by
 obtain ⟨c,hc⟩:=X0 hn;obtain ⟨h1,h2⟩:=XO hc;rw [<-h2];rw [h.app] at h1
 rcases Qm.1 h1 with e |e
 .exact Qp.1 zCO c e
 .have:=h.may c e;unfold ZN at this;simp only [Qd] at this;exact this.2.1.1.1.1
def XH(s:Tx):Tx×Bool:=cond (Xq s&&brk s) (s.drop 1,true) ([],false)
theorem DQ{s:Tx}(h:Len s):Ge s=some (XH s):=by
 unfold Ge XH;rw [W6 h]
 cases hm:Xq s with
 |false=>rfl
 |true =>
  cases s with
  |nil =>
   exfalso;unfold Xq at hm;rw [show XT (XT [])=[] from rfl] at hm;simp at hm;exact OA hm rfl
  |cons x r =>
   simp only [Qa,Qr,RF,QC];rw [Hd]
   have e:((x.toNat:Int) == (91:Int))=(x == 91):=by
    rw [QK,beq_iff_eq,beq_iff_eq];constructor
    .intro h;exact JO.1 (by simpa using (Yq.1 h))
    .intro h;rw [h];rfl
   simp only [Q1,Qa,e];rw [show (1:Int)=((1:Nat):Int) from rfl,GI (by simp)];show cond (!(x == 91)) _ _=some (cond (x == 91) _ _);cases x == 91 <;> rfl
theorem zvo{s:Tx}:∀(d:Nat) (t:Tx),t.length≤d->Len t->zk (λz=>zei z.1 z.2.1 z.2.2) (t,(XH t).1,(XH t).2)=some (.inl (cond (Xq t) (ess t) t))
 |d,t,hd,hl=>by
  rw [zG];show (zei t (XH t).1 (XH t).2).bind _=_;unfold zei
  cases hm:Xq t with
  |false =>
   have:XH t=([],false):=by unfold XH;rw [hm];rfl
   rw [this];rfl
  |true =>
   cases hb:brk t with
   |false =>
    have:XH t=([],false):=by unfold XH;rw [hm,hb];rfl
    rw [this,Og hb];rfl
   |true =>
    have:XH t=(t.drop 1,true):=by unfold XH;rw [hm,hb];rfl
    obtain ⟨k1,k2⟩:=zre hm hb
    have hlen:(t.drop 1).length=t.length-1:=by simp
    have hpos:0<t.length:=by rw [(Ha hb).2];simp
    have hl2:Len (t.drop 1):=by unfold Len at *;omega
    rw [this];show ((Ge (t.drop 1)).bind _).bind _=_;rw [DQ hl2];show zk (λz=>zei z.1 z.2.1 z.2.2) (t.drop 1,(XH (t.drop 1)).1,(XH (t.drop 1)).2)=_
    cases d with
    |zero=>omega
    |succ d =>
     rw [zvo (s:=s) d (t.drop 1) (by omega) hl2,k1,k2];rfl
theorem zAs(h:Xe l L)(hm:Xu L m){t:Tx}(hl:Len t):zf8 L m t=some (thN L t):=by
 unfold zf8;rw [DQ hl];simp only [Qa];rw [zvo (s:=t) t.length t (Qg _) hl];simp only [Qa,zB];unfold zkz Kf;rw [hm.has];unfold thN zAr
 cases hmay:Xq t with
 |true=>rfl
 |false =>
  simp only [RF,Jj];congr 1;rw [Qn];constructor
  .cases hI:(t == [73]) with
   |false=>rfl
   |true =>
    have:t=[73]:=by simpa using hI
    rw [this] at hmay;exact absurd hmay (by decide +kernel)
  .cases hh:Xj L t with
   |false=>rfl
   |true=>rw [WW (W2 h hh)] at hmay;cases hmay
theorem zw4:∀(t:Tx) (k:Nat),t.length+k≤1000->zk (λz=>OO z.1 z.2) (t,(k:Int))=some (.inl (t.dropWhile (· == 91),((k+(t.takeWhile (· == 91)).length:Nat):Int)))
 | [],k,hk=>by
  rw [zG];rfl
 |x ::r,k,hk=>by
  simp only [Qv] at hk;rw [zG];show (OO (x ::r) (k:Int)).bind _=_;unfold OO
  have e:((x.toNat:Int) == (91:Int))=(x == 91):=by
   rw [QK,beq_iff_eq,beq_iff_eq];constructor
   .intro h;exact JO.1 (by simpa using (Yq.1 h))
   .intro h;rw [h];rfl
  rw [RD (show (0:Int)<((x ::r).length:Int) by simp only [Qv];omega),Hd];simp only [RT,Q1,Qa,e];rw [show (1:Int)=((1:Nat):Int) from rfl,GI (by simp),Jt,Jn]
  cases hx:(x == 91) with
  |false=>simp
  |true =>
   simp only [RT,Qa,if_true,List.drop_one,List.tail_cons];rw [show ((1:Nat):Int)=1 from rfl,zz (by omega)];show zk (λz=>OO z.1 z.2) (r,((k+1:Nat):Int))=_;rw [zw4 r (k+1) (by omega)];simp only [Qv];congr 3;omega
theorem zG6{t:Tx}(h:t.length≤900):WV t=some (t.dropWhile (· == 91),((t.takeWhile (· == 91)).length:Int)):=by
 unfold WV;rw [show zk (λz=>OO z.1 z.2) (t,0)=_ from zw4 t 0 (by omega)];simp only [Qa,zB,QP];rfl
theorem zzz{t:Tx}(h:brk t=false):t.dropWhile (· == 91)=t/\t.takeWhile (· == 91)=[]:=by
 cases t with
 |nil=>exact ⟨rfl,rfl⟩
 |cons x r =>
  have:(x == 91)=false:=h;simp [Jt,Jn,this]
theorem zzx{t:Tx}(h:brk t=true):t.dropWhile (· == 91)=(t.drop 1).dropWhile (· == 91)/\(t.takeWhile (· == 91)).length=((t.drop 1).takeWhile (· == 91)).length+1:=by
 cases t with
 |nil=>cases h
 |cons x r =>
  have:(x == 91)=true:=h;simp [Jt,Jn,this]
theorem zzy:∀(d:Nat) (t:Tx),t.length≤d->Xq t=true->t.dropWhile (· == 91)=ess t
 |d,t,hd,hm=>by
  cases hb:brk t with
  |false=>rw [(zzz hb).1,Og hb]
  |true =>
   obtain ⟨k1,k2⟩:=zre hm hb
   have hlen:(t.drop 1).length=t.length-1:=by simp
   have hpos:0<t.length:=by rw [(Ha hb).2];simp
   cases d with
   |zero=>omega
   |succ d=>rw [(zzx hb).1,zzy d (t.drop 1) (by omega) k1,k2]
theorem zvz{t:Tx}(h:t.length≤900)(hm:Xq t=true):∃k:Nat,WV t=some (ess t,(k:Int))/\(((k:Int) == 0)=!brk t):=by
 refine ⟨_,by rw [zG6 h,zzy _ t (Qg _) hm],?_⟩
 cases hb:brk t with
 |false=>rw [(zzz hb).2];rfl
 |true=>rw [(zzx hb).2];exact RB.2 (by omega)
theorem Kz(h:Xe l L){t:Tx}(hl:t.length≤900):zP L t=some (thN L t):=by
 have h26:=h.len;unfold zP;rw [HS (by unfold Len;omega)];unfold thN
 cases hm:Xq t with
 |false=>rfl
 |true =>
  obtain ⟨k,hk,_⟩:=zvz hl hm;rw [hk];simp only [Qa,Qr,RF];rw [Zb (by omega)];simp only [Qa];rw [Dw];unfold zAr;cases (ess t == [73]) <;> rfl
end
def UV(L:List za):Tx->Tx->Bool
 | [],b=>thN L []&&(thN L b&&(([]:Tx) == b))
 |x ::r,b=>thN L (x ::r)&&(thN L b&&(((x ::r) == b)||cond (x == 91) (cond (brk b) ((!(r == [73]))&&((!(b.drop 1 == [73]))&&UV L r (b.drop 1))) (b == KF)) ((Xn L (x ::r)).any (λy=>b == y)||(XN L (x ::r)).any (λy=>b == y))))
theorem zzc(L:List za)(a b:Tx):UV L a b=(thN L a&&(thN L b&&((a == b)||cond (brk a) (cond (brk b) ((!(a.drop 1 == [73]))&&((!(b.drop 1 == [73]))&&UV L (a.drop 1) (b.drop 1))) (b == KF)) ((Xn L a).any (λy=>b == y)||(XN L a).any (λy=>b == y))))):=by
 cases a with
 |nil =>
  have:thN L []=false:=by
   unfold thN
   have:Xq []=false:=by
    cases h:Xq [] with
    |false=>rfl
    |true =>
     unfold Xq at h;rw [show XT (XT [])=[] from rfl] at h;simp at h;exact absurd rfl (OA h)
   rw [this];rfl
  rw [this];show (thN L []&&_)=_;rw [this];rfl
 |cons x r=>rfl
section
variable {l L : List za} {m : List (Tx × Int)}
theorem ztk{l:List Tx}(hl:l.length≤1000)(n:Tx):zI l n=some (l.any λy=>n == y):=zsV hl n
theorem Ox(h:Xe l L)(n:Tx):(XN L n).length≤52:=by
 unfold XN;rw [(W7 _).length_eq];exact QL (JY _ _) (zAw h n)
theorem zEe{t:Tx}(h:thN L t=true):Xq t=true:=by
 unfold thN at h;rw [Qd] at h;exact h.1
theorem zCx{t:Tx}(h:thN L t=true):XH t=cond (brk t) (t.drop 1,true) ([],false):=by
 unfold XH;rw [zEe h,QC]
theorem zF2(h:Xe l L)(hm:Xu L m){v0:(List za)×(List (Tx×Int))×Tx×Tx->Option Bool}{a b:Tx}(ha:Len a)(hb:Len b)
  (hv:brk a=true->brk b=true->v0 (L,m,a.drop 1,b.drop 1)=some (UV L (a.drop 1) (b.drop 1))):Wa v0 L m a b=some (UV L a b):=by
 have h1:=Z7 h a;have h2:=Ox h a;unfold Wa;rw [zAs h hm ha,zAs h hm hb,zzc]
 cases ta:thN L a with
 |false=>rfl
 |true =>
  cases tb:thN L b with
  |false=>rfl
  |true =>
   simp only [Qa,Qr,RF,QC];rw [DQ ha,DQ hb,zCx ta,zCx tb];simp only [Qa]
   cases hab:(a == b) with
   |true=>rfl
   |false =>
    cases ba:brk a with
    |true =>
     cases bb:brk b with
     |true =>
      simp only [RT,RF,JM,QU];rw [hv ba bb];cases (a.drop 1 == [73]) <;> cases (b.drop 1 == [73]) <;> rfl
     |false=>rfl
    |false =>
     simp only [RT,RF,Jj,QU];rw [DG h hm,ztm h hm];simp only [Qa];rw [ztk (by omega),ztk (by omega)];simp only [Qa];cases ((Xn L a).any λy=>b == y) <;> rfl
theorem zGI(h:Xe l L)(hm:Xu L m):∀(d k:Nat) (a b:Tx),a.length≤d->d<k->Len a->Len b->Dg (λv0 z=>Wa v0 z.1 z.2.1 z.2.2.1 z.2.2.2) k (L,m,a,b)=some (UV L a b)
 |d,0,a,b,hd,hk,ha,hb=>by omega
 |d,k+1,a,b,hd,hk,ha,hb=>by
  show Wa (Dg (λv0 z=>Wa v0 z.1 z.2.1 z.2.2.1 z.2.2.2) k) L m a b=_;refine zF2 h hm ha hb λb1 b2=>?_
  have hlen:(a.drop 1).length=a.length-1:=by simp
  have hlen2:(b.drop 1).length=b.length-1:=by simp
  have hpos:0<a.length:=by rw [(Ha b1).2];simp
  cases d with
  |zero=>omega
  |succ d=>exact zGI h hm d k _ _ (by omega) (by omega) (by unfold Len at *;omega) (by unfold Len at *;omega)
theorem Oe(h:Xe l L)(hm:Xu L m){a b:Tx}(ha:a.length≤25)(hb:Len b):H2 L m a b=some (UV L a b):=by
 unfold H2 BT;rw [zGI h hm 25 30 a b ha (by omega) (by unfold Len;omega) hb]
theorem zzk(l:List Tx)(n:Tx):(l.any λy=>y == n)=l.any λy=>n == y:=by
 congr 1;funext y;exact zIr _ _
theorem zqV{T:List Tx}(h:Xe l L)(hT:∀x∈T,Xj L x=true){b:Tx}(hb:XF b=false):(T.any λy=>b == y)=false:=by
 rw [Qw];intro y hy e;have:=W2 h (hT y hy);rw [<-eq_of_beq e,hb] at this;cases this
theorem Oy(h:Xe l L){n x:Tx}(hx:x∈XN L n):Xj L x=true:=zwF h (zw8.1 hx).1
theorem zyr{n:Tx}(hn:Xj L n=false):XN L n=[]:=by
 unfold XN Ug;rw [DH hn];rfl
theorem zpQ{b:Tx}(hb:brk b=true):XF b=false:=by
 cases h:XF b with
 |false=>rfl
 |true=>rw [WX h] at hb;cases hb
theorem zqf:XF [73]=false:=by
 cases h:XF [73] with
 |false=>rfl
 |true=>exact absurd (zER h) (by simp)
theorem zBA(h:Xe l L){v0:(List za)×Tx×Tx->Option Bool}{a b:Tx}(ha:a.length≤800)(hb:b.length≤800)
  (hv:brk a=true->brk b=true->v0 (L,a.drop 1,b.drop 1)=some (UV L (a.drop 1) (b.drop 1))):D7 v0 L a b=some (UV L a b):=by
 unfold D7;rw [Kz h (by omega),Kz h (by omega),zzc]
 cases ta:thN L a with
 |false=>rfl
 |true =>
  cases tb:thN L b with
  |false=>rfl
  |true =>
   simp only [Qa,Qr,RF,QC];obtain ⟨k1,e1,f1⟩:=zvz (t:=a) (by omega) (zEe ta);obtain ⟨k2,e2,f2⟩:=zvz (t:=b) (by omega) (zEe tb);rw [e1,e2];simp only [Qa]
   cases hab:(a == b) with
   |true=>rfl
   |false =>
    rw [f1,f2];simp only [RF,QU]
    cases ba:brk a with
    |true =>
     cases bb:brk b with
     |true =>
      simp only [RT,RF,Qr,JM,Jj];rw [show (1:Int)=((1:Nat):Int) from rfl,GI (by rw [(Ha ba).2];simp),GI (by rw [(Ha bb).2];simp)];simp only [Qa];rw [hv ba bb];cases (a.drop 1 == [73]) <;> cases (b.drop 1 == [73]) <;> rfl
     |false =>
      simp only [RT,RF,Qr,QH,Jj];rw [Og bb];rfl
    |false =>
     cases bb:brk b with
     |true =>
      simp only [RT,RF,Qr,QH,Q9];rw [zqV (T:=Xn L a) h (λx hx=>(Kb h _ a x hx).1) (zpQ bb),zqV (T:=XN L a) h (λx hx=>Oy h hx) (zpQ bb)];rfl
     |false =>
      simp only [RT,RF,QH,JM];rw [Og ba,Og bb];have h1:=Z7 h a;have h2:=Ox h a
      cases hI:(a == [73]) with
      |true =>
       have e:a=[73]:=by simpa using hI
       have hn:Xj L a=false:=by
        cases hh:Xj L a with
        |false=>rfl
        |true=>have:=W2 h hh;rw [e,zqf] at this;cases this
       rw [DH hn,zyr hn];rfl
      |false =>
       cases hI2:(b == [73]) with
       |true =>
        have e:b=[73]:=by simpa using hI2
        have hc:XF b=false:=by rw [e];exact zqf
        rw [zqV (T:=Xn L a) h (λx hx=>(Kb h _ a x hx).1) hc,zqV (T:=XN L a) h (λx hx=>Oy h hx) hc];rfl
       |false =>
        simp only [QH,JM,RT];rw [HZ h,zpb h];simp only [Qa];rw [zpD (by omega),zpD (by omega),zzk,zzk];simp only [Qa];cases ((Xn L a).any λy=>b == y) <;> rfl
theorem zAf(h:Xe l L):∀(d k:Nat) (a b:Tx),a.length≤d->d<k->a.length≤800->b.length≤800->Dg (λv0 z=>D7 v0 z.1 z.2.1 z.2.2) k (L,a,b)=some (UV L a b)
 |d,0,a,b,hd,hk,ha,hb=>by omega
 |d,k+1,a,b,hd,hk,ha,hb=>by
  show D7 (Dg (λv0 z=>D7 v0 z.1 z.2.1 z.2.2) k) L a b=_;refine zBA h ha hb λb1 b2=>?_
  have hlen:(a.drop 1).length=a.length-1:=by simp
  have hlen2:(b.drop 1).length=b.length-1:=by simp
  have hpos:0<a.length:=by rw [(Ha b1).2];simp
  cases d with
  |zero=>omega
  |succ d=>exact zAf h d k _ _ (by omega) (by omega) (by omega) (by omega)
theorem zvi(h:Xe l L){a b:Tx}(ha:a.length≤25)(hb:b.length≤800):zht L a b=some (UV L a b):=by
 unfold zht BT;rw [zAf h 25 30 a b ha (by omega) (by omega) hb]
end
abbrev I64(n:Int):Prop:=-9223372036854775808≤n/\n≤9223372036854775807
abbrev FS(s:List UInt8):Prop:=s.length≤10000
structure FL{α:Type}(Q:α->Prop)(l:List α):Prop where
 len:l.length≤10000
 all:∀x∈l,Q x
structure zIi(f:zg):Prop where
 name:FS f.Name
 type:FS f.Type_
structure zJ9(x:zs):Prop where
 op:I64 x.Op
 a:I64 x.A
 c:FS x.C
 m:FS x.M
structure zKa(x:zV):Prop where
 pl:I64 x.At
 locals:FL FS x.Locals
 stack:FL FS x.Stack
structure zJq(x:zU):Prop where
 lo:I64 x.From
 hi:I64 x.To
 pl:I64 x.At
 c:FS x.C
structure zGP(m:zb):Prop where
 name:FS m.Name
 params:FL FS m.Params
 ret:FS m.Ret
 locals:I64 m.Locals
 stack:I64 m.Stack
 code:FL zJ9 m.Code
 maps:FL zKa m.Maps
 traps:FL zJq m.Traps
structure X8(c:za):Prop where
 name:FS c.Name
 super:FS c.Super
 impl:FL FS c.Impl
 fields:FL zIi c.Fields
 methods:FL zGP c.Methods
theorem FL.le{α:Type}{Q:α->Prop}{l:List α}(h:FL Q l):XG l:=by have:=h.len;unfold XG;omega
theorem FS.le{s:List UInt8}(h:FS s):Len s:=by unfold FS at h;unfold Len;omega
theorem X8.cg{c:za}(h:X8 c):Wq c where
 name:=h.name.le
 super:=h.super.le
 impl:=⟨h.impl.le,λs hs=>(h.impl.all s hs).le⟩
 fields:=⟨h.fields.le,λf hf=>⟨(h.fields.all f hf).name.le,(h.fields.all f hf).type.le⟩⟩
 methods:=⟨h.methods.le,λm hm=>by
  have g:=h.methods.all m hm;have g1:=g.params.len;have g2:=g.code.len;have g3:=g.maps.len;have g4:=g.traps.len
  exact ⟨g.name.le,⟨by omega,λs hs=>(g.params.all s hs).le⟩,g.ret.le,
   ⟨g.maps.le,g.code.le,λx hx=>⟨⟨(g.maps.all x hx).locals.le,λs hs=>((g.maps.all x hx).locals.all s hs).le⟩,(g.maps.all x hx).stack.le,λs hs=>((g.maps.all x hx).stack.all s hs).le⟩⟩,
   ⟨⟨g.code.le,λx hx=>⟨(g.code.all x hx).c.le,(g.code.all x hx).m.le⟩⟩,⟨g.traps.le,λx hx=>(g.traps.all x hx).c.le⟩⟩,⟨by omega,by omega,by omega⟩⟩⟩
def zJU(x y:List UInt8):Bool:=x == y
theorem Oh{α:Type}{e:α->α->Bool}(h:∀x y,e x y=true↔x=y):∀{a b:List α},eqL e a b=true↔a=b
 | [],[]=>by simp [eqL]
 | [],y ::b=>by simp [eqL]
 |x ::a,[]=>by simp [eqL]
 |x ::a,y ::b=>by
  unfold eqL;rw [Qd,h,Oh h,List.cons.injEq]
theorem zqX(x y:List UInt8):zJU x y=true↔x=y:=beq_iff_eq
theorem zia{a b:List (List UInt8)}(hl:XG a):KA a b=some (eqL zJU a b):=by
 unfold KA;refine zAU hl (λi x y hx hy=>?_) ?_
 .show DZ a b (i:Int)=_;unfold DZ;rw [Xk hx,zo,zo,hx,hy];rfl
 .show DZ a b (a.length:Int)=_;unfold DZ;rw [Xm];rfl
theorem KB{s:List UInt8}{n:Nat}:Zv s (n:Int)=some (s.take n):=by
 unfold Zv;by_cases h:n<s.length
 .rw [RD (show (n:Int)<(s.length:Int) by omega),Oi (by omega)];rfl
 .rw [RE (show ¬(n:Int)<(s.length:Int) by omega),Jy (by omega)];rfl
theorem WU{α β R:Type}{body:List β×Int->Option (Sum (List β×Int) (Sum (List β) R))}{l:List α}{n:Nat}{f:α->β}(hn:n≤1000)
  (hb:∀acc (i:Nat) x,l[i]?=some x->i<n->acc.length=i->body (acc,(i:Int))=some (.inl (acc++[f x],i64.wrap ((i:Int)+1))))
  (he:∀acc (i:Nat),(decide ((i:Int)<(l.length:Int))&&decide ((i:Int)<(n:Int)))=false->body (acc,(i:Int))=some (.inr (.inl acc))):zk body ([],0)=some (.inl ((l.take n).map f)):=by
 have key:∀d i,(l.take n).length-i=d->i≤(l.take n).length->zk body (((l.take n).take i).map f,(i:Int))=some (.inl ((l.take n).map f)):=by
  intro d
  induction d with
  |zero =>
   intro i hd hi
   have e:i=(l.take n).length:=by omega
   rw [zG,he _ i (by
    rw [QI] at e;rw [JB]
    rcases Nat.le_total n l.length with h |h
    .exact .inr (RE (by omega))
    .exact .inl (RE (by omega))),e,J4]
   rfl
  |succ d ih =>
   intro i hd hi
   have hlt:i<(l.take n).length:=by omega
   have h2:i<n/\i<l.length:=by rw [QI] at hlt;omega
   have hx:l[i]?=some l[i]:=Qe h2.2;rw [zG,hb _ i l[i] hx h2.1 (by rw [Q4,QI];omega),zz (by omega)];have:=ih (i+1) (by omega) (by omega);rw [JU,JK h2.1,hx] at this;simp only [Option.toList_some,JN,Yl,List.map_nil] at this;exact this
 exact key _ 0 rfl (Qo _)
theorem more{α:Type}{l:List α}{n i:Nat}{x:α}(h:l[i]?=some x)(hi:i<n):(decide ((i:Int)<(l.length:Int))&&decide ((i:Int)<(n:Int)))=true:=by
 rw [Xk h,RD (by omega)];rfl
def zJV(f:zg):zg:=zg.mk (f.Name.take 10) (f.Type_.take 12) f.Static
def zJy(x:zs):zs:=zs.mk x.Op x.A (x.C.take 14) (x.M.take 12)
def Wl(n:Nat)(l:List (List UInt8)):List (List UInt8):=(l.take n).map (·.take 12)
def zGk(x:zV):zV:=zV.mk x.At (Wl 20 x.Locals) (Wl 20 x.Stack)
def zJW(x:zU):zU:=zU.mk x.From x.To x.At (x.C.take 10)
def zJb(m:zb):zb:=zb.mk (m.Name.take 10) (Wl 8 m.Params) (m.Ret.take 12) m.Static m.Abstract m.Locals m.Stack ((m.Code.take 104).map zJy) ((m.Maps.take 104).map zGk) ((m.Traps.take 8).map zJW)
def Wm(c:za):za:=za.mk (c.Name.take 10) (c.Super.take 10) c.Interface (Wl 6 c.Impl) ((c.Fields.take 10).map zJV) ((c.Methods.take 10).map zJb)
theorem zk7{l:List (List UInt8)}{n:Nat}(hn:n≤100):Gf l (n:Int)=some (Wl n l):=by
 unfold Gf
 rw [show zk (λz=>Ec l (n:Int) z.1 z.2) ([],0)=some (.inl (Wl n l)) from WU (by omega) (λacc i x hx hi ha=>by
  show Ec l (n:Int) acc (i:Int)=_;unfold Ec;rw [more hx hi,zo,hx];simp only [Qa,RT]
  rw [show Zv x 12=_ from KB (n:=12),Qa,XJ (by simp;omega) (by simp;omega)];rfl) (λacc i h=>by
  show Ec l (n:Int) acc (i:Int)=_;unfold Ec
  rw [h];rfl)]
 rfl
theorem zyC(x:zs):zsX x=some (zJy x):=by
 unfold zsX;rw [show Zv x.C 14=_ from KB (n:=14),show Zv x.M 12=_ from KB (n:=12)];rfl
theorem zuA(m:zb):znw m=some (zJb m):=by
 unfold znw;rw [show Zv m.Name 10=_ from KB (n:=10),show Zv m.Ret 12=_ from KB (n:=12),show Gf m.Params 8=_ from zk7 (n:=8) (by decide)];simp only [Qa]
 rw [show zk (λz=>Ek m z.1 z.2) ([],0)=some (.inl ((m.Code.take 104).map zJy)) from WU (by decide) (λacc i x hx hi ha=>by
  show Ek m acc (i:Int)=_;unfold Ek;rw [show (decide ((i:Int)<(m.Code.length:Int))&&decide ((i:Int)<104))=true from more hx hi,zo,hx];simp only [Qa,RT]
  rw [zyC,Qa,XJ (by simp;omega) (by simp;omega)];rfl) (λacc i h=>by
  show Ek m acc (i:Int)=_;unfold Ek
  rw [show (decide ((i:Int)<(m.Code.length:Int))&&decide ((i:Int)<104))=false from h];rfl)]
 simp only [Qa];show zmy m _ _ _ _=_;unfold zmy
 rw [show zk (λz=>Ej m z.1 z.2) ([],0)=some (.inl ((m.Maps.take 104).map zGk)) from WU (by decide) (λacc i x hx hi ha=>by
  show Ej m acc (i:Int)=_;unfold Ej;rw [show (decide ((i:Int)<(m.Maps.length:Int))&&decide ((i:Int)<104))=true from more hx hi,zo,hx];simp only [Qa,RT];rw [show Gf x.Locals 20=_ from zk7 (n:=20) (by decide),show Gf x.Stack 20=_ from zk7 (n:=20) (by decide)];simp only [Qa]
  rw [XJ (by simp;omega) (by simp;omega)];rfl) (λacc i h=>by
  show Ej m acc (i:Int)=_;unfold Ej
  rw [show (decide ((i:Int)<(m.Maps.length:Int))&&decide ((i:Int)<104))=false from h];rfl)]
 simp only [Qa];show zmz m _ _ _ _ _=_;unfold zmz
 rw [show zk (λz=>Ei m z.1 z.2) ([],0)=some (.inl ((m.Traps.take 8).map zJW)) from WU (by decide) (λacc i x hx hi ha=>by
  show Ei m acc (i:Int)=_;unfold Ei;rw [show (decide ((i:Int)<(m.Traps.length:Int))&&decide ((i:Int)<8))=true from more hx hi,zo,hx];simp only [Qa,RT]
  rw [show Zv x.C 10=_ from KB (n:=10),Qa,XJ (by simp;omega) (by simp;omega)];rfl) (λacc i h=>by
  show Ei m acc (i:Int)=_;unfold Ei
  rw [show (decide ((i:Int)<(m.Traps.length:Int))&&decide ((i:Int)<8))=false from h];rfl)]
 rfl
theorem zyG(c:za):zsZ c=some ((Wm c).Name,(Wm c).Super,(Wm c).Impl,(Wm c).Fields,(Wm c).Methods):=by
 unfold zsZ;rw [show Zv c.Name 10=_ from KB (n:=10),show Zv c.Super 10=_ from KB (n:=10),show Gf c.Impl 6=_ from zk7 (n:=6) (by decide)];simp only [Qa]
 rw [show zk (λz=>OZ c z.1 z.2) ([],0)=some (.inl ((c.Fields.take 10).map zJV)) from WU (by decide) (λacc i x hx hi ha=>by
  show OZ c acc (i:Int)=_;unfold OZ;rw [show (decide ((i:Int)<(c.Fields.length:Int))&&decide ((i:Int)<10))=true from more hx hi,zo,hx];simp only [Qa,RT];rw [show Zv x.Name 10=_ from KB (n:=10),show Zv x.Type_ 12=_ from KB (n:=12)];simp only [Qa]
  rw [XJ (by simp;omega) (by simp;omega)];rfl) (λacc i h=>by
  show OZ c acc (i:Int)=_;unfold OZ
  rw [show (decide ((i:Int)<(c.Fields.length:Int))&&decide ((i:Int)<10))=false from h];rfl)]
 simp only [Qa];show zqv c _ _ _ _=_;unfold zqv
 rw [show zk (λz=>OY c z.1 z.2) ([],0)=some (.inl ((c.Methods.take 10).map zJb)) from WU (by decide) (λacc i x hx hi ha=>by
  show OY c acc (i:Int)=_;unfold OY;rw [show (decide ((i:Int)<(c.Methods.length:Int))&&decide ((i:Int)<10))=true from more hx hi,zo,hx];simp only [Qa,RT]
  rw [zuA,Qa,XJ (by simp;omega) (by simp;omega)];rfl) (λacc i h=>by
  show OY c acc (i:Int)=_;unfold OY
  rw [show (decide ((i:Int)<(c.Methods.length:Int))&&decide ((i:Int)<10))=false from h];rfl)]
 rfl
theorem Do{n:Int}(h:wI .i64 n):I64 n:=by
 have h:(Lit.int .i64 n).wf=true:=h;unfold Lit.wf at h;simp [IntKind.min,IntKind.max,IntKind.bits,IntKind.signed] at h;exact ⟨by omega,by omega⟩
theorem FS.take(s:List UInt8){n:Nat}(hn:n≤100):FS (s.take n):=by unfold FS;rw [QI];omega
theorem zvH{l:List (List UInt8)}{n:Nat}(hn:n≤100):FL FS (Wl n l):=by
 refine ⟨by unfold Wl;rw [Q4,QI];omega,λx hx=>?_⟩;obtain ⟨y,_,rfl⟩:=QW.1 hx;exact FS.take y (by decide)
theorem I1{α:Type}{Q:α->Prop}{l:List α}{f:α->α}{n:Nat}(hn:n≤200)(h:∀x∈l,Q (f x)):FL Q ((l.take n).map f):=by
 refine ⟨by rw [Q4,QI];omega,λx hx=>?_⟩;obtain ⟨y,hy,rfl⟩:=QW.1 hx;exact h y (J6 hy)
theorem zHf{m:zb}(h:zsh m):zGP (zJb m):=by
 obtain ⟨_,_,_,_,_,h1,h2,h3,h4,h5⟩:=h
 exact ⟨FS.take _ (by decide),zvH (by decide),FS.take _ (by decide),Do h1,Do h2,
  I1 (by decide) λx hx=>⟨Do (h3.2 x hx).1,Do (h3.2 x hx).2.1,FS.take _ (by decide),FS.take _ (by decide)⟩,
  I1 (by decide) λx hx=>⟨Do (h4.2 x hx).1,zvH (by decide),zvH (by decide)⟩,
  I1 (by decide) λx hx=>⟨Do (h5.2 x hx).1,Do (h5.2 x hx).2.1,Do (h5.2 x hx).2.2.1,FS.take _ (by decide)⟩⟩
theorem zHe{c:za}(h:OC c):X8 (Wm c):=by
 obtain ⟨_,_,_,_,_,h1⟩:=h;exact ⟨FS.take _ (by decide),FS.take _ (by decide),zvH (by decide),I1 (by decide) λx hx=>⟨FS.take _ (by decide),FS.take _ (by decide)⟩,I1 (by decide) λx hx=>zHf (h1.2 x hx)⟩
def zIm(l:List za):List za:=(l.take 18).map Wm
theorem zyD(l:List za):zsY l=some (zIm l):=by
 unfold zsY
 rw [show zk (λz=>O0 l z.1 z.2) ([],0)=some (.inl (zIm l)) from WU (by decide) (λacc i x hx hi ha=>by
  show O0 l acc (i:Int)=_;unfold O0;rw [show (decide ((i:Int)<(l.length:Int))&&decide ((i:Int)<18))=true from more hx hi,zo,hx];simp only [Qa,RT]
  rw [zyG,Qa,XJ (by simp;omega) (by simp;omega)];rfl) (λacc i h=>by
  show O0 l acc (i:Int)=_;unfold O0
  rw [show (decide ((i:Int)<(l.length:Int))&&decide ((i:Int)<18))=false from h];rfl)]
 rfl
structure zIl(c:za):Prop where
 fc:X8 c
 name:c.Name.length≤10
 super:c.Super.length≤10
 impl:∀s∈c.Impl,s.length≤12
theorem zAQ{c:za}(h:OC c):zIl (Wm c):=by
 refine ⟨zHe h,?_,?_,λs hs=>?_⟩
 .show (c.Name.take 10).length≤10;rw [QI];omega
 .show (c.Super.take 10).length≤10;rw [QI];omega
 .obtain ⟨y,_,rfl⟩:=QW.1 (show s∈(c.Impl.take 6).map (·.take 12) from hs);rw [QI];omega
theorem zAG{l:List za}(h:∀c∈l,OC c):∀c∈zIm l,zIl c:=λc hc=>by
 obtain ⟨d,hd,rfl⟩:=QW.1 hc;exact zAQ (h d (J6 hd))
section
variable {l L : List za} {m : List (Tx × Int)}
theorem zIB:∀c∈giv,X8 c:=by
 intro c hc
 have hg:giv.all (λc=>decide (c.Name.length≤10)&&decide (c.Super.length≤10)&&(c.Impl == [])&&decide (c.Fields.length=0)&&decide (c.Methods.length=0))=true:=by decide +kernel
 have:=Qp.1 hg c hc;simp only [Qd,decide_eq_true_eq,beq_iff_eq] at this;obtain ⟨⟨⟨⟨h1,h2⟩,h3⟩,h4⟩,h5⟩:=this;refine ⟨by unfold FS;omega,by unfold FS;omega,⟨by rw [h3];simp,λs hs=>by rw [h3] at hs;cases hs⟩,⟨by omega,λs hs=>?_⟩,⟨by omega,λs hs=>?_⟩⟩
 .rw [Qf h4] at hs;cases hs
 .rw [Qf h5] at hs;cases hs
theorem zC4(h:Xe l L)(hs:∀c∈l,X8 c):∀c∈L,X8 c:=by
 intro c hc;rw [h.app] at hc
 rcases Qm.1 hc with e |e
 .exact zIB c e
 .exact hs c e
def zC:za:=za.mk [] [] false [] [] []
theorem zzs(hm:Xu L m)(n:Tx):zK L m n=some (match cl L n with |some c=>(c,true) |none=>(zC,false)):=by
 show cond (!(Kf L m n)) (some (zC,false)) ((Hl L m n).bind λv4=>some (v4,true))=_;unfold Kf;rw [hm.has]
 cases hc:cl L n with
 |none=>rw [HH hc];rfl
 |some c=>rw [ZB hc,Ob hm (ZB hc),hc];rfl
end
section
variable {l L : List za} {m : List (Tx × Int)}
theorem Rc.trans{nx:Tx->List Tx}{a b c:Tx}(h:Rc nx a b)(k:Rc nx b c):Rc nx a c:=by
 induction h with
 |one h=>exact .more h k
 |more h _ ih=>exact .more h (ih k)
end
theorem G9{α:Type}(p:α->Bool)(l:List α):idx l (ixF p 0 l)=l.find? p:=by
 rcases WI p l 0 with ⟨j,x,h1,h2,h3,h4⟩ |⟨h1,h2⟩
 .rw [h1,h4,zo,QP,h2]
 .rw [h1,h2];rfl
theorem Hc{α:Type}(p:α->Bool)(l:List α):decide (0≤ixF p 0 l)=(l.find? p).isSome:=by
 rw [ZF,QK,QB,Yk]
theorem zsp{α β:Type}{f g:α->Option β}:∀{l:List α},(∀x∈l,f x=g x)->l.findSome? f=l.findSome? g
 | [],_=>rfl
 |x ::l,h=>by
  rw [Q0,Q0,h x (by simp),zsp λy hy=>h y (by simp [hy])]
def zF:zg:=zg.mk [] [] false
def zM:zb:=zb.mk [] [] [] false false 0 0 [] [] []
abbrev FR:=List UInt8×zg×Bool
abbrev MR:=List UInt8×zb×Bool
def UI(L:List za)(n s:Tx):Option FR:=match cl L s with |some x=>(match x.Fields.find? (λy=>y.Name == n) with |some f=>some (s,f,true) |none=>none) |none=>none
def Za(L:List za)(may:zb->Bool)(n s:Tx):Option MR:=match cl L s with |some x=>(match x.Methods.find? (λy=>y.Name == n) with |some f=>cond (may f) (some (s,f,true)) none |none=>none) |none=>none
theorem DJ{R:Type}(o:Option R)(z:R):(some (XE () o):Option (Sum Unit R)).bind (λo=>zB o (λ_=>some z) some)=some (o.getD z):=by cases o <;> rfl
section
variable {l L : List za} {m : List (Tx × Int)}
theorem Ke(hm:Xu L m)(n:Tx):zK L m n=some (match cl L n with |some c=>(c,true) |none=>(zC,false)):=zzs hm n
def XL(L:List za):Prop:=∀c∈L,XG c.Fields/\XG c.Methods
theorem zC1(h:∀c∈L,X8 c):XL L:=λc hc=>⟨(h c hc).fields.le,(h c hc).methods.le⟩
theorem zvK(h:Xe l L)(hm:Xu L m)(hL:XL L)(c n:Tx):Ea L m c n=some (((Xn L c).findSome? (UI L n)).getD ([],zF,false)):=by
 have h26:=Z7 h c;unfold Ea;rw [DG h hm];simp only [Qa]
 rw [show zk (λz=>EJ L m n (Xn L c) z) 0=some (XE () ((Xn L c).findSome? (UI L n))) from Zk (λi s hs=>by
  have hi:=(Qb.1 hs).1;obtain ⟨x,hx⟩:=X0 (Kb h _ c s (Qc hs)).1;show EJ L m n (Xn L c) (i:Int)=_;unfold EJ;rw [Xk hs,zo,hs];simp only [RT,Qa];rw [Ke hm,hx];simp only [Qa];rw [zuq (hL x (XO hx).1).1];simp only [Qa];rw [Hc,G9,zz (by omega)];unfold UI;rw [hx]
  show _=some (UJ i (match x.Fields.find? (λy=>y.Name == n) with |some f=>some (s,f,true) |none=>none))
  cases x.Fields.find? (λy=>y.Name == n) <;> rfl) (by
  show EJ L m n (Xn L c) ((Xn L c).length:Int)=_;unfold EJ
  rw [Xm];rfl)]
 exact DJ _ _
theorem zsB(h:Xe l L)(hL:XL L)(c n:Tx):zid L c n=some (((Xn L c).findSome? (UI L n)).getD ([],zF,false)):=by
 have h26:=Z7 h c;have hl:=h.len;unfold zid;rw [HZ h];simp only [Qa]
 rw [show zk (λz=>EV L n (Xn L c) z) 0=some (XE () ((Xn L c).findSome? (UI L n))) from Zk (λi s hs=>by
  have hi:=(Qb.1 hs).1;obtain ⟨x,hx⟩:=X0 (Kb h _ c s (Qc hs)).1;show EV L n (Xn L c) (i:Int)=_;unfold EV;rw [Xk hs,zo,hs];simp only [RT,Qa];rw [Zb (by omega)];simp only [Qa];rw [GB hx];simp only [Qa];rw [zrq (hL x (XO hx).1).1];simp only [Qa];rw [Hc,G9,zz (by omega)];unfold UI;rw [hx]
  show _=some (UJ i (match x.Fields.find? (λy=>y.Name == n) with |some f=>some (s,f,true) |none=>none))
  cases x.Fields.find? (λy=>y.Name == n) <;> rfl) (by
  show EV L n (Xn L c) ((Xn L c).length:Int)=_;unfold EV
  rw [Xm];rfl)]
 exact DJ _ _
theorem zwc(h:Xe l L)(hm:Xu L m)(hL:XL L){may:zb->Bool}{T:List Tx}(hT:T.length≤1000)(n:Tx){body:Int->Option (Sum Int (Sum Unit MR))}
  (hT2:∀s∈T,Xj L s=true)
  (hb:∀(i:Nat) s x,T[i]?=some s->cl L s=some x->body (i:Int)=((HX x n).bind λv15=>(cond (decide (0≤v15)) ((idx x.Methods v15).bind λv16=>some (may v16)) (some false)).bind λv17=>cond v17 ((idx x.Methods v15).bind λv18=>some (.inr (.inr (s,v18,true)))) (some (.inl (i64.wrap ((i:Int)+1))))))
  (he:body (T.length:Int)=some (.inr (.inl ()))):zk body 0=some (XE () (T.findSome? (Za L may n))):=by
 refine Zk (λi s hs=>?_) he;have hi:=(Qb.1 hs).1;obtain ⟨x,hx⟩:=X0 (hT2 s (Qc hs));rw [hb i s x hs hx,zti (hL x (XO hx).1).2];simp only [Qa];rw [Hc,G9,zz (by omega)];unfold Za;rw [hx]
 show _=some (UJ i (match x.Methods.find? (λy=>y.Name == n) with |some f=>cond (may f) (some (s,f,true)) none |none=>none))
 cases x.Methods.find? (λy=>y.Name == n) with
 |none=>rfl
 |some f =>
  simp only [JA,RT,Qa];cases may f <;> rfl
theorem zEV(h:Xe l L)(hm:Xu L m)(hL:XL L){T:List Tx}(hT:T.length≤1000)(hT2:∀s∈T,Xj L s=true)(n:Tx):zkC L m T n=some ((T.findSome? (Za L UF n)).getD ([],zM,false)):=by
 unfold zkC
 rw [show zk (λz=>Eo L m T n z) 0=some (XE () (T.findSome? (Za L UF n))) from zwc h hm hL hT n hT2 (λi s x hs hx=>by
  show Eo L m T n (i:Int)=_;unfold Eo;rw [Xk hs,zo,hs];simp only [RT,Qa]
  rw [Ke hm,hx];rfl) (by
  show Eo L m T n (T.length:Int)=_;unfold Eo
  rw [Xm];rfl)]
 exact DJ _ _
theorem zEW(h:Xe l L)(hm:Xu L m)(hL:XL L){T:List Tx}(hT:T.length≤1000)(hT2:∀s∈T,Xj L s=true)(n:Tx):zmi L m T n=some ((T.findSome? (Za L Hk n)).getD ([],zM,false)):=by
 unfold zmi
 rw [show zk (λz=>En L m T n z) 0=some (XE () (T.findSome? (Za L Hk n))) from zwc h hm hL hT n hT2 (λi s x hs hx=>by
  show En L m T n (i:Int)=_;unfold En;rw [Xk hs,zo,hs];simp only [RT,Qa]
  rw [Ke hm,hx];rfl) (by
  show En L m T n (T.length:Int)=_;unfold En
  rw [Xm];rfl)]
 exact DJ _ _
theorem zEU(h:Xe l L)(hm:Xu L m)(hL:XL L){T:List Tx}(hT:T.length≤1000)(hT2:∀s∈T,Xj L s=true)(n:Tx):zmh L m T n=some ((T.findSome? (Za L KC n)).getD ([],zM,false)):=by
 unfold zmh
 rw [show zk (λz=>Ep L m T n z) 0=some (XE () (T.findSome? (Za L KC n))) from zwc h hm hL hT n hT2 (λi s x hs hx=>by
  show Ep L m T n (i:Int)=_;unfold Ep;rw [Xk hs,zo,hs];simp only [RT,Qa]
  rw [Ke hm,hx];rfl) (by
  show Ep L m T n (T.length:Int)=_;unfold Ep
  rw [Xm];rfl)]
 exact DJ _ _
theorem OD(h:Xe l L)(c:Tx):∀s∈Xn L c,Xj L s=true:=λs hs=>(Kb h _ c s hs).1
theorem zrg(h:Xe l L)(hm:Xu L m)(hL:XL L)(c n:Tx):Eh L m c n=some (((Xn L c).findSome? (Za L UF n)).getD ([],zM,false)):=by
 have h26:=Z7 h c;unfold Eh;rw [DG h hm];simp only [Qa];rw [zEV h hm hL (by omega) (OD h c)];rfl
theorem znM(h:Xe l L)(hL:XL L)(c n:Tx):EP L c n=some (((Xn L c).findSome? (Za L UF n)).getD ([],zM,false)):=by
 have h26:=Z7 h c;have hl:=h.len;unfold EP;rw [HZ h];simp only [Qa]
 rw [show zk (λz=>E8 L n (Xn L c) z) 0=some (XE () ((Xn L c).findSome? (Za L UF n))) from Zk (λi s hs=>by
  have hi:=(Qb.1 hs).1;obtain ⟨x,hx⟩:=X0 (OD h c s (Qc hs));show E8 L n (Xn L c) (i:Int)=_;unfold E8;rw [Xk hs,zo,hs];simp only [RT,Qa];rw [Zb (by omega)];simp only [Qa];rw [GB hx];simp only [Qa];rw [Ba (hL x (XO hx).1).2];simp only [Qa];rw [Hc,G9,zz (by omega)];unfold Za;rw [hx]
  show _=some (UJ i (match x.Methods.find? (λy=>y.Name == n) with |some f=>cond (UF f) (some (s,f,true)) none |none=>none))
  cases hf:x.Methods.find? (λy=>y.Name == n) with
  |none=>rfl
  |some f =>
   have e:f.Name=n:=by have:=List.find?_some hf;simpa using this
   simp only [UF,JA,QC,Qa,e]
   cases (n == [36,105,110,105,116]) <;> rfl) (by
  show E8 L n (Xn L c) ((Xn L c).length:Int)=_;unfold E8
  rw [Xm];rfl)]
 exact DJ _ _
def KH(L:List za)(c n:Tx):MR:=cond (isF L c) (((c ::XN L c).findSome? (Za L Hk n)).getD ([],zM,false)) ([],zM,false)
theorem zyz{c:Tx}(h:isF L c=true):Xj L c=true:=by
 unfold isF at h
 cases hc:cl L c with
 |none=>rw [hc] at h;cases h
 |some x=>exact ZB hc
theorem zCC(h:Xe l L)(hm:Xu L m)(hL:XL L)(c n:Tx):zkB L m c n=some (KH L c n):=by
 have h52:=Ox h c;unfold zkB KH;rw [Ke hm]
 have e:isF L c=(match cl L c with |some c=>(c,true) |none=>(zC,false)).1.Interface:=by
  unfold isF;cases cl L c <;> rfl
 cases hF:isF L c with
 |false =>
  rw [hF] at e;simp only [Qa];rw [<-e];rfl
 |true =>
  rw [hF] at e;simp only [Qa];rw [<-e];simp only [Qr,RF];rw [ztm h hm];simp only [Qa];rw [XJ (by simp;omega) (by simp;omega)];simp only [Qa]
  rw [zEW h hm hL (by simp;omega) (λs hs=>by
   rcases Qu.1 (show s∈c ::XN L c from hs) with e |e
   .rw [e];exact zyz hF
   .exact Oy h e)]
  rfl
theorem zt6(h:Xe l L)(hL:XL L)(c n:Tx):ziO L c n=some (KH L c n):=by
 have h52:=Ox h c;have hl:=h.len;unfold ziO KH;rw [Zb (by omega)];simp only [Qa];rw [Gz,U6]
 have e:(cond (!Xj L c) (some true) ((cl L c).bind λv5=>some (!v5.Interface)))=some (!isF L c):=by
  unfold isF
  cases hc:cl L c with
  |none=>rw [HH hc];rfl
  |some x=>rw [ZB hc];rfl
 rw [e];simp only [Qa]
 cases hF:isF L c with
 |false=>rfl
 |true =>
  simp only [Qr,RF,RT];rw [zpb h];simp only [Qa];rw [XJ (by simp;omega) (by simp;omega)];simp only [Qa]
  rw [show zk (λz=>EC L n ([c]++XN L c) z) 0=some (XE () ((c ::XN L c).findSome? (Za L Hk n))) from Zk (l:=c ::XN L c) (λi s hs=>by
   have hi:=(Qb.1 hs).1;simp only [Qv] at hi
   have hsh:Xj L s=true:=by
    rcases Qu.1 (Qc hs) with e |e
    .rw [e];exact zyz hF
    .exact Oy h e
   obtain ⟨x,hx⟩:=X0 hsh;show EC L n (c ::XN L c) (i:Int)=_;unfold EC;rw [Xk hs,zo,hs];simp only [RT,Qa];rw [Zb (by omega)];simp only [Qa];rw [GB hx];simp only [Qa];rw [Ba (hL x (XO hx).1).2];simp only [Qa];rw [Hc,G9,zz (by omega)];unfold Za Hk;rw [hx]
   show _=some (UJ i (match x.Methods.find? (λy=>y.Name == n) with |some f=>cond true (some (s,f,true)) none |none=>none))
   cases x.Methods.find? (λy=>y.Name == n) <;> rfl) (by
   show EC L n (c ::XN L c) ((c ::XN L c).length:Int)=_;unfold EC
   rw [Xm];rfl)]
  exact DJ _ _
theorem zlm(h:Xe l L){x:za}(hx:x∈L){f:zb}(hf:f∈x.Methods):f.Abstract=x.Interface:=by
 rw [h.app] at hx
 rcases Qm.1 hx with e |e
 .have hg:giv.all (λc=>decide (c.Methods.length=0))=true:=by decide +kernel
  have:=of_decide_eq_true (Qp.1 hg x e);rw [Qf this] at hf;cases hf
 .have:=h.may x e;unfold ZN at this;simp only [Qd,Qk,decide_eq_true_eq] at this;have h2:=B2 this.2.2.1 f hf;rw [Qd,beq_iff_eq] at h2;exact h2.1
def chG(L:List za)(n s:Tx):Option (List UInt8×Bool):=match cl L s with |some x=>(match x.Methods.find? (λy=>y.Name == n) with |some f=>cond (!f.Static) (some (s,true)) none |none=>none) |none=>none
theorem zCl(h:Xe l L)(hm:Xu L m)(hL:XL L)(c n:Tx):ziK L m c n=some ((((Xn L c).findSome? (Za L KC n)).getD ([],zM,false)).1,(((Xn L c).findSome? (Za L KC n)).getD ([],zM,false)).2.2):=by
 have h26:=Z7 h c;unfold ziK;rw [DG h hm];simp only [Qa];rw [zEU h hm hL (by omega) (OD h c)];rfl
theorem zsq{α β γ:Type}{f:α->Option β}{g:β->γ}:∀{l:List α},(l.findSome? f).map g=l.findSome? (λx=>(f x).map g)
 | []=>rfl
 |x ::l=>by
  rw [Q0,Q0]
  cases f x with
  |some y=>rfl
  |none=>exact zsq
theorem zq4{α β:Type}{f:α->Option β}:∀{l:List α},(∀x∈l,f x=none)->l.findSome? f=none
 | [],_=>rfl
 |x ::l,h=>by
  rw [Q0,h x (by simp)];exact zq4 λy hy=>h y (by simp [hy])
theorem zFq(h:Xe l L)(may:zb->Bool)(n:Tx):Za L may n KF=none:=by
 have e:cl L KF=some (gC KF []):=Oc h.app rfl;unfold Za;rw [e];rfl
theorem zD8(h:Xe l L){c s:Tx}(hs:s∈Xn L c)(hF:isF L c=false):isF L s=false:=by
 rcases (Kb h _ c s hs).2.2 with e |⟨x,hx,e⟩
 .rw [e];exact hF
 .rw [e];exact h.superF x hx
theorem zAn(h:Xe l L){c s:Tx}(hs:s∈Xn L c)(hF:isF L c=true):s=c∨s=KF:=by
 unfold Xn at hs;have hn:=zyz hF
 cases hd:L.length with
 |zero=>rw [hd] at hs;simp [sup] at hs
 |succ d =>
  rw [hd] at hs;unfold sup at hs;obtain ⟨x,hx⟩:=X0 hn;rw [hx] at hs
  rcases Qu.1 hs with e |e
  .exact .inl e
  .right
   have hI:x.Interface=true:=by unfold isF at hF;rw [hx] at hF;exact hF
   have hxS:x.Super=KF:=by
    have hxm:=(XO hx).1;rw [h.app] at hxm
    rcases Qm.1 hxm with e |e
    .rw [(zE3 e).2.1] at hI;cases hI
    .have:=h.may x e;unfold ZN at this;rw [hI] at this;simp only [Qd,Qk,QC,Qn,Q6] at this;exact eq_of_beq this.1.1
   rw [hxS] at e
   cases d with
   |zero=>simp [sup] at e
   |succ d =>
    unfold sup at e;have eo:cl L KF=some (gC KF []):=Oc h.app rfl;rw [eo] at e
    rcases Qu.1 e with e |e
    .exact e
    .rw [show (gC KF []).Super=[] from rfl,zzd h] at e;cases e
def chN(L:List za)(c n:Tx):List UInt8×Bool:=cond (Xj L c&&!isF L c) (((Xn L c).findSome? (chG L n)).getD ([],false)) ([],false)
theorem zEQ(h:Xe l L)(hm:Xu L m)(hL:XL L)(c n:Tx):ziK L m c n=some (chN L c n):=by
 rw [zCl h hm hL];congr 1;unfold chN
 cases hn:Xj L c with
 |false=>rw [DH hn];rfl
 |true =>
  cases hF:isF L c with
  |true =>
   rw [zq4 (λs hs=>?_)]
   .rfl
   .rcases zAn h hs hF with e |e
    .subst e;obtain ⟨x,hx⟩:=X0 hn
     have hI:x.Interface=true:=by unfold isF at hF;rw [hx] at hF;exact hF
     unfold Za;rw [hx]
     show (match x.Methods.find? (λy=>y.Name == n) with |some f=>cond (KC f) (some (s,f,true)) none |none=>none)=none
     cases hf:x.Methods.find? (λy=>y.Name == n) with
     |none=>rfl
     |some f =>
      have:=zlm h (XO hx).1 (QG hf);simp only [KC,this,hI,Qr,Q9,RF]
    .rw [e];exact zFq h _ _
  |false =>
   simp only [QH,JM,RT]
   have e:(Xn L c).findSome? (chG L n)=((Xn L c).findSome? (Za L KC n)).map (λz:MR=>(z.1,z.2.2)):=by
    rw [zsq];refine zsp λs hs=>?_;obtain ⟨x,hx⟩:=X0 (OD h c s hs)
    have hI:x.Interface=false:=by
     have:=zD8 h hs hF;unfold isF at this;rw [hx] at this;exact this
    unfold chG Za;rw [hx]
    show (match x.Methods.find? (λy=>y.Name == n) with |some f=>cond (!f.Static) (some (s,true)) none |none=>none)=Option.map _ (match x.Methods.find? (λy=>y.Name == n) with |some f=>cond (KC f) (some (s,f,true)) none |none=>none)
    cases hf:x.Methods.find? (λy=>y.Name == n) with
    |none=>rfl
    |some f =>
     have:=zlm h (XO hx).1 (QG hf);simp only [KC,this,hI,QH,Yn];cases f.Static <;> rfl
   rw [e];cases (Xn L c).findSome? (Za L KC n) <;> rfl
theorem zxK(h:Xe l L)(hL:XL L)(c n:Tx):ziY L c n=some (chN L c n):=by
 have h26:=Z7 h c;have hl:=h.len;unfold ziY chN;rw [Zb (by omega)];simp only [Qa];rw [Gz,U6]
 have e:(cond (!Xj L c) (some true) ((cl L c).bind λv5=>some v5.Interface))=some (!(Xj L c&&!isF L c)):=by
  unfold isF
  cases hc:cl L c with
  |none=>rw [HH hc];rfl
  |some x=>rw [ZB hc];simp
 rw [e];simp only [Qa]
 cases hB:(Xj L c&&!isF L c) with
 |false=>rfl
 |true =>
  simp only [Qr,RF,RT];rw [HZ h];simp only [Qa]
  rw [show zk (λz=>Id L n (Xn L c) z) 0=some (XE () ((Xn L c).findSome? (chG L n))) from Zk (λi s hs=>by
   have hi:=(Qb.1 hs).1;obtain ⟨x,hx⟩:=X0 (OD h c s (Qc hs));show Id L n (Xn L c) (i:Int)=_;unfold Id;rw [Xk hs,zo,hs];simp only [RT,Qa];rw [Zb (by omega)];simp only [Qa];rw [GB hx];simp only [Qa];rw [Ba (hL x (XO hx).1).2];simp only [Qa];rw [Hc,G9,zz (by omega)];unfold chG;rw [hx]
   show _=some (UJ i (match x.Methods.find? (λy=>y.Name == n) with |some f=>cond (!f.Static) (some (s,true)) none |none=>none))
   cases x.Methods.find? (λy=>y.Name == n) with
   |none=>rfl
   |some f =>
    simp only [JA,RT,Qa]
    cases f.Static <;> rfl) (by
   show Id L n (Xn L c) ((Xn L c).length:Int)=_;unfold Id
   rw [Xm];rfl)]
  exact DJ _ _
end
section
variable {l L : List za} {m : List (Tx × Int)}
def Z1(L:List za)(t:Tx):Bool:=((t == [78])||(t == [84]))||thN L t
def GP(L:List za)(t:Tx):Bool:=!(t == [73])&&thN L t
def X9(L:List za)(a b:Tx):Bool:=
 (Z1 L a&&Z1 L b)&&cond ((b == [84])||(a == b)) true (cond (a == [78]) (GP L b) ((GP L a&&GP L b)&&(isF L b||UV L a b)))
theorem sub_self(t:Tx):UV L t t=thN L t:=by
 rw [zzc];simp
theorem zHG:Xq [78]=false:=by decide +kernel
theorem zHH:Xq [84]=false:=by decide +kernel
theorem zJ6:thN L [78]=false:=by unfold thN;rw [zHG];rfl
theorem zKq:thN L [84]=false:=by unfold thN;rw [zHH];rfl
theorem WL(h:Xe l L)(hm:Xu L m){t:Tx}(ht:t.length≤25):HY L m t=some (Z1 L t):=by
 unfold HY Z1;rw [Oe h hm ht (by unfold Len;omega),sub_self]
 cases ((t == [78])||(t == [84])) <;> rfl
theorem zDG(h:Xe l L)(hm:Xu L m){t:Tx}(ht:t.length≤25):OM L m t=some (GP L t):=by
 unfold OM GP;rw [Oe h hm ht (by unfold Len;omega),sub_self];cases (t == [73]) <;> rfl
theorem zxf(b:Tx):isF L b=(match cl L b with |some c=>(c,true) |none=>(zC,false)).1.Interface:=by
 unfold isF;cases cl L b <;> rfl
theorem zsU(h:Xe l L)(hm:Xu L m){a b:Tx}(ha:a.length≤25)(hb:b.length≤25):DO L m a b=some (X9 L a b):=by
 unfold DO X9;rw [WL h hm ha,WL h hm hb,zDG h hm ha,zDG h hm hb,Oe h hm ha (by unfold Len;omega)]
 have e:zK L m b=some (match cl L b with |some c=>(c,true) |none=>(zC,false)):=zzs hm b
 rw [e];simp only [Qa];rw [<-zxf]
 cases Z1 L a <;> cases Z1 L b <;> cases ((b == [84])||(a == b)) <;> cases (a == [78]) <;> cases GP L a <;> cases GP L b <;> cases isF L b <;> rfl
theorem K9{a b:Tx}(h:a≠b):(a == b)=false:=RB.2 h
theorem zCH(a b:Tx):X9 L a b=cond (b == [84]) (((a == [84])||(a == [78]))||thN L a) (cond (a == [78]) ((b == [78])||(!(b == [73])&&thN L b)) (cond (a == b) (thN L a)
  (cond (((a == [73])||(b == [73]))||!thN L a) false (cond (!thN L b) false (isF L b||UV L a b))))):=by
 unfold X9;by_cases hbT:b=[84]
 .subst hbT;unfold Z1;cases (a == [84]) <;> cases (a == [78]) <;> cases thN L a <;> simp
 .rw [K9 hbT];by_cases haN:a=[78]
  .subst haN;by_cases hbN:b=[78]
   .subst hbN;unfold Z1;simp
   .have e:(([78]:Tx) == b)=false:=K9 (Ne.symm hbN);unfold Z1 GP;rw [e,K9 hbN,K9 hbT,zJ6];cases (b == [73]) <;> cases thN L b <;> simp
  .rw [K9 haN];by_cases hab:a=b
   .subst hab;unfold Z1;rw [K9 haN,K9 hbT];cases thN L a <;> simp
   .rw [K9 hab];by_cases haT:a=[84]
    .subst haT;unfold GP;rw [zKq];simp
    .by_cases hbN:b=[78]
     .subst hbN;unfold GP;rw [zJ6];simp
     .unfold Z1 GP;rw [K9 haN,K9 haT,K9 hbN,K9 hbT];cases (a == [73]) <;> cases (b == [73]) <;> cases thN L a <;> cases thN L b <;> simp
theorem ON(h:Xe l L){a b:Tx}(ha:a.length≤25)(hb:b.length≤25):H1 L a b=some (X9 L a b):=by
 have h26:=h.len;rw [zCH];unfold H1;rw [Kz h (by omega),Kz h (by omega),Zb (by omega),zvi h ha (by omega)];simp only [Qa]
 have e:(cond (decide (0≤atN L b)) ((idx L (atN L b)).bind λv15=>some v15.Interface) (some false))=some (isF L b):=by
  rw [Dw,U6];unfold isF
  cases hc:cl L b with
  |none=>rw [HH hc];rfl
  |some c=>rw [ZB hc];rfl
 rw [e];simp only [Qa];cases (b == [84]) <;> cases (a == [84]) <;> cases (a == [78]) <;> cases (b == [78]) <;> cases (a == [73]) <;> cases (b == [73]) <;> cases (a == b) <;> cases thN L a <;> cases thN L b <;> cases isF L b <;> rfl
end

end
end Go.Proofs.YthmnlfenkhmmhaaGreat
