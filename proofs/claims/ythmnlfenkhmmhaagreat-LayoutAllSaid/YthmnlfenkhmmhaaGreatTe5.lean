/- LayoutAll. -/
import Derived.Test.YthmnlfenkhmmhaaGreatTe4
namespace Go.Proofs.YthmnlfenkhmmhaaGreat
noncomputable section
open List (length map)
open IntKind (i64)
open Go.Proofs.Tryz
set_option linter.unusedSimpArgs false
set_option linter.unusedVariables false
set_option maxRecDepth 100000
set_option maxHeartbeats 4000000
def Bs(c:List za)(f:T0)(i:zb)(j:T1)(l:T1)(b:Bool)(m:Int)(n:T1)(o:T1):Option (Bool):=
  (Bl c f i j l b m).bind λa=>cond a.2 ((D4 c n a.1.Locals).bind λd=>cond d ((D4 c o a.1.Stack).bind λe=>some (b||(!e))) (some (b||(!false)))) (some (b||(!false)))
theorem zgD(a:List za)(b:T0)(c:zb)(d:T1)(e:T1)(f:Bool)(n:Int)(o:T1)(p:T1){r:Bool}(h:Bs a b c d e f n o p=some r):SC prog 208 [.mpt 0 0 0,iA n,tL o,tL p] (tR a b c d e f []) (.tup []) (tR a b c d e r []):=by
 refine ⟨⟨t,t⟩,zR func208 y kz y ?_⟩;obtain ⟨i,s,h⟩:=bs h;refine A ?_;refine u<|sx [0] (zgk a b c d e f n s)<|zu (env0:=[(0,.mpt 0 0 0),(2,tL o),(3,tL p),(13,.tup [.agg (zO i.1),bA i.2])]) (st0:=(sR a b c d e f [])) (zm [0])<|A ?_
 rcases bb i.2 with j |j
 .replace h:=bT j h;obtain ⟨q,v,h⟩:=bs h
  rcases bb q with l |l
  .replace h:=bT l h;obtain ⟨m,x,h⟩:=bs h;refine XC [] (sR a b c d e (f||(!m)) []) [22] [0,1,2,3,4,5,6,7,8,9,10,11,12,13,14,15,16,17,18,19,20,21] [(37,_),(36,_),(35,_),(34,_),(33,_),(32,_),(31,_),(30,_),(29,_),(28,_),(27,_),(26,_),(25,_),(24,_),(23,_),(22,_),(21,_),(20,_),(19,_),(18,_),(17,_),(16,_)] 1 (Xi (z:=by exact ⟨(λ_ _=>⟨_,y,y,sc [0] (args:=[.mpt 0 0 0,bA m]) (zr a b c d e f m y) y y y y ⟨(.mpt y),(rnI y),t⟩ ⟨⟨_,y,(Uq y)⟩,t⟩<|⟨(.tup []),[],[(38,_)],y,y,y,y,Xl (z:=Xb [0])⟩⟩),t⟩)) ?_;cases h;exact ⟨_,y,Xc [0]⟩
  .replace h:=bF l h;refine XC [] (sR a b c d e (f||(!false)) []) [22] [0,1,2,3,4,5,6,7,8,9,10,11,12,13,14,15,16,17,18,19,20,21] [(37,_),(36,_),(35,_),(34,_),(33,_),(32,_),(31,_),(30,_),(29,_),(28,_),(27,_),(26,_),(25,_),(24,_),(23,_),(22,_),(21,_),(20,_),(19,_),(18,_),(17,_),(16,_)] 1 (Xi (z:=by exact ⟨(λ_ _=>⟨_,y,y,sc [0] (args:=[.mpt 0 0 0,bA false]) (zr a b c d e f false y) y y y y ⟨(.mpt y),(rnI y),t⟩ ⟨⟨_,y,(Uq y)⟩,t⟩<|⟨(.tup []),[],[(38,_)],y,y,y,y,Xl (z:=Xb [0])⟩⟩),t⟩)) ?_;cases h;exact ⟨_,y,Xc [0]⟩
 .replace h:=bF j h;refine XC [] (sR a b c d e (f||(!false)) []) [22] [21,20,19,18,17,16,15,14,13,12,11,10,9,8,7,6,5,4,3,2,1,0] [(37,bA false),(36,.lit undef),(35,.lit undef),(34,.lit undef),(33,.lit undef),(32,.lit undef),(31,.lit undef),(30,.lit undef),(29,.lit undef),(28,bA false),(27,bA false),(26,.lit undef),(25,.lit undef),(24,.lit undef),(23,.lit undef),(22,.lit undef),(21,.lit undef),(20,.lit undef),(19,.lit undef),(18,bA i.2),(17,bA i.2),(16,.mpt 0 0 0)] 1 (zJX ⟨(λ_ _=>⟨_,y,y,sc [0] (args:=[.mpt 0 0 0,bA false]) (zr a b c d e f false y) y y y y ⟨(.mpt y),(rnI y),t⟩ ⟨⟨_,y,(Uq y)⟩,t⟩<|⟨(.tup []),[],[(38,.tup [])],y,y,kz,y,zIy (zm [0])⟩⟩),t⟩) ?_;cases h;exact ⟨_,y,Xc [0]⟩
def DX(a:GG):Option (T1×T1):=
  (Xx 16 ([]:T1) a.locals).bind λb=>(Xx 16 ([]:T1) a.stack).bind λc=>some (b,c)
theorem zjI(c:GG){r:T1×T1}(h:DX c=some r):SC prog 209 [.agg (zBt c)] [] (.agg [.msl 0 0 (length r.1),.msl 1 0 (length r.2)]) [.many 1 (map Xf r.1),.many 1 (map Xf r.2)]:=by
 refine ⟨⟨Xw (sz:=1) (λ_=>y),Xw (sz:=1) (λ_=>y),t⟩,zR func209 y kz y ?_⟩;unfold DX at h;refine A ?_;obtain ⟨a,d,h⟩:=bs h;obtain ⟨b,e,h⟩:=bs h;refine rdA [(2,.mpt 0 0 0)] [some (2,[[.msl 1 0 (length a),.msl 2 0 (length b)]]),sT a,sT b] [2,5,7] [0,1,3,4] [(7,_),(6,_),(4,_),(3,_)] 3 (Xi (z:=by exact ⟨(λ_ _=>⟨_,y,y,apN (f:=Xf) 2 ti y ti y y (by decide) ti y y y roI (λ_=>y) y d<|⟨(.msl 2 0 (length a)),[],[(5,_)],y,y,y,y,Xi (z:=by exact ⟨nv,(λ_ _=>⟨_,y,y,apN (f:=Xf) 3 ti y ti y y (by decide) ti y y y roI (λ_=>y) y e<|⟨(.msl 3 0 (length b)),[6],[(9,_),(8,_)],y,y,y,y,Xi (z:=by exact ⟨nv,nv,(λ_ _=>⟨_,y,y,sto ti y y y<|⟨.any,[],[],y,y,y,t,Xl (z:=Xb [1,2,3])⟩⟩),t⟩)⟩⟩),nw,t⟩)⟩⟩),nw,nw,t⟩)) ?_;refine zA ?_;cases h;exact ⟨_,y,KZ [1,2]⟩
def zgE(c:List za)(f:T0)(i:zb)(j:T1)(l:T1)(b:Bool)(m:Int)(n:T1)(o:T1):Option (Bool):=
  (Bl c f i j l b m).bind λa=>cond a.2 ((D4 c n a.1.Locals).bind λd=>cond d ((D4 c o a.1.Stack).bind λe=>some (b||(!e))) (some (b||(!false)))) (some (b||(!false)))
theorem znH(a:List za)(c:T0)(d:zb)(e:T1)(f:T1)(i:Bool)(q:Int)(s:T1)(j:T1){r:Bool}(h:zgE a c d e f i q s j=some r):SC prog 208 [.mpt 0 0 0,iA q,tL s,.msl 1 0 (length j)] (tR a c d e f i [.many 1 (map Xf j)]) (.tup []) (tR a c d e f r [.many 1 (map Xf j)]):=by
 refine ⟨⟨t,Xw (sz:=1) (λ_=>y),t⟩,zR func208 y kz y ?_⟩;obtain ⟨l,v,h⟩:=bs h;refine A ?_;refine u<|sx [0] (zgk a c d e f i q v)<|zu (env0:=[(0,.mpt 0 0 0),(2,tL s),(3,.msl 1 0 (length j)),(13,.tup [.agg (zO l.1),bA l.2])]) (st0:=(sR a c d e f i [sT j])) (zm [0,1])<|A ?_
 rcases bb l.2 with n |n
 .replace h:=bT n h;obtain ⟨p,B,h⟩:=bs h
  rcases bb p with m |m
  .replace h:=bT m h;obtain ⟨o,x,h⟩:=bs h;refine XC [] (sR a c d e f (i||(!o)) [sT j]) [22] [0,1,2,3,4,5,6,7,8,9,10,11,12,13,14,15,16,17,18,19,20,21] [(37,_),(36,_),(35,_),(34,_),(33,_),(32,_),(31,_),(30,_),(29,_),(28,_),(27,_),(26,_),(25,_),(24,_),(23,_),(22,_),(21,_),(20,_),(19,_),(18,_),(17,_),(16,_)] 1 (Xi ⟨peC,peC,peC,peC,peC,peC,peC,peC,peC,peC,peC,peC,peC,peC,peC,peC,peC,peC,peC,peC,(by exact λ_=>pag (b:=p) y y y y m y (pcs (zlF a j l.1.Stack x) y y (.cons (si y) (.cons (XM y (λ_=>y)) (.cons (si y) .nil))) XA<|w)),peC,t⟩ (by exact ⟨(λ_ _=>⟨_,y,y,sc [0] (args:=[.mpt 0 0 0,bA o]) (zr a c d e f i o y) y y y y ⟨(.mpt y),(rnI y),t⟩ ⟨⟨_,y,(Uq y)⟩,t⟩<|⟨(.tup []),[],[(38,_)],y,y,y,y,Xl (z:=Xb [0,1])⟩⟩),t⟩)) ?_;cases h;exact ⟨_,y,Xc [0,1]⟩
  .replace h:=bF m h;refine XC [] (sR a c d e f (i||(!false)) [sT j]) [22] [0,1,2,3,4,5,6,7,8,9,10,11,12,13,14,15,16,17,18,19,20,21] [(37,_),(36,_),(35,_),(34,_),(33,_),(32,_),(31,_),(30,_),(29,_),(28,_),(27,_),(26,_),(25,_),(24,_),(23,_),(22,_),(21,_),(20,_),(19,_),(18,_),(17,_),(16,_)] 1 (Xi (z:=by exact ⟨(λ_ _=>⟨_,y,y,sc [0] (args:=[.mpt 0 0 0,bA false]) (zr a c d e f i false y) y y y y ⟨(.mpt y),(rnI y),t⟩ ⟨⟨_,y,(Uq y)⟩,t⟩<|⟨(.tup []),[],[(38,_)],y,y,y,y,Xl (z:=Xb [0,1])⟩⟩),t⟩)) ?_;cases h;exact ⟨_,y,Xc [0,1]⟩
 .replace h:=bF n h;refine XC [] (sR a c d e f (i||(!false)) [sT j]) [22] [21,20,19,18,17,16,15,14,13,12,11,10,9,8,7,6,5,4,3,2,1,0] [(37,bA false),(36,.lit undef),(35,.lit undef),(34,.lit undef),(33,.lit undef),(32,.lit undef),(31,.lit undef),(30,.lit undef),(29,.lit undef),(28,bA false),(27,bA false),(26,.lit undef),(25,.lit undef),(24,.lit undef),(23,.lit undef),(22,.lit undef),(21,.lit undef),(20,.lit undef),(19,.lit undef),(18,bA l.2),(17,bA l.2),(16,.mpt 0 0 0)] 1 (zJX ⟨(λ_ _=>⟨_,y,y,sc [0] (args:=[.mpt 0 0 0,bA false]) (zr a c d e f i false y) y y y y ⟨(.mpt y),(rnI y),t⟩ ⟨⟨_,y,(Uq y)⟩,t⟩<|⟨(.tup []),[],[(38,.tup [])],y,y,kz,y,zIy (zm [0,1])⟩⟩),t⟩) ?_;cases h;exact ⟨_,y,Xc [0,1]⟩
def zo8(a:Bool):Option (Bool):=
  some a
def zgl(a:Int)(b:Bool):zL (Bool×Int) (Bool) (Bool):=
  some (.inl (b,(i64.wrap (a+1))))
def zeu(f:List za)(m:T0)(n:zb)(i:T1)(o:T1)(j:Int)(b:Bool)(c:Int)(a:zU)(d:T0):zL (Bool×Int) (Bool) (Bool):=
  (zht f d [84,104,114,111,119,110]).bind λe=>cond ((decide (a.From≤j))&&(decide (j<a.To))) ((zgE f m n i o (b||(!e)) a.At i [d]).bind λl=>zgl c l) (zgl c (b||(!e)))
def It(e:List za)(f:T0)(d:zb)(i:T1)(j:T1)(l:Int)(c:Bool)(a:Int):zL (Bool×Int) (Bool) (Bool):=
  cond (decide (a<(length d.Traps:Int))) ((idx d.Traps a).bind λb=>cond (b.C == []) (zeu e f d i j l c a b [84,104,114,111,119,110]) (zeu e f d i j l c a b b.C)) (some (.inr (.inl c)))
def D6(a:List za)(c:T0)(d:zb)(e:T1)(f:T1)(i:Bool)(j:Int):Option (Bool):=
  (zk (λz=>It a c d e f j z.1 z.2) (i,0)).bind λo=>zB o (λb=>zo8 b) some
theorem zkH(a:List za)(d:T0)(e:zb)(c:T1)(f:T1)(x:Bool)(m:Int){r:Bool}(h:D6 a d e c f x m=some r):SC prog 210 [.mpt 0 0 0,iA m] (tR a d e c f x []) (.tup []) (tR a d e c f r []):=by
 refine ⟨⟨t,t⟩,zR func210 y kz y ?_⟩;refine A ?_;obtain ⟨o,ho,h⟩:=bs h;refine lpB ho (λz=>[(0,.mpt 0 0 0),(1,iA m),(4,iA z.2)]) (λz=>(sR a d e c f z.1 [])) (λb=>[]) (λb=>(sR a d e c f b [])) (λr env st=>U0 prog f210 1 (.tup []) (sR a d e c f r []) env st) (Xb [0]) ?_ ?_
 .rintro ⟨i,j⟩ r h;refine ze<|A ?_;apply Xa h y<;>intro B h
  .refine zc ?_;refine Xz (X:=Bool) (λz=>[(0,.mpt 0 0 0),(1,iA m),(4,iA j)]) (λz=>(sR a d e c f z [])) (λz=>zgl j z=some r) ?_ ?_
   .refine zh ?_;obtain ⟨l,H,h⟩:=bs h;refine A ?_;refine A ?_;refine Xz (X:=T0) (λz=>[(0,.mpt 0 0 0),(1,iA m),(4,iA j),(5,.mpt 1 0 0),(6,sA z)]) (λz=>(sR a d e c f i [some (4,[(XD l)])])) (λz=>zeu a d e c f m i j l z=some r) ?_ ?_
    .refine A ?_;apply Xa h y<;>intro s h
     .refine A ?_;exact (⟨[84,104,114,111,119,110],h,zm [0,1]⟩)
     .refine zc ?_;exact ⟨l.C,h,zm [0,1]⟩
    .rintro p h;obtain ⟨n,D,h⟩:=bs h;refine rg y<|u<|mv y<|u<|mv y<|u<|nc y y<|u<|fa ti y y y<|u<|ld ti y y<|u<|mv y<|u<|pc (zlJ a p [84,104,114,111,119,110] D) y y y<|u<|sx [0] (zr a d e c f i n y)<|zu (env0:=[(0,.mpt 0 0 0),(1,iA m),(4,iA j),(5,.mpt 1 0 0),(6,sA p)]) (st0:=(sR a d e c f (i||(!n)) [some (4,[(XD l)])])) (zm [0,1])<|zw ?_;refine A ?_;apply Xa h y<;>intro v h
     .obtain ⟨q,E,h⟩:=bs h;refine XC [(0,_),(1,_),(4,_)] (sR a d e c f q []) [9,10] [0,1,2,3,4,5,6,7,8] [(55,_),(54,_),(53,_),(52,_),(51,_),(50,_),(49,_),(48,_),(47,_)] 2 (Xi (z:=by exact ⟨(λ_ _=>⟨_,y,y,bl 2 ti y ti y (by decide) (by decide) y y y<|⟨(.msl 2 0 1),[],[(56,_)],y,y,y,y,Xi (z:=by exact ⟨nv,(λ_ _=>⟨_,y,y,sx [0,2] (znH a d e c f (i||(!n)) l.At c [p] E)<|⟨(.tup []),[],[(57,_)],y,y,y,y,Xl (z:=Xb [0])⟩⟩),t⟩)⟩⟩),nw,t⟩)) ?_;exact ⟨q,h,zm [0]⟩
     .refine zc ?_;exact ⟨(i||(!n)),h,zm [0]⟩
   .rintro F h;refine A ?_;cases h;exact ⟨_,y,zm [0]⟩
  .refine zp ?_;cases h;exact ⟨y,_,y,zm [0]⟩
 .rintro G rfl;refine zl ?_;cases h;exact ⟨_,y,Xc [0]⟩
def Kg(e:List za)(f:T0)(i:zb)(j:T1)(a:T1)(b:Bool):Option (T0×T1×Bool):=
  cond ((length a:Int) == 0) (some ([78],a,true)) ((idx a (i64.wrap ((length a:Int)-1))).bind λc=>(XK a 0 (i64.wrap ((length a:Int)-1))).bind λd=>some (c,d,b))
theorem GM(c:List za)(d:T0)(e:zb)(f:T1)(i:T1)(j:Bool){r:T0×T1×Bool}(h:Kg c d e f i j=some r):SC prog 345 [.mpt 0 0 0] (tR c d e f i j []) (sA r.1) (tR c d e f r.2.1 r.2.2 []):=by
 refine ⟨⟨t,t⟩,zR func345 y kz y ?_⟩;refine A ?_;refine A ?_;refine ze<|A ?_;apply Xa h y<;>intro l h
 .refine A ?_;refine A ?_;exact RT1
 .refine zc ?_;obtain ⟨n,o,h⟩:=bs h;refine A ?_;obtain ⟨p,m,h⟩:=bs h;refine A ?_;refine u<|slI (a:=0) (b:=(i64.wrap ((length i:Int)-1))) ti y ti y y y (HF y m) m<|A ?_;refine A ?_;exact RT1
def zpM(a:T1)(b:Bool):Option (T1×Bool):=
  some (a,b)
def H4(e:List za)(j:T0)(l:zb)(m:T1)(n:T1)(c:T1)(d:Bool)(a:Int):zL (T1×Bool×Int) (T1×Bool) (T1×Bool):=
  cond (decide (0≤a)) ((idx n a).bind λf=>(Kg e j l m c d).bind λb=>(H1 e b.1 f).bind λi=>some (.inl (b.2.1,(b.2.2||(!i)),(i64.wrap (a-1))))) (some (.inr (.inl (c,d))))
def z6(c:List za)(d:T0)(e:zb)(f:T1)(i:T1)(j:Bool)(a:T1):Option (T1×Bool):=
  (zk (λz=>H4 c d e f a z.1 z.2.1 z.2.2) (i,j,(i64.wrap ((length a:Int)-1)))).bind λo=>zB o (λb=>zpM b.1 b.2) some
theorem Kh(a:List za)(c:T0)(d:zb)(e:T1)(l:T1)(m:Bool)(j:T1){r:T1×Bool}(h:z6 a c d e l m j=some r):SC prog 292 [.mpt 0 0 0,tL j] (tR a c d e l m []) (.tup []) (tR a c d e r.1 r.2 []):=by
 refine ⟨⟨t,t⟩,zR func292 y kz y ?_⟩;refine A ?_;obtain ⟨o,ho,h⟩:=bs h;refine lpB ho (λz=>[(0,.mpt 0 0 0),(1,tL j),(4,iA z.2.2)]) (λz=>(sR a c d e z.1 z.2.1 [])) (λb=>[]) (λb=>(sR a c d e b.1 b.2 [])) (λr env st=>U0 prog f292 1 (.tup []) (sR a c d e r.1 r.2 []) env st) (Xb [0]) ?_ ?_
 .rintro ⟨n,p,v⟩ r h;refine ze<|A ?_;apply Xa h y<;>intro q h
  .refine zc<|ze<|zh ?_;obtain ⟨x,D,f,s,i,E,h⟩:=bs3 h;refine XC [(0,_),(1,_),(4,_)] (sR a c d e f.2.1 (f.2.2||(!i)) []) [6,12] [0,1,2,3,4,5,7,8,9,10] [(22,_),(21,_),(20,_),(19,_),(17,_),(16,_),(15,_),(14,_),(13,_),(12,_)] 2 (Xi (z:=by exact ⟨(λ_ _=>⟨_,y,y,sx [0] (GM a c d e n p s)<|⟨(sA f.1),[11],[(23,_),(18,_)],y,y,y,y,Xi (z:=by exact ⟨nv,(λ_ _=>⟨_,y,y,sx [0] (zr a c d e f.2.1 f.2.2 i y)<|⟨(.tup []),[],[(24,_)],y,y,y,y,Xl (z:=Xb [0])⟩⟩),t⟩)⟩⟩),nw,t⟩)) ?_;refine A ?_;cases h;exact ⟨_,y,zm [0]⟩
  .refine zp ?_;cases h;exact ⟨y,_,y,zm [0]⟩
 .rintro ⟨B,C⟩ rfl;refine zl ?_;cases h;exact ⟨_,y,Xc [0]⟩
def zX(i:List za)(j:T0)(b:zb)(l:T1)(c:T1)(d:Bool)(e:T0):Option (T1×Bool):=
  (Xx 16 ([]:T1) c).bind λf=>(Xx 16 f [e]).bind λa=>some (a,(d||(!(decide ((length a:Int)≤b.Stack)))))
theorem zT(b:List za)(c:T0)(a:zb)(d:T1)(l:T1)(e:Bool)(j:T0){r:T1×Bool}(h:zX b c a d l e j=some r):SC prog 293 [.mpt 0 0 0,sA j] (tR b c a d l e []) (.tup []) (tR b c a d r.1 r.2 []):=by
 refine ⟨⟨t,t⟩,zR func293 y kz y ?_⟩;obtain ⟨o,m,i,n,h⟩:=bs2 h;refine A ?_;refine u<|apN (f:=Xf) 1 ti y ti y y (by decide) ti y y y roI (λ_=>y) y m<|A ?_;refine u<|apM 3 ti y ti y y (by decide) ti y y y y (roX (f:=Xf) (z:=[j]) y y) (λ_=>y) y n<|A ?_;refine Wz (env0:=[(0,.mpt 0 0 0)]) (st0:=(sR b c a d i e [])) (zm [0]) ?_;refine XC [] (sR b c a d i (e||(!(decide ((length i:Int)≤a.Stack)))) []) [13] [0,1,2,3,4,5,6,7,8,9,10,11,12] [(29,_),(28,_),(27,_),(26,_),(25,_),(24,_),(23,_),(22,_),(21,_),(20,_),(19,_),(18,_),(17,_)] 1 (Xi (z:=by exact ⟨(λ_ _=>⟨_,y,y,sx [0] (zr b c a d i e (decide ((length i:Int)≤a.Stack)) y)<|⟨(.tup []),[],[(30,_)],y,y,y,y,Xl (z:=Xb [0])⟩⟩),t⟩)) ?_;cases h;exact ⟨_,y,Xc [0]⟩
def Hm(b:List za)(c:T0)(d:zb)(e:T1)(f:T1)(i:Bool):Option (T0×T1×Bool):=
  (Kg b c d e f i).bind λa=>some (a.1,a.2.1,(a.2.2||(!(!(a.1 == [73])))))
theorem Bu(b:List za)(c:T0)(d:zb)(e:T1)(f:T1)(i:Bool){r:T0×T1×Bool}(h:Hm b c d e f i=some r):SC prog 346 [.mpt 0 0 0] (tR b c d e f i []) (sA r.1) (tR b c d e r.2.1 r.2.2 []):=by
 refine ⟨⟨t,t⟩,zR func346 y kz y ?_⟩;refine A ?_;obtain ⟨a,j,h⟩:=bs h;refine rg y<|u<|mv y<|u<|sx [0] (GM b c d e f i j)<|zu (env0:=[(0,.mpt 0 0 0),(5,sA a.1)]) (st0:=(sR b c d e a.2.1 a.2.2 [])) (zm [0])<|A ?_;refine A ?_;refine u<|sx [0] (zr b c d e a.2.1 a.2.2 (!(a.1 == [73])) y)<|zu (env0:=[(3,sA a.1)]) (st0:=(sR b c d e a.2.1 (a.2.2||(!(!(a.1 == [73])))) [])) (zm [0])<|zw ?_;refine A ?_;exact RT1
def We(e:List za)(f:T0)(i:zb)(b:T1)(j:zs)(a:T1)(c:Bool):Option (T1×Bool):=
  (Bs e f i b a c j.A b a).bind λd=>some (a,d)
def Br(a:List za)(b:T0)(c:zb)(d:T1)(f:T1)(i:Bool)(e:zs):Option (T1×Bool):=
  cond (decide (e.Op≤26)) ((z6 a b c d f i ([[73]])).bind λn=>We a b c d e n.1 n.2) (cond (decide (e.Op≤32)) ((z6 a b c d f i ([[73],[73]])).bind λo=>We a b c d e o.1 o.2) (cond (decide (e.Op≤34)) ((Hm a b c d f i).bind λj=>We a b c d e j.2.1 j.2.2) ((Hm a b c d f i).bind λl=>(Hm a b c d l.2.1 l.2.2).bind λm=>We a b c d e m.2.1 m.2.2)))
theorem zpN(b:List za)(c:T0)(d:zb)(a:T1)(f:T1)(i:Bool)(e:zs){r:T1×Bool}(h:Br b c d a f i e=some r):SC prog 294 [.mpt 0 0 0,.agg (zt e)] (tR b c d a f i []) (.tup []) (tR b c d a r.1 r.2 []):=by
 refine ⟨⟨t,t⟩,zR func294 y kz y ?_⟩;refine A ?_;refine Xz (X:=T1×Bool) (λz=>[(0,.mpt 0 0 0),(3,.mpt 1 0 0)]) (λz=>(sR b c d a z.1 z.2 [some (4,[(zt e)])])) (λz=>We b c d a e z.1 z.2=some r) ?_ ?_
 .refine zh<|A ?_;apply Xa h y<;>intro q h
  .obtain ⟨o,C,h⟩:=bs h;refine A ?_;exact zu (env0:=[(0,.mpt 0 0 0),(3,.mpt 1 0 0),(12,.mpt 0 0 0),(13,tL ([[73]]))]) (st0:=(sR b c d a f i [some (4,[(zt e)])])) (zm [0,1])<|u<|sx [0] (Kh b c d a f i ([[73]]) C)<|zu (env0:=[(0,.mpt 0 0 0),(3,.mpt 1 0 0)]) (st0:=(sR b c d a o.1 o.2 [some (4,[(zt e)])])) (zm [0,1])<|zw (⟨⟨o.1,o.2⟩,h,zm [0,1]⟩)
  .refine A ?_;apply Xa h y<;>intro s h
   .obtain ⟨p,D,h⟩:=bs h;refine A ?_;exact zu (env0:=[(0,.mpt 0 0 0),(3,.mpt 1 0 0),(19,.mpt 0 0 0),(20,tL ([[73],[73]]))]) (st0:=(sR b c d a f i [some (4,[(zt e)])])) (zm [0,1])<|u<|sx [0] (Kh b c d a f i ([[73],[73]]) D)<|zu (env0:=[(0,.mpt 0 0 0),(3,.mpt 1 0 0)]) (st0:=(sR b c d a p.1 p.2 [some (4,[(zt e)])])) (zm [0,1])<|zw (⟨⟨p.1,p.2⟩,h,zm [0,1]⟩)
   .refine A ?_;apply Xa h y<;>intro v h
    .obtain ⟨j,E,h⟩:=bs h;exact rl y<|u<|mv y<|u<|sx [0] (Bu b c d a f i E)<|zu (env0:=[(0,.mpt 0 0 0),(3,.mpt 1 0 0)]) (st0:=(sR b c d a j.2.1 j.2.2 [some (4,[(zt e)])])) (zm [0,1])<|zw (⟨⟨j.2.1,j.2.2⟩,h,zm [0,1]⟩)
    .obtain ⟨l,F,h⟩:=bs h;refine rg y<|u<|mv y<|u<|sx [0] (Bu b c d a f i F)<|zu (env0:=[(0,.mpt 0 0 0),(3,.mpt 1 0 0)]) (st0:=(sR b c d a l.2.1 l.2.2 [some (4,[(zt e)])])) (zm [0,1])<|zw ?_;obtain ⟨m,G,h⟩:=bs h;exact rl y<|u<|mv y<|u<|sx [0] (Bu b c d a l.2.1 l.2.2 G)<|zu (env0:=[(0,.mpt 0 0 0),(3,.mpt 1 0 0)]) (st0:=(sR b c d a m.2.1 m.2.2 [some (4,[(zt e)])])) (zm [0,1])<|zw (⟨⟨m.2.1,m.2.2⟩,h,zm [0,1]⟩)
 .rintro ⟨n,x⟩ h;obtain ⟨B,H,h⟩:=bs h;refine XC [] (sR b c d a n B []) [13] [0,1,2,3,4,5,6,7,8,9,10,11,12] [(40,_),(39,_),(38,_),(37,_),(36,_),(35,_),(34,_),(33,_),(32,_),(31,_),(30,_),(29,_),(28,_)] 1 (Xi (z:=by exact ⟨(λ_ _=>⟨_,y,y,sx [0] (zgD b c d a n x e.A a n H)<|⟨(.tup []),[],[(41,_)],y,y,y,y,Xl (z:=Xb [0])⟩⟩),t⟩)) ?_;cases h;exact ⟨_,y,Xc [0]⟩
def zrx:Option (T0×zg×Bool):=
  some ([],(zg.mk [] [] false),false)
def EV(e:List za)(m:T0)(d:T1)(a:Int):zL (Int) (Unit) (T0×zg×Bool):=
  cond (decide (a<((length d):Int))) ((idx d a).bind λf=>(zS e f).bind λi=>(idx e i).bind λb=>(zmX b m).bind λc=>cond (decide (0≤c)) ((idx d a).bind λj=>(idx b.Fields c).bind λl=>some (.inr (.inr (j,l,true)))) (some (.inl (i64.wrap (a+1))))) (some (.inr (.inl ())))
def zid(a:List za)(c:T0)(d:T0):Option (T0×zg×Bool):=
  (KU a c).bind λe=>(zk (λz=>EV a d e z) 0).bind λo=>zB o (λb=>zrx) some
instance (a:List za)(e:T0)(d:T0):PF prog 229 [.ipt 1 [[cL a]] 0 0,sA e,sA d] (zid a e d) (λr=>(.tup [sA r.1,.agg (zv r.2.1),bA r.2.2])):=⟨λr h=>by
 refine zi func229 y kz y y<|A ?_;obtain ⟨c,m,h⟩:=bs h;refine A ?_;refine u<|sx [] (GL a e m)<|zu (env0:=[(0,.ipt 1 [[cL a]] 0 0),(2,sA d),(7,.mpt 0 0 0),(15,.msl 1 0 (length c))]) (st0:=[some (3,[[sA [],sA [],bA false]]),sT c]) (zm [0,1])<|A ?_;refine ze<|A ?_;obtain ⟨o,ho,h⟩:=bs h;refine lpB ho (λz=>[(0,.ipt 1 [[cL a]] 0 0),(2,sA d),(7,.mpt 0 0 0),(9,.msl 1 0 (length c)),(10,iA z)]) (λz=>[some (3,[[sA [],sA [],bA false]]),sT c]) (λb=>[(7,.mpt 0 0 0)]) (λb=>[some (3,[[sA [],sA [],bA false]])]) (pG f229 (λr=>.tup [sA r.1,.agg (zv r.2.1),bA r.2.2])) (Xb [0,1]) ?_ ?_
 .rintro n r h;refine ze<|A ?_;apply Xa h y<;>intro f h
  .refine zc<|ze<|zh ?_;obtain ⟨p,q,s,v,j,x,h⟩:=bs3 h;refine rdA [(0,_),(2,_),(7,_),(9,_),(10,_),(11,_)] [some (3,[[sA [],sA [],bA false]]),sT c,some (6,[(zf j)])] [12,13] [0,1,2,3,4,5,6,7,8,9,10,11] [(33,_),(32,_),(31,_),(30,_),(29,_),(28,_),(27,_),(26,_),(25,_),(24,_),(23,_),(22,_)] 2 (Xi (z:=by exact ⟨(λ_ _=>⟨_,y,y,al 2 ti y<|⟨(.mpt 2 0 0),[],[(11,_)],y,y,y,y,Xi (z:=by exact ⟨nv,(λ_ _=>⟨_,y,y,sto ti y y y<|⟨.any,[],[],y,y,y,t,Xl (z:=Xb [0,1,2])⟩⟩),t⟩)⟩⟩),nw,t⟩)) ?_;obtain ⟨B,C,h⟩:=bs h;refine A ?_;refine A ?_;apply Xa h y<;>intro i h
   .obtain ⟨D,E,l,F,h⟩:=bs2 h;refine rdA [(6,_),(7,_),(8,_)] [some (3,[(zv l)])] [10] [0,1,2,3,4,5,6,7,8,9] [(6,_),(47,_),(46,_),(45,_),(44,_),(43,_),(42,_),(41,_),(40,_),(39,_)] 1 (Xi (z:=by exact ⟨(λ_ _=>⟨_,y,y,sto ti y y y<|⟨.any,[11],[(8,_)],y,y,y,t,Xl (z:=Xb [0])⟩⟩),t⟩)) ?_;refine zA ?_;cases h;exact ⟨_,y,_,y,Xc []⟩
   .refine zc<|A ?_;cases h;exact ⟨_,y,zm [0,1]⟩
  .refine zp ?_;cases h;exact ⟨y,_,y,zm [0]⟩
 .rintro ⟨⟩ rfl;refine zl<|A ?_
  exact RT0⟩
def BO(f:List za)(i:T0)(j:zb)(l:T1)(d:zs)(e:T0×zg×Bool)(a:T1)(b:Bool):Option (T1×Bool):=
  cond ((d.Op == 38)||(d.Op == 40)) ((zX f i j l a b e.2.1.Type_).bind λc=>some (c.1,c.2)) (some (a,b))
def Da(f:List za)(i:T0)(j:zb)(l:T1)(a:zs)(b:T0×zg×Bool)(c:T1)(d:Bool):Option (T1×Bool):=
  cond ((a.Op == 38)||(a.Op == 39)) ((z6 f i j l c d [a.C]).bind λe=>BO f i j l a b e.1 e.2) (BO f i j l a b c d)
def Bm(c:List za)(f:T0)(i:zb)(j:T1)(d:T1)(e:Bool)(a:zs):Option (T1×Bool):=
  (zS c a.C).bind λn=>cond (decide (n<0)) (some (d,true)) (cond (a.Op == 37) ((idx c n).bind λo=>(zX c f i j d (e||(!(!o.Interface))) a.C).bind λl=>some (l.1,l.2)) ((zid c a.C a.M).bind λb=>cond (e||(!(b.2.2&&(b.2.1.Static == ((a.Op == 40)||(a.Op == 41)))))) (some (d,(e||(!(b.2.2&&(b.2.1.Static == ((a.Op == 40)||(a.Op == 41)))))))) (cond ((a.Op == 39)||(a.Op == 41)) ((z6 c f i j d (e||(!(b.2.2&&(b.2.1.Static == ((a.Op == 40)||(a.Op == 41)))))) [b.2.1.Type_]).bind λm=>Da c f i j a b m.1 m.2) (Da c f i j a b d (e||(!(b.2.2&&(b.2.1.Static == ((a.Op == 40)||(a.Op == 41))))))))))
theorem zo5(c:List za)(d:T0)(e:zb)(f:T1)(i:T1)(j:Bool)(b:zs){r:T1×Bool}(h:Bm c d e f i j b=some r):SC prog 295 [.mpt 0 0 0,.agg (zt b)] (tR c d e f i j []) (.tup []) (tR c d e f r.1 r.2 []):=by
 refine ⟨⟨t,t⟩,zR func295 y kz y ?_⟩;refine A ?_;obtain ⟨M,N,h⟩:=bs h;refine rdA [(0,_),(3,_),(4,_)] (sR c d e f i j [some (4,[(zt b)])]) [] [0,1,2,3,4,5,6,7] [(4,_),(14,_),(13,_),(12,_),(11,_),(10,_),(9,_),(8,_)] 0 (Xl (z:=Xb [0,1])) ?_;refine ze<|A ?_;apply Xa h y<;>intro D h
 .refine A ?_;exact RT1
 .refine zc<|ze<|A ?_;apply Xa h y<;>intro E h
  .obtain ⟨s,O,h⟩:=bs h;refine A ?_;refine u<|sx [0] (zr c d e f i j (!s.Interface) y)<|zu (env0:=[(0,.mpt 0 0 0),(3,.mpt 1 0 0)]) (st0:=(sR c d e f i (j||(!(!s.Interface))) [some (4,[(zt b)])])) (zm [0,1])<|zw ?_;obtain ⟨p,L,h⟩:=bs h;refine A ?_;refine u<|sx [0] (zT c d e f i (j||(!(!s.Interface))) b.C L)<|zu (env0:=[]) (st0:=(sR c d e f p.1 p.2 [])) (zm [0])<|zw ?_;exact RT1
  .refine zc ?_;obtain ⟨a,P,h⟩:=bs h;refine rdA [(0,_),(3,_),(6,_),(7,_)] (sR c d e f i j [some (4,[(zt b)]),some (3,[(zv a.2.1)])]) [13,15] [0,1,2,3,4,5,6,7,8,9,10,11,12] [(53,_),(52,_),(51,_),(41,_),(50,_),(49,_),(48,_),(47,_),(46,_),(45,_),(44,_),(43,_),(42,_)] 2 (Xi (z:=by exact ⟨(λ_ _=>⟨_,y,y,al 2 ti y<|⟨(.mpt 2 0 0),[14],[(5,_),(6,_)],y,y,y,y,Xi (z:=by exact ⟨nv,(λ_ _=>⟨_,y,y,sto ti y y y<|⟨.any,[16],[(7,_)],y,y,y,t,Xl (z:=Xb [0,1,2])⟩⟩),t⟩)⟩⟩),nw,t⟩)) ?_;refine A ?_;refine u<|sx [0] (zr c d e f i j (a.2.2&&(a.2.1.Static == ((b.Op == 40)||(b.Op == 41)))) y)<|zu (env0:=[(0,.mpt 0 0 0),(3,.mpt 1 0 0),(6,.mpt 2 0 0)]) (st0:=(sR c d e f i (j||(!(a.2.2&&(a.2.1.Static == ((b.Op == 40)||(b.Op == 41)))))) [some (4,[(zt b)]),some (3,[(zv a.2.1)])])) (zm [0,1,2])<|zw ?_;refine ze<|A ?_;apply Xa h y<;>intro F h
   .exact RT1
   .refine zc ?_;refine Xz (X:=T1×Bool) (λz=>[(0,.mpt 0 0 0),(3,.mpt 1 0 0),(6,.mpt 2 0 0)]) (λz=>(sR c d e f z.1 z.2 [some (4,[(zt b)]),some (3,[(zv a.2.1)])])) (λz=>Da c d e f b a z.1 z.2=some r) ?_ ?_
    .refine A ?_;apply Xa h y<;>intro v h
     .obtain ⟨l,G,h⟩:=bs h;refine A ?_;exact zu (env0:=[(0,.mpt 0 0 0),(3,.mpt 1 0 0),(6,.mpt 2 0 0),(82,.mpt 0 0 0),(85,.isl 1 (map Xf [a.2.1.Type_]))]) (st0:=(sR c d e f i (j||(!(a.2.2&&(a.2.1.Static == ((b.Op == 40)||(b.Op == 41)))))) [some (4,[(zt b)]),some (3,[(zv a.2.1)])])) (zm [0,1,2])<|u<|sx [0] (Kh c d e f i (j||(!(a.2.2&&(a.2.1.Static == ((b.Op == 40)||(b.Op == 41)))))) [a.2.1.Type_] G)<|zu (env0:=[(0,.mpt 0 0 0),(3,.mpt 1 0 0),(6,.mpt 2 0 0)]) (st0:=(sR c d e f l.1 l.2 [some (4,[(zt b)]),some (3,[(zv a.2.1)])])) (zm [0,1,2])<|zw (⟨⟨l.1,l.2⟩,h,zm [0,1,2]⟩)
     .refine zc ?_;exact ⟨⟨i,(j||(!(a.2.2&&(a.2.1.Static == ((b.Op == 40)||(b.Op == 41))))))⟩,h,zm [0,1,2]⟩
    .rintro ⟨n,o⟩ h;refine Xz (X:=T1×Bool) (λz=>[(0,.mpt 0 0 0),(3,.mpt 1 0 0),(6,.mpt 2 0 0)]) (λz=>(sR c d e f z.1 z.2 [some (4,[(zt b)]),some (3,[(zv a.2.1)])])) (λz=>BO c d e f b a z.1 z.2=some r) ?_ ?_
     .refine A ?_;apply Xa h y<;>intro x h
      .obtain ⟨m,H,h⟩:=bs h;refine A ?_;exact zu (env0:=[(0,.mpt 0 0 0),(3,.mpt 1 0 0),(6,.mpt 2 0 0),(95,.mpt 0 0 0),(98,.isl 1 (map Xf [b.C]))]) (st0:=(sR c d e f n o [some (4,[(zt b)]),some (3,[(zv a.2.1)])])) (zm [0,1,2])<|u<|sx [0] (Kh c d e f n o [b.C] H)<|zu (env0:=[(0,.mpt 0 0 0),(3,.mpt 1 0 0),(6,.mpt 2 0 0)]) (st0:=(sR c d e f m.1 m.2 [some (4,[(zt b)]),some (3,[(zv a.2.1)])])) (zm [0,1,2])<|zw (⟨⟨m.1,m.2⟩,h,zm [0,1,2]⟩)
      .refine zc ?_;exact ⟨⟨n,o⟩,h,zm [0,1,2]⟩
     .rintro ⟨I,J⟩ h;refine A ?_;apply Xa h y<;>intro B h
      .obtain ⟨q,K,h⟩:=bs h;refine A ?_;refine u<|sx [0] (zT c d e f I J a.2.1.Type_ K)<|zu (env0:=[]) (st0:=(sR c d e f q.1 q.2 [])) (zm [0])<|zw ?_;cases h;exact ⟨_,y,Xc [0]⟩
      .refine zc ?_;cases h;exact ⟨_,y,Xc [0]⟩
def zsa:Option (T0×zb×Bool):=
  some ([],(zb.mk [] [] [] false false 0 0 [] [] []),false)
def EC(e:List za)(m:T0)(d:T1)(a:Int):zL (Int) (Unit) (T0×zb×Bool):=
  cond (decide (a<((length d):Int))) ((idx d a).bind λf=>(zS e f).bind λi=>(idx e i).bind λb=>(Gg b m).bind λc=>cond (decide (0≤c)) ((idx d a).bind λj=>(idx b.Methods c).bind λl=>some (.inr (.inr (j,l,true)))) (some (.inl (i64.wrap (a+1))))) (some (.inr (.inl ())))
def ziO(a:List za)(c:T0)(e:T0):Option (T0×zb×Bool):=
  (zS a c).bind λd=>(cond (decide (d<0)) (some true) ((idx a d).bind λf=>some (!f.Interface))).bind λi=>cond i (some ([],(zb.mk [] [] [] false false 0 0 [] [] []),false)) ((Em a c).bind λj=>(Xx 16 [c] j).bind λl=>(zk (λz=>EC a e l z) 0).bind λo=>zB o (λb=>zsa) some)
instance (a:List za)(c:T0)(d:T0):PF prog 231 [.ipt 1 [[cL a]] 0 0,sA c,sA d] (ziO a c d) (λr=>(.tup [sA r.1,.agg (zd r.2.1),bA r.2.2])):=⟨λr h=>by
 refine zi func231 y kz y y<|A ?_;obtain ⟨K,L,h⟩:=bs h;refine A ?_;refine ze ?_;obtain ⟨M,N,h⟩:=bs h;refine A ?_;apply Xa h y<;>intro m h
 .refine A ?_;exact RT0
 .refine zc ?_;obtain ⟨O,q,e,s,h⟩:=bs2 h;refine A ?_;refine u<|sx [] (zjE a c q)<|u<|apM (l:=[c]) (f:=Xf) 3 ti y ti y y (by decide) ti y y y y (roM y) (λ_=>y) y s<|A ?_;refine ze<|A ?_;obtain ⟨o,ho,h⟩:=bs h;refine lpB ho (λz=>[(0,.ipt 1 [[cL a]] 0 0),(2,sA d),(7,.mpt 0 0 0),(10,.msl 1 0 (length e)),(11,iA z)]) (λz=>[some (10,[[sA [],nS,sA [],bA false,bA false,iA 0,iA 0,nS,nS,nS]]),sT e]) (λb=>[(7,.mpt 0 0 0)]) (λb=>[some (10,[[sA [],nS,sA [],bA false,bA false,iA 0,iA 0,nS,nS,nS]])]) (pG f231 (λr=>.tup [sA r.1,.agg (zd r.2.1),bA r.2.2])) (Xb [0,3]) ?_ ?_
  .rintro v r h;refine ze<|A ?_;apply Xa h y<;>intro i h
   .refine zc<|ze<|zh ?_;obtain ⟨x,B,C,D,n,E,h⟩:=bs3 h;refine rdA [(0,_),(2,_),(7,_),(10,_),(11,_),(12,_)] [some (10,[[sA [],nS,sA [],bA false,bA false,iA 0,iA 0,nS,nS,nS]]),sT e,some (6,[(zf n)])] [12,13] [0,1,2,3,4,5,6,7,8,9,10,11] [(54,_),(53,_),(52,_),(51,_),(50,_),(49,_),(48,_),(47,_),(46,_),(45,_),(44,_),(43,_)] 2 (Xi (z:=by exact ⟨(λ_ _=>⟨_,y,y,al 2 ti y<|⟨(.mpt 2 0 0),[],[(12,_)],y,y,y,y,Xi (z:=by exact ⟨nv,(λ_ _=>⟨_,y,y,sto ti y y y<|⟨.any,[],[],y,y,y,t,Xl (z:=Xb [0,1,2])⟩⟩),t⟩)⟩⟩),nw,t⟩)) ?_;obtain ⟨F,G,h⟩:=bs h;refine A ?_;refine A ?_;apply Xa h y<;>intro j h
    .obtain ⟨H,I,p,J,h⟩:=bs2 h;refine rdA [(6,_),(7,_),(8,_)] [some (10,[(zd p)])] [10] [0,1,2,3,4,5,6,7,8,9] [(6,_),(68,_),(67,_),(66,_),(65,_),(64,_),(63,_),(62,_),(61,_),(60,_)] 1 (Xi (z:=by exact ⟨(λ_ _=>⟨_,y,y,sto ti y y y<|⟨.any,[11],[(8,_)],y,y,y,t,Xl (z:=Xb [0])⟩⟩),t⟩)) ?_;refine zA ?_;cases h;exact ⟨_,y,_,y,Xc []⟩
    .refine zc<|A ?_;cases h;exact ⟨_,y,zm [0,1]⟩
   .refine zp ?_;cases h;exact ⟨y,_,y,zm [0]⟩
  .rintro ⟨⟩ rfl;refine zl<|A ?_
   exact RT0⟩
def zqF:Option (T0×zb×Bool):=
  some ([],(zb.mk [] [] [] false false 0 0 [] [] []),false)
def E8(e:List za)(f:T0)(d:T1)(a:Int):zL (Int) (Unit) (T0×zb×Bool):=
  cond (decide (a<((length d):Int))) ((idx d a).bind λi=>(zS e i).bind λj=>(idx e j).bind λb=>(Gg b f).bind λc=>cond ((decide (0≤c))&&(!(f == [36,105,110,105,116]))) ((idx d a).bind λl=>(idx b.Methods c).bind λm=>some (.inr (.inr (l,m,true)))) (some (.inl (i64.wrap (a+1))))) (some (.inr (.inl ())))
def EP(a:List za)(c:T0)(d:T0):Option (T0×zb×Bool):=
  (KU a c).bind λe=>(zk (λz=>E8 a d e z) 0).bind λo=>zB o (λb=>zqF) some
instance (a:List za)(e:T0)(d:T0):PF prog 125 [.ipt 1 [[cL a]] 0 0,sA e,sA d] (EP a e d) (λr=>(.tup [sA r.1,.agg (zd r.2.1),bA r.2.2])):=⟨λr h=>by
 refine zi func125 y kz y y<|A ?_;obtain ⟨c,m,h⟩:=bs h;refine A ?_;refine u<|sx [] (GL a e m)<|zu (env0:=[(0,.ipt 1 [[cL a]] 0 0),(2,sA d),(7,.mpt 0 0 0),(15,.msl 1 0 (length c))]) (st0:=[some (10,[[sA [],nS,sA [],bA false,bA false,iA 0,iA 0,nS,nS,nS]]),sT c]) (zm [0,1])<|A ?_;refine ze<|A ?_;obtain ⟨o,ho,h⟩:=bs h;refine lpB ho (λz=>[(0,.ipt 1 [[cL a]] 0 0),(2,sA d),(7,.mpt 0 0 0),(9,.msl 1 0 (length c)),(10,iA z)]) (λz=>[some (10,[[sA [],nS,sA [],bA false,bA false,iA 0,iA 0,nS,nS,nS]]),sT c]) (λb=>[(7,.mpt 0 0 0)]) (λb=>[some (10,[[sA [],nS,sA [],bA false,bA false,iA 0,iA 0,nS,nS,nS]])]) (pG f125 (λr=>.tup [sA r.1,.agg (zd r.2.1),bA r.2.2])) (Xb [0,1]) ?_ ?_
 .rintro n r h;refine ze<|A ?_;apply Xa h y<;>intro f h
  .refine zc<|ze<|zh ?_;obtain ⟨p,q,s,v,j,x,h⟩:=bs3 h;refine rdA [(0,_),(2,_),(7,_),(9,_),(10,_),(11,_)] [some (10,[[sA [],nS,sA [],bA false,bA false,iA 0,iA 0,nS,nS,nS]]),sT c,some (6,[(zf j)])] [12,13] [0,1,2,3,4,5,6,7,8,9,10,11] [(33,_),(32,_),(31,_),(30,_),(29,_),(28,_),(27,_),(26,_),(25,_),(24,_),(23,_),(22,_)] 2 (Xi (z:=by exact ⟨(λ_ _=>⟨_,y,y,al 2 ti y<|⟨(.mpt 2 0 0),[],[(11,_)],y,y,y,y,Xi (z:=by exact ⟨nv,(λ_ _=>⟨_,y,y,sto ti y y y<|⟨.any,[],[],y,y,y,t,Xl (z:=Xb [0,1,2])⟩⟩),t⟩)⟩⟩),nw,t⟩)) ?_;obtain ⟨B,C,h⟩:=bs h;refine A ?_;refine A ?_;apply Xa h y<;>intro i h
   .obtain ⟨D,E,l,F,h⟩:=bs2 h;refine rdA [(6,_),(7,_),(8,_)] [some (10,[(zd l)])] [10] [0,1,2,3,4,5,6,7,8,9] [(6,_),(51,_),(50,_),(49,_),(48,_),(47,_),(46,_),(45,_),(44,_),(43,_)] 1 (Xi (z:=by exact ⟨(λ_ _=>⟨_,y,y,sto ti y y y<|⟨.any,[11],[(8,_)],y,y,y,t,Xl (z:=Xb [0])⟩⟩),t⟩)) ?_;refine zA ?_;cases h;exact ⟨_,y,_,y,Xc []⟩
   .refine zc<|A ?_;cases h;exact ⟨_,y,zm [0,1]⟩
  .refine zp ?_;cases h;exact ⟨y,_,y,zm [0]⟩
 .rintro ⟨⟩ rfl;refine zl<|A ?_
  exact RT0⟩
def Wg(e:List za)(f:T0)(i:zb)(j:T1)(a:zb)(b:T1)(c:Bool):Option (T1×Bool):=
  cond (!(a.Ret == [86])) ((zX e f i j b c a.Ret).bind λd=>some (d.1,d.2)) (some (b,c))
def H5(b:List za)(c:T0)(f:zb)(i:T1)(o:T1)(m:Bool)(n:zs)(d:zb)(p:T0)(j:Bool):Option (T1×Bool):=
  cond (m||(!j)) (some (o,(m||(!j)))) ((z6 b c f i o (m||(!j)) d.Params).bind λe=>cond (!(n.Op == 42)) ((Kg b c f i e.1 e.2).bind λa=>(H1 b a.1 n.C).bind λl=>cond (n.Op == 44) ((KU b c).bind λq=>(DF q p).bind λs=>cond s ((H1 b a.1 c).bind λv=>Wg b c f i d a.2.1 ((a.2.2||(!l))||(!v))) (Wg b c f i d a.2.1 ((a.2.2||(!l))||(!false)))) (Wg b c f i d a.2.1 (a.2.2||(!l)))) (Wg b c f i d e.1 e.2))
def EB(c:List za)(e:T0)(f:zb)(i:T1)(j:T1)(l:Bool)(a:zs):Option (T1×Bool):=
  cond (a.Op == 45) ((ziO c a.C a.M).bind λd=>H5 c e f i j l a d.2.1 d.1 d.2.2) ((EP c a.C a.M).bind λb=>H5 c e f i j l a b.2.1 b.1 ((b.2.2&&(b.2.1.Static == (a.Op == 42)))&&(!b.2.1.Abstract)))
theorem zpL(b:List za)(c:T0)(d:zb)(e:T1)(o:T1)(p:Bool)(j:zs){r:T1×Bool}(h:EB b c d e o p j=some r):SC prog 296 [.mpt 0 0 0,.agg (zt j)] (tR b c d e o p []) (.tup []) (tR b c d e r.1 r.2 []):=by
 refine ⟨⟨t,t⟩,zR func296 y kz y ?_⟩;refine A ?_;refine A ?_;refine A ?_;refine Xz (X:=zb×T0×Bool) (λz=>[(0,.mpt 0 0 0),(3,.mpt 1 0 0),(4,.mpt 2 0 0),(5,sA z.2.1),(6,bA z.2.2)]) (λz=>(sR b c d e o p [some (4,[(zt j)]),some (10,[(zd z.1)])])) (λz=>H5 b c d e o p j z.1 z.2.1 z.2.2=some r) ?_ ?_
 .refine A ?_;apply Xa h y<;>intro H h
  .obtain ⟨C,S,h⟩:=bs h;refine XC [(0,_),(3,_),(4,_),(5,_),(6,_)] (sR b c d e o p [some (4,[(zt j)]),some (10,[(zd C.2.1)])]) [14] [0,1,2,3,4,5,6,7,8,9,10,11,12,13] [(5,_),(23,_),(22,_),(21,_),(11,_),(20,_),(19,_),(18,_),(17,_),(16,_),(15,_),(14,_),(13,_),(12,_)] 1 (Xi (z:=by exact ⟨(λ_ _=>⟨_,y,y,sto ti y y y<|⟨.any,[15],[(6,_)],y,y,y,t,Xl (z:=Xb [0,1,2])⟩⟩),t⟩)) ?_;exact ⟨⟨C.2.1,C.1,C.2.2⟩,h,zm [0,1,2]⟩
  .obtain ⟨x,T,h⟩:=bs h;refine rdA [(0,_),(3,_),(4,_),(5,_),(6,_)] (sR b c d e o p [some (4,[(zt j)]),some (10,[(zd x.2.1)])]) [14] [0,1,2,3,4,5,6,7,8,9,10,11,12,13] [(5,_),(36,_),(35,_),(34,_),(24,_),(33,_),(32,_),(31,_),(30,_),(29,_),(28,_),(27,_),(26,_),(25,_)] 1 (Xi (z:=by exact ⟨(λ_ _=>⟨_,y,y,sto ti y y y<|⟨.any,[15],[(6,_)],y,y,y,t,Xl (z:=Xb [0,1,2])⟩⟩),t⟩)) ?_;refine A ?_;exact (⟨⟨x.2.1,x.1,((x.2.2&&(x.2.1.Static == (j.Op == 42)))&&(!x.2.1.Abstract))⟩,h,zm [0,1,2]⟩)
 .rintro ⟨f,l,B⟩ h;refine A ?_;refine u<|sx [0] (zr b c d e o p B y)<|zu (env0:=[(0,.mpt 0 0 0),(3,.mpt 1 0 0),(4,.mpt 2 0 0),(5,sA l)]) (st0:=(sR b c d e o (p||(!B)) [some (4,[(zt j)]),some (10,[(zd f)])])) (zm [0,1,2])<|zw ?_;refine ze<|A ?_;apply Xa h y<;>intro I h
  .exact RT1
  .refine zc ?_;obtain ⟨m,O,h⟩:=bs h;refine A ?_;refine u<|sx [0] (Kh b c d e o (p||(!B)) f.Params O)<|zu (env0:=[(0,.mpt 0 0 0),(3,.mpt 1 0 0),(4,.mpt 2 0 0),(5,sA l)]) (st0:=(sR b c d e m.1 m.2 [some (4,[(zt j)]),some (10,[(zd f)])])) (zm [0,1,2])<|zw ?_;refine Xz (X:=T1×Bool) (λz=>[(0,.mpt 0 0 0),(4,.mpt 1 0 0)]) (λz=>(sR b c d e z.1 z.2 [some (10,[(zd f)])])) (λz=>Wg b c d e f z.1 z.2=some r) ?_ ?_
   .refine A ?_;apply Xa h y<;>intro J h
    .obtain ⟨a,P,h⟩:=bs h;refine rg y<|u<|mv y<|u<|sx [0] (GM b c d e m.1 m.2 P)<|zu (env0:=[(0,.mpt 0 0 0),(3,.mpt 1 0 0),(4,.mpt 2 0 0),(5,sA l),(66,sA a.1)]) (st0:=(sR b c d e a.2.1 a.2.2 [some (4,[(zt j)]),some (10,[(zd f)])])) (zm [0,1,2])<|A ?_;obtain ⟨i,Q,h⟩:=bs h;refine rdA [(0,_),(3,_),(4,_),(5,_),(7,_)] (sR b c d e a.2.1 (a.2.2||(!i)) [some (4,[(zt j)]),some (10,[(zd f)])]) [9] [0,1,2,3,4,5,6,7,8] [(75,_),(74,_),(73,_),(72,_),(71,_),(70,_),(69,_),(68,_),(67,_)] 1 (Xi (z:=by exact ⟨(λ_ _=>⟨_,y,y,sx [0] (zr b c d e a.2.1 a.2.2 i y)<|⟨(.tup []),[],[(76,_)],y,y,y,y,Xl (z:=Xb [0,1,2])⟩⟩),t⟩)) ?_;refine A ?_;apply Xa h y<;>intro F h
     .obtain ⟨n,D,K,s,h⟩:=bs2 h
      rcases bb K with q |q
      .replace h:=bT q h;obtain ⟨v,R,h⟩:=bs h;refine XC [(0,.mpt 0 0 0),(4,.mpt 1 0 0)] (sR b c d e a.2.1 ((a.2.2||(!i))||(!v)) [some (10,[(zd f)])]) [9,24] [0,1,2,3,4,5,6,7,8,10] [(90,_),(88,_),(87,_),(86,_),(85,_),(84,_),(83,_),(82,_),(81,_),(80,_)] 2 (Xi (z:=by exact ⟨(λ_ _=>⟨_,y,y,sx [] (GL b c D)<|⟨(.msl 3 0 (length n)),[11,12,13,14,15,16,17,18,19,20,21,22,23],[(103,_),(102,_),(101,_),(100,_),(99,_),(98,_),(97,_),(96,_),(95,_),(94,_),(93,_),(92,_),(91,_),(89,_)],y,y,y,y,Xi ⟨(by exact pb y (pcs (DL n l s) y y (.cons (XM y (λ_=>y)) (.cons (si y) .nil)) XA<|w)),peC,peC,peC,peC,peC,peC,peC,peC,peC,peC,peC,peC,peC,peC,peC,peC,peC,peC,peC,peC,peC,peC,t⟩ (by exact ⟨nv,(λ_ _=>⟨_,y,y,sc [0] (args:=[.mpt 0 0 0,bA v]) (zr b c d e a.2.1 (a.2.2||(!i)) v y) y y y y ⟨(.mpt y),(rnI y),t⟩ ⟨⟨_,y,(Uq y)⟩,t⟩<|⟨(.tup []),[],[(104,_)],y,y,y,y,Xl ⟨(by exact pb y (pcs (DL n l s) y y (.cons (XM y (λ_=>y)) (.cons (si y) .nil)) XA<|w)),peC,peC,peC,peC,peC,peC,peC,peC,peC,peC,peC,peC,peC,peC,peC,peC,peC,peC,peC,peC,peC,peC,t⟩ (Xb [0,2])⟩⟩),t⟩)⟩⟩),nw,t⟩)) ?_;exact ⟨⟨a.2.1,((a.2.2||(!i))||(!v))⟩,h,zm [0,1]⟩
      .replace h:=bF q h;refine XC [(0,.mpt 0 0 0),(4,.mpt 1 0 0)] (sR b c d e a.2.1 ((a.2.2||(!i))||(!false)) [some (10,[(zd f)])]) [9,24] [0,1,2,3,4,5,6,7,8,10] [(90,_),(88,_),(87,_),(86,_),(85,_),(84,_),(83,_),(82,_),(81,_),(80,_)] 2 (Xi (z:=by exact ⟨(λ_ _=>⟨_,y,y,sx [] (GL b c D)<|⟨(.msl 3 0 (length n)),[11,12,13,14,15,16,17,18,19,20,21,22,23],[(103,_),(102,_),(101,_),(100,_),(99,_),(98,_),(97,_),(96,_),(95,_),(94,_),(93,_),(92,_),(91,_),(89,_)],y,y,y,y,Xi ⟨(by exact pb y (pcs (DL n l s) y y (.cons (XM y (λ_=>y)) (.cons (si y) .nil)) XA<|w)),peC,peC,peC,peC,peC,peC,peC,peC,peC,peC,peC,peC,peC,peC,peC,peC,peC,peC,peC,peC,peC,peC,t⟩ (by exact ⟨nv,(λ_ _=>⟨_,y,y,sc [0] (args:=[.mpt 0 0 0,bA false]) (zr b c d e a.2.1 (a.2.2||(!i)) false y) y y y y ⟨(.mpt y),(rnI y),t⟩ ⟨⟨_,y,(Uq y)⟩,t⟩<|⟨(.tup []),[],[(104,_)],y,y,y,y,Xl ⟨(by exact pb y (pcs (DL n l s) y y (.cons (XM y (λ_=>y)) (.cons (si y) .nil)) XA<|w)),peC,peC,peC,peC,peC,peC,peC,peC,peC,peC,peC,peC,peC,peC,peC,peC,peC,peC,peC,peC,peC,peC,t⟩ (Xb [0,2])⟩⟩),t⟩)⟩⟩),nw,t⟩)) ?_;exact ⟨⟨a.2.1,((a.2.2||(!i))||(!false))⟩,h,zm [0,1]⟩
     .refine zc ?_;exact ⟨⟨a.2.1,(a.2.2||(!i))⟩,h,zm [0,2]⟩
    .refine zc ?_;exact ⟨⟨m.1,m.2⟩,h,zm [0,2]⟩
   .rintro ⟨L,M⟩ h;refine A ?_;apply Xa h y<;>intro G h
    .obtain ⟨E,N,h⟩:=bs h;refine A ?_;refine u<|sx [0] (zT b c d e L M f.Ret N)<|zu (env0:=[]) (st0:=(sR b c d e E.1 E.2 [])) (zm [0])<|zw ?_;cases h;exact ⟨_,y,Xc [0]⟩
    .refine zc ?_;cases h;exact ⟨_,y,Xc [0]⟩
def zmW(a:T0):Option (T0):=
  (X2 [91] a).bind λb=>(Ga b).bind λc=>cond (!c) (some []) ((X2 [91] a).bind λd=>some d)
instance (a:T0):PF prog 129 [sA a] (zmW a) sA:=⟨λr h=>by
 refine zi func129 y kz y y<|A ?_;refine ze ?_;obtain ⟨c,d,e,f,h⟩:=bs2 h;refine A ?_;apply Xa h y<;>intro b h
 .refine A ?_;exact RT0
 .refine zc ?_;obtain ⟨i,j,h⟩:=bs h;refine A ?_
  exact RT0⟩
def zrp(a:T0):Option (T0×Bool):=
  (Ga a).bind λb=>(cond (!b) (some true) ((idx a 0).bind λc=>some (!((c.toNat:Int) == 91)))).bind λd=>cond d (some ([],false)) ((XK a 1 (length a:Int)).bind λe=>some (e,true))
instance (c:T0):PF prog 370 [sA c] (zrp c) (λr=>(.tup [sA r.1,bA r.2])):=⟨λr h=>by
 refine zi func370 y kz y y<|A ?_;refine ze ?_;obtain ⟨f,i,j,l,h⟩:=bs2 h;refine A ?_;apply Xa h y<;>intro d h
 .refine A ?_;exact RT0
 .refine zc ?_;obtain ⟨m,e,h⟩:=bs h;refine rg y<|u<|mv y<|u<|slS (a:=1) (b:=(length c:Int)) ti y y (KK y e) y e<|A ?_
  exact RT0⟩
def zgi(c:List za)(d:T0)(e:zb)(f:T1)(i:T1)(j:Bool):Option (T0×T1×Bool):=
  (Kg c d e f i j).bind λa=>cond (a.1 == [78]) (some ([78],a.2.1,a.2.2)) ((zrp a.1).bind λb=>some (b.1,a.2.1,(a.2.2||(!(b.2&&(!(b.1 == [73])))))))
theorem zkE(a:List za)(b:T0)(c:zb)(d:T1)(i:T1)(j:Bool){r:T0×T1×Bool}(h:zgi a b c d i j=some r):SC prog 347 [.mpt 0 0 0] (tR a b c d i j []) (sA r.1) (tR a b c d r.2.1 r.2.2 []):=by
 refine ⟨⟨t,t⟩,zR func347 y kz y ?_⟩;refine A ?_;obtain ⟨e,m,h⟩:=bs h;refine rg y<|u<|mv y<|u<|sx [0] (GM a b c d i j m)<|zu (env0:=[(0,.mpt 0 0 0),(7,sA e.1)]) (st0:=(sR a b c d e.2.1 e.2.2 [])) (zm [0])<|A ?_;refine ze<|A ?_;apply Xa h y<;>intro l h
 .refine A ?_;exact RT1
 .refine zc ?_;obtain ⟨f,n,h⟩:=bs h;refine A ?_;refine A ?_;refine u<|sx [0] (zr a b c d e.2.1 e.2.2 (f.2&&(!(f.1 == [73]))) y)<|zu (env0:=[(4,sA f.1)]) (st0:=(sR a b c d e.2.1 (e.2.2||(!(f.2&&(!(f.1 == [73]))))) [])) (zm [0])<|zw ?_;refine A ?_;exact RT1
def Hr(a:List za)(b:T0)(c:zb)(d:T1)(e:T1)(f:Bool)(i:zs):Option (T1×Bool):=
  cond (i.Op == 49) ((z6 a b c d e f ([[73]])).bind λG=>(zX a b c d G.1 G.2 [91,73]).bind λH=>some (H.1,H.2)) (cond (i.Op == 50) ((zmW i.C).bind λl=>(cond (!(l == [])) ((zP a l).bind λI=>some I) (some false)).bind λJ=>(z6 a b c d e (f||(!J)) ([[73]])).bind λn=>(zX a b c d n.1 n.2 l).bind λo=>some (o.1,o.2)) (cond (i.Op == 51) ((Kg a b c d e f).bind λj=>(cond (j.1 == [78]) (some true) ((cond (decide (1<(length j.1:Int))) ((idx j.1 0).bind λK=>some ((K.toNat:Int) == 91)) (some false)).bind λL=>some L)).bind λM=>(zX a b c d j.2.1 (j.2.2||(!M)) [73]).bind λp=>some (p.1,p.2)) (cond (i.Op == 52) ((z6 a b c d e f ([[91,73],[73]])).bind λq=>(zX a b c d q.1 q.2 [73]).bind λs=>some (s.1,s.2)) (cond (i.Op == 53) ((z6 a b c d e f ([[91,73],[73],[73]])).bind λv=>some (v.1,v.2)) (cond (i.Op == 54) ((z6 a b c d e f ([[73]])).bind λx=>(zgi a b c d x.1 x.2).bind λm=>(zX a b c d m.2.1 m.2.2 m.1).bind λB=>some (B.1,B.2)) (cond (i.Op == 55) ((Hm a b c d e f).bind λD=>(z6 a b c d D.2.1 D.2.2 ([[73]])).bind λE=>(zgi a b c d E.1 E.2).bind λF=>some (F.2.1,F.2.2)) (some (e,f))))))))
theorem zoo(a:List za)(b:T0)(c:zb)(d:T1)(e:T1)(f:Bool)(M:zs){r:T1×Bool}(h:Hr a b c d e f M=some r):SC prog 297 [.mpt 0 0 0,.agg (zt M)] (tR a b c d e f []) (.tup []) (tR a b c d r.1 r.2 []):=by
 refine ⟨⟨t,t⟩,zR func297 y kz y ?_⟩;refine A ?_;refine A ?_;refine zh<|A ?_;apply Xa h y<;>intro N h
 .obtain ⟨x,q2,h⟩:=bs h;refine A ?_;refine zu (env0:=[(0,.mpt 0 0 0),(10,.mpt 0 0 0),(11,tL ([[73]]))]) (st0:=(sR a b c d e f [])) (zm [0])<|u<|sx [0] (Kh a b c d e f ([[73]]) q2)<|zu (env0:=[(0,.mpt 0 0 0)]) (st0:=(sR a b c d x.1 x.2 [])) (zm [0])<|zw ?_;obtain ⟨O,q3,h⟩:=bs h;refine rl y<|u<|mv y<|u<|sx [0] (zT a b c d x.1 x.2 [91,73] q3)<|zu (env0:=[]) (st0:=(sR a b c d O.1 O.2 [])) (zm [0])<|zw ?_;cases h;exact ⟨_,y,Xc [0]⟩
 .refine A ?_;apply Xa h y<;>intro P h
  .obtain ⟨m,q5,h⟩:=bs h;refine A ?_;obtain ⟨n,q8,h⟩:=bs h;refine A ?_;refine u<|sx [0] (zr a b c d e f n y)<|zu (env0:=[(0,.mpt 0 0 0),(4,sA m)]) (st0:=(sR a b c d e (f||(!n)) [])) (zm [0])<|zw ?_;obtain ⟨o,q9,h⟩:=bs h;refine A ?_;refine zu (env0:=[(0,.mpt 0 0 0),(4,sA m),(32,.mpt 0 0 0),(33,tL ([[73]]))]) (st0:=(sR a b c d e (f||(!n)) [])) (zm [0])<|u<|sx [0] (Kh a b c d e (f||(!n)) ([[73]]) q9)<|zu (env0:=[(0,.mpt 0 0 0),(4,sA m)]) (st0:=(sR a b c d o.1 o.2 [])) (zm [0])<|zw ?_;obtain ⟨B,Q,h⟩:=bs h;refine A ?_;refine u<|sx [0] (zT a b c d o.1 o.2 m Q)<|zu (env0:=[]) (st0:=(sR a b c d B.1 B.2 [])) (zm [0])<|zw ?_;cases h;exact ⟨_,y,Xc [0]⟩
  .refine A ?_;apply Xa h y<;>intro H h
   .obtain ⟨i,R,h⟩:=bs h;refine rg y<|u<|mv y<|u<|sx [0] (GM a b c d e f R)<|zu (env0:=[(0,.mpt 0 0 0),(41,sA i.1)]) (st0:=(sR a b c d i.2.1 i.2.2 [])) (zm [0])<|A ?_;obtain ⟨v,q17,h⟩:=bs h;refine A ?_;refine u<|sx [0] (zr a b c d i.2.1 i.2.2 v y)<|zu (env0:=[(0,.mpt 0 0 0)]) (st0:=(sR a b c d i.2.1 (i.2.2||(!v)) [])) (zm [0])<|zw ?_;obtain ⟨C,S,h⟩:=bs h;refine rl y<|u<|mv y<|u<|sx [0] (zT a b c d i.2.1 (i.2.2||(!v)) [73] S)<|zu (env0:=[]) (st0:=(sR a b c d C.1 C.2 [])) (zm [0])<|zw ?_;cases h;exact ⟨_,y,Xc [0]⟩
   .refine A ?_;apply Xa h y<;>intro I h
    .obtain ⟨p,T,h⟩:=bs h;refine A ?_;refine zu (env0:=[(0,.mpt 0 0 0),(60,.mpt 0 0 0),(61,tL ([[91,73],[73]]))]) (st0:=(sR a b c d e f [])) (zm [0])<|u<|sx [0] (Kh a b c d e f ([[91,73],[73]]) T)<|zu (env0:=[(0,.mpt 0 0 0)]) (st0:=(sR a b c d p.1 p.2 [])) (zm [0])<|zw ?_;obtain ⟨D,U,h⟩:=bs h;refine rl y<|u<|mv y<|u<|sx [0] (zT a b c d p.1 p.2 [73] U)<|zu (env0:=[]) (st0:=(sR a b c d D.1 D.2 [])) (zm [0])<|zw ?_;cases h;exact ⟨_,y,Xc [0]⟩
    .refine A ?_;apply Xa h y<;>intro J h
     .obtain ⟨E,V,h⟩:=bs h;refine A ?_;refine zu (env0:=[(67,.mpt 0 0 0),(68,tL ([[91,73],[73],[73]]))]) (st0:=(sR a b c d e f [])) (zm [0])<|u<|sx [0] (Kh a b c d e f ([[91,73],[73],[73]]) V)<|zu (env0:=[]) (st0:=(sR a b c d E.1 E.2 [])) (zm [0])<|zw ?_;cases h;exact ⟨_,y,Xc [0]⟩
     .refine A ?_;apply Xa h y<;>intro K h
      .obtain ⟨q,W,h⟩:=bs h;refine A ?_;refine zu (env0:=[(0,.mpt 0 0 0),(72,.mpt 0 0 0),(73,tL ([[73]]))]) (st0:=(sR a b c d e f [])) (zm [0])<|u<|sx [0] (Kh a b c d e f ([[73]]) W)<|zu (env0:=[(0,.mpt 0 0 0)]) (st0:=(sR a b c d q.1 q.2 [])) (zm [0])<|zw ?_;obtain ⟨j,X,F,Y,h⟩:=bs2 h;refine rl y<|u<|mv y<|u<|mv y<|u<|sx [0] (zkE a b c d q.1 q.2 X)<|zu (env0:=[(75,.mpt 0 0 0),(77,sA j.1)]) (st0:=(sR a b c d j.2.1 j.2.2 [])) (zm [0])<|u<|sx [0] (zT a b c d j.2.1 j.2.2 j.1 Y)<|zu (env0:=[]) (st0:=(sR a b c d F.1 F.2 [])) (zm [0])<|zw ?_;cases h;exact ⟨_,y,Xc [0]⟩
      .refine A ?_;apply Xa h y<;>intro L h
       .obtain ⟨l,Z,h⟩:=bs h;refine rg y<|u<|mv y<|u<|sx [0] (Bu a b c d e f Z)<|zu (env0:=[(0,.mpt 0 0 0)]) (st0:=(sR a b c d l.2.1 l.2.2 [])) (zm [0])<|zw ?_;obtain ⟨s,q30,h⟩:=bs h;refine A ?_;refine zu (env0:=[(0,.mpt 0 0 0),(83,.mpt 0 0 0),(84,tL ([[73]]))]) (st0:=(sR a b c d l.2.1 l.2.2 [])) (zm [0])<|u<|sx [0] (Kh a b c d l.2.1 l.2.2 ([[73]]) q30)<|zu (env0:=[(0,.mpt 0 0 0)]) (st0:=(sR a b c d s.1 s.2 [])) (zm [0])<|zw ?_;obtain ⟨G,q31,h⟩:=bs h;refine rl y<|u<|mv y<|u<|sx [0] (zkE a b c d s.1 s.2 q31)<|zu (env0:=[]) (st0:=(sR a b c d G.2.1 G.2.2 [])) (zm [0])<|zw ?_;cases h;exact ⟨_,y,Xc [0]⟩
       .refine zc ?_;cases h;exact ⟨_,y,Xc [0]⟩
def BN(f:List za)(i:T0)(j:zb)(b:T1)(d:T1)(l:zs)(a:Bool):Option (T1×T1×Bool):=
  cond (!a) ((idx b l.A).bind λe=>(zX f i j b d a e).bind λc=>some (b,c.1,c.2)) (some (b,d,a))
def zet(f:List za)(i:T0)(j:zb)(b:T1)(c:T1)(d:Bool)(e:Bool):Option (T1×T1×Bool):=
  cond e ((z6 f i j b c d ([[73]])).bind λa=>some (b,a.1,a.2)) (some (b,c,d))
def zZ(d:List za)(e:T0)(c:zb)(a:T1)(f:T1)(i:Bool)(b:zs):Option (T1×T1×Bool):=
  cond (b.Op == 1) ((zX d e c a f i [73]).bind λK=>some (a,K.1,K.2)) (cond (b.Op == 2) ((zX d e c a f i [78]).bind λL=>some (a,L.1,L.2)) (cond (b.Op == 3) (cond (decide (b.A<(length a:Int))) ((idx a (if (i64.wrap ((length a:Int)-1))<b.A then (i64.wrap ((length a:Int)-1)) else b.A)).bind λM=>BN d e c a f b (i||(!(!(M == [84]))))) (BN d e c a f b (i||(!false)))) (cond (b.Op == 4) ((Kg d e c a f i).bind λl=>cond (!(l.2.2||(!(decide (b.A<(length a:Int)))))) ((DX (GG.mk a l.2.1)).bind λn=>(idx n.1 b.A).bind λR=>some ((List.set n.1 (Int.toNat b.A) l.1),n.2,(l.2.2||(!(decide (b.A<(length a:Int))))))) (some (a,l.2.1,(l.2.2||(!(decide (b.A<(length a:Int)))))))) (cond (b.Op == 5) ((Kg d e c a f i).bind λs=>some (a,s.2.1,s.2.2)) (cond (b.Op == 6) ((Kg d e c a f i).bind λm=>(zX d e c a m.2.1 m.2.2 m.1).bind λv=>(zX d e c a v.1 v.2 m.1).bind λx=>some (a,x.1,x.2)) (cond (b.Op == 7) ((Kg d e c a f i).bind λo=>(Kg d e c a o.2.1 o.2.2).bind λp=>(zX d e c a p.2.1 p.2.2 o.1).bind λB=>(zX d e c a B.1 B.2 p.1).bind λD=>some (a,D.1,D.2)) (cond (b.Op == 46) (some (a,f,(i||(!(c.Ret == [86]))))) (cond (b.Op == 47) ((z6 d e c a f i ([[73]])).bind λE=>some (a,E.1,(E.2||(!(c.Ret == [73]))))) (cond (b.Op == 48) ((Hm d e c a f i).bind λj=>cond (!(c.Ret == [86])) (cond (!(c.Ret == [73])) ((H1 d j.1 c.Ret).bind λN=>some (a,j.2.1,(j.2.2||(!N)))) (some (a,j.2.1,(j.2.2||(!false))))) (some (a,j.2.1,(j.2.2||(!false))))) (cond (b.Op == 56) ((Hm d e c a f i).bind λF=>(zP d b.C).bind λO=>(zX d e c a F.2.1 (F.2.2||(!O)) b.C).bind λG=>some (a,G.1,G.2)) (cond (b.Op == 57) ((Hm d e c a f i).bind λH=>(zP d b.C).bind λP=>(zX d e c a H.2.1 (H.2.2||(!P)) [73]).bind λI=>some (a,I.1,I.2)) (cond (b.Op == 58) ((Kg d e c a f i).bind λq=>(H1 d q.1 [84,104,114,111,119,110]).bind λQ=>some (a,q.2.1,(q.2.2||(!Q)))) (cond (b.Op == 59) ((zX d e c a f i [73]).bind λJ=>some (a,J.1,J.2)) (cond (b.Op == 60) (zet d e c a f i (b.Op == 60)) (zet d e c a f i (b.Op == 61))))))))))))))))
theorem zo7(d:List za)(e:T0)(a:zb)(c:T1)(f:T1)(i:Bool)(m:zs){r:T1×T1×Bool}(h:zZ d e a c f i m=some r):SC prog 298 [.mpt 0 0 0,.agg (zt m)] (tR d e a c f i []) (.tup []) (tR d e a r.1 r.2.1 r.2.2 []):=by
 refine ⟨⟨t,t⟩,zR func298 y kz y ?_⟩;refine A ?_;refine A ?_;refine zh<|A ?_;apply Xa h y<;>intro hc1 h
 .obtain ⟨v8,q2,h⟩:=bs h;refine rl y<|u<|mv y<|u<|sx [0] (zT d e a c f i [73] q2)<|zu (env0:=[]) (st0:=(sR d e a c v8.1 v8.2 [])) (zm [0])<|zw ?_;cases h;exact ⟨_,y,Xc [0]⟩
 .refine A ?_;apply Xa h y<;>intro hc3 h
  .obtain ⟨v9,q4,h⟩:=bs h;refine rl y<|u<|mv y<|u<|sx [0] (zT d e a c f i [78] q4)<|zu (env0:=[]) (st0:=(sR d e a c v9.1 v9.2 [])) (zm [0])<|zw ?_;cases h;exact ⟨_,y,Xc [0]⟩
  .refine A ?_;apply Xa h y<;>intro hc5 h
   .refine Xz (X:=Bool) (λz=>[(0,.mpt 0 0 0),(3,.mpt 1 0 0)]) (λz=>(sR d e a c f z [some (4,[(zt m)])])) (λz=>BN d e a c f m z=some r) ?_ ?_
    .rcases bb (decide (m.A<(length c:Int))) with B |B
     .replace h:=bT B h;obtain ⟨I,q7,h⟩:=bs h;exact rdQ [30] [0,1,2,3,4,5,6,7,8,9,10,11,12,13,14,15,16,17,18,19,20,21,22,23,24,25,26,27,28,29] [(50,_),(49,_),(48,_),(47,_),(46,_),(45,_),(44,_),(43,_),(42,_),(41,_),(40,_),(39,_),(38,_),(37,_),(36,_),(35,_),(34,_),(33,_),(32,_),(31,_),(30,_),(29,_),(28,_),(27,_),(26,_),(25,_),(24,_),(23,_),(22,_),(21,_)] 1 (Xi ⟨peC,peC,peC,peC,peC,peC,peC,peC,peC,peC,peC,peC,peC,peC,peC,peC,peC,peC,peC,peC,peC,peC,peC,peC,peC,(by exact λ_=>pag (b:=(decide (m.A<(length c:Int)))) y y y y B y (mnI y y<|w)),peC,peC,peC,peC,t⟩ (by exact ⟨(λ_ _=>⟨_,y,y,sc [0] (args:=[.mpt 0 0 0,bA (!(I == [84]))]) (zr d e a c f i (!(I == [84])) y) y y y y ⟨(.mpt y),(rnI y),t⟩ ⟨⟨_,y,(Uq y)⟩,t⟩<|⟨(.tup []),[],[(51,_)],y,y,y,y,Xl ⟨peC,peC,peC,peC,peC,peC,peC,peC,peC,peC,peC,peC,peC,peC,peC,peC,peC,peC,peC,peC,peC,peC,peC,peC,peC,(by exact λ_=>pag (b:=(decide (m.A<(length c:Int)))) y y y y B y (mnI y y<|w)),peC,peC,peC,peC,t⟩ (by exact ⟨(i||(!(!(I == [84])))),h,Xb [0,1]⟩)⟩⟩),t⟩))
     .replace h:=bF B h;exact rdQ [30] [0,1,2,3,4,5,6,7,8,9,10,11,12,13,14,15,16,17,18,19,20,21,22,23,24,25,26,27,28,29] [(50,_),(49,_),(48,_),(47,_),(46,_),(45,_),(44,_),(43,_),(42,_),(41,_),(40,_),(39,_),(38,_),(37,_),(36,_),(35,_),(34,_),(33,_),(32,_),(31,_),(30,_),(29,_),(28,_),(27,_),(26,_),(25,_),(24,_),(23,_),(22,_),(21,_)] 1 (Xi (z:=by exact ⟨(λ_ _=>⟨_,y,y,sc [0] (args:=[.mpt 0 0 0,bA false]) (zr d e a c f i false y) y y y y ⟨(.mpt y),(rnI y),t⟩ ⟨⟨_,y,(Uq y)⟩,t⟩<|⟨(.tup []),[],[(51,_)],y,y,y,y,Xl (z:=by exact ⟨(i||(!false)),h,Xb [0,1]⟩)⟩⟩),t⟩))
    .rintro v11 h;refine A ?_;apply Xa h y<;>intro hc8 h
     .obtain ⟨v12,q9,M,q10,h⟩:=bs2 h;refine XC [] (sR d e a c M.1 M.2 []) [10] [0,1,2,3,4,5,6,7,8,9] [(66,_),(65,_),(64,_),(63,_),(62,_),(61,_),(60,_),(59,_),(58,_),(57,_)] 1 (Xi (z:=by exact ⟨(λ_ _=>⟨_,y,y,sx [0] (zT d e a c f v11 v12 q10)<|⟨(.tup []),[],[(67,_)],y,y,y,y,Xl (z:=Xb [0])⟩⟩),t⟩)) ?_;cases h;exact ⟨_,y,Xc [0]⟩
     .refine zc ?_;cases h;exact ⟨_,y,Xc [0]⟩
   .refine A ?_;apply Xa h y<;>intro V h
    .obtain ⟨l,q12,h⟩:=bs h;refine rg y<|u<|mv y<|u<|sx [0] (GM d e a c f i q12)<|zu (env0:=[(0,.mpt 0 0 0),(3,.mpt 1 0 0),(71,sA l.1)]) (st0:=(sR d e a c l.2.1 l.2.2 [some (4,[(zt m)])])) (zm [0,1])<|A ?_;refine rdA [(0,_),(3,_),(4,_)] (sR d e a c l.2.1 (l.2.2||(!(decide (m.A<(length c:Int))))) [some (4,[(zt m)])]) [10] [0,1,2,3,4,5,6,7,8,9] [(81,_),(80,_),(79,_),(78,_),(77,_),(76,_),(75,_),(74,_),(73,_),(72,_)] 1 (Xi (z:=by exact ⟨(λ_ _=>⟨_,y,y,sx [0] (zr d e a c l.2.1 l.2.2 (decide (m.A<(length c:Int))) y)<|⟨(.tup []),[],[(82,_)],y,y,y,y,Xl (z:=Xb [0,1])⟩⟩),t⟩)) ?_;refine A ?_;apply Xa h y<;>intro W h
     .obtain ⟨v,q14,h⟩:=bs h;refine A ?_;refine u<|sx [] (zjI (GG.mk c l.2.1) q14)<|zu (env0:=[(0,.mpt 0 0 0),(3,.mpt 1 0 0),(4,sA l.1),(88,.mpt 0 0 0),(93,.agg [.msl 2 0 (length v.1),.msl 3 0 (length v.2)])]) (st0:=(sR d e a c l.2.1 (l.2.2||(!(decide (m.A<(length c:Int))))) [some (4,[(zt m)]),sT v.1,sT v.2])) (zm [0,1,2,3])<|A ?_;obtain ⟨v16,q15,h⟩:=bs h;refine XC [] (sR d e a (List.set v.1 (Int.toNat m.A) l.1) v.2 (l.2.2||(!(decide (m.A<(length c:Int))))) []) [9] [0,1,2,3,4,5,6,7,8] [(104,_),(103,_),(102,_),(101,_),(100,_),(99,_),(98,_),(97,_),(96,_)] 1 (Xi (z:=by exact ⟨(λ_ _=>⟨_,y,y,BX (c':=l.1) ti y y (zQ q15).2.2 y y y y y<|⟨.any,[],[],y,y,y,t,Xl (z:=by exact ⟨[0],cn,y,⟨⟨_,y,Ze (GQ y (by exact ⟨zHZ (by simp) y y (λ_=>y),ZI y y (λ_=>y),ci y,t⟩))⟩,t⟩,y,k⟩)⟩⟩),t⟩)) ?_;cases h;exact ⟨_,y,Xc [0]⟩
     .refine zc ?_;cases h;exact ⟨_,y,Xc [0]⟩
    .refine A ?_;apply Xa h y<;>intro Y h
     .obtain ⟨N,q17,h⟩:=bs h;refine rl y<|u<|mv y<|u<|sx [0] (GM d e a c f i q17)<|zu (env0:=[]) (st0:=(sR d e a c N.2.1 N.2.2 [])) (zm [0])<|zw ?_;cases h;exact ⟨_,y,Xc [0]⟩
     .refine A ?_;apply Xa h y<;>intro Z h
      .obtain ⟨n,q19,h⟩:=bs h;refine rg y<|u<|mv y<|u<|sx [0] (GM d e a c f i q19)<|zu (env0:=[(0,.mpt 0 0 0),(112,sA n.1)]) (st0:=(sR d e a c n.2.1 n.2.2 [])) (zm [0])<|A ?_;obtain ⟨G,q20,h⟩:=bs h;refine rg y<|u<|mv y<|u<|mv y<|u<|sx [0] (zT d e a c n.2.1 n.2.2 n.1 q20)<|zu (env0:=[(0,.mpt 0 0 0),(5,sA n.1)]) (st0:=(sR d e a c G.1 G.2 [])) (zm [0])<|zw ?_;obtain ⟨O,q21,h⟩:=bs h;refine rl y<|u<|mv y<|u<|mv y<|u<|sx [0] (zT d e a c G.1 G.2 n.1 q21)<|zu (env0:=[]) (st0:=(sR d e a c O.1 O.2 [])) (zm [0])<|zw ?_;cases h;exact ⟨_,y,Xc [0]⟩
      .refine A ?_;apply Xa h y<;>intro hc22 h
       .obtain ⟨q,q23,s,q24,h⟩:=bs2 h;refine rg y<|u<|mv y<|u<|sx [0] (GM d e a c f i q23)<|zu (env0:=[(0,.mpt 0 0 0),(122,sA q.1)]) (st0:=(sR d e a c q.2.1 q.2.2 [])) (zm [0])<|u<|mv y<|u<|sx [0] (GM d e a c q.2.1 q.2.2 q24)<|zu (env0:=[(0,.mpt 0 0 0),(122,sA q.1),(124,sA s.1)]) (st0:=(sR d e a c s.2.1 s.2.2 [])) (zm [0])<|A ?_;obtain ⟨H,q25,h⟩:=bs h;refine rg y<|u<|mv y<|u<|mv y<|u<|sx [0] (zT d e a c s.2.1 s.2.2 q.1 q25)<|zu (env0:=[(0,.mpt 0 0 0),(7,sA s.1)]) (st0:=(sR d e a c H.1 H.2 [])) (zm [0])<|zw ?_;obtain ⟨P,q26,h⟩:=bs h;refine rl y<|u<|mv y<|u<|mv y<|u<|sx [0] (zT d e a c H.1 H.2 s.1 q26)<|zu (env0:=[]) (st0:=(sR d e a c P.1 P.2 [])) (zm [0])<|zw ?_;cases h;exact ⟨_,y,Xc [0]⟩
       .refine A ?_;apply Xa h y<;>intro hc27 h
        .refine A ?_;refine u<|sx [0] (zr d e a c f i (a.Ret == [86]) y)<|zu (env0:=[]) (st0:=(sR d e a c f (i||(!(a.Ret == [86]))) [])) (zm [0])<|zw ?_;cases h;exact ⟨_,y,Xc [0]⟩
        .refine A ?_;apply Xa h y<;>intro hc28 h
         .obtain ⟨x,q29,h⟩:=bs h;refine A ?_;refine zu (env0:=[(0,.mpt 0 0 0),(143,.mpt 0 0 0),(144,tL ([[73]]))]) (st0:=(sR d e a c f i [])) (zm [0])<|u<|sx [0] (Kh d e a c f i ([[73]]) q29)<|zu (env0:=[(0,.mpt 0 0 0)]) (st0:=(sR d e a c x.1 x.2 [])) (zm [0])<|zw ?_;refine A ?_;refine u<|sx [0] (zr d e a c x.1 x.2 (a.Ret == [73]) y)<|zu (env0:=[]) (st0:=(sR d e a c x.1 (x.2||(!(a.Ret == [73]))) [])) (zm [0])<|zw ?_;cases h;exact ⟨_,y,Xc [0]⟩
         .refine A ?_;apply Xa h y<;>intro hc30 h
          .obtain ⟨j,q31,h⟩:=bs h;refine rg y<|u<|mv y<|u<|sx [0] (Bu d e a c f i q31)<|zu (env0:=[(0,.mpt 0 0 0),(157,sA j.1)]) (st0:=(sR d e a c j.2.1 j.2.2 [])) (zm [0])<|A ?_
           rcases bb (!(a.Ret == [86])) with E |E
           .replace h:=bT E h
            rcases bb (!(a.Ret == [73])) with F |F
            .replace h:=bT F h;obtain ⟨J,q34,h⟩:=bs h;refine XC [] (sR d e a c j.2.1 (j.2.2||(!J)) []) [28] [0,1,2,3,4,5,6,7,8,9,10,11,12,13,14,15,16,17,18,19,20,21,22,23,24,25,26,27] [(185,_),(184,_),(183,_),(182,_),(181,_),(180,_),(179,_),(178,_),(177,_),(176,_),(175,_),(174,_),(173,_),(172,_),(171,_),(170,_),(169,_),(168,_),(167,_),(166,_),(165,_),(164,_),(163,_),(162,_),(161,_),(160,_),(159,_),(158,_)] 1 (Xi (z:=by exact ⟨(λ_ _=>⟨_,y,y,sc [0] (args:=[.mpt 0 0 0,bA J]) (zr d e a c j.2.1 j.2.2 J y) y y y y ⟨(.mpt y),(rnI y),t⟩ ⟨⟨_,y,(Uq y)⟩,t⟩<|⟨(.tup []),[],[(186,_)],y,y,y,y,Xl (z:=Xb [0])⟩⟩),t⟩)) ?_;cases h;exact ⟨_,y,Xc [0]⟩
            .replace h:=bF F h;refine XC [] (sR d e a c j.2.1 (j.2.2||(!false)) []) [28] [0,1,2,3,4,5,6,7,8,9,10,11,12,13,14,15,16,17,18,19,20,21,22,23,24,25,26,27] [(185,_),(184,_),(183,_),(182,_),(181,_),(180,_),(179,_),(178,_),(177,_),(176,_),(175,_),(174,_),(173,_),(172,_),(171,_),(170,_),(169,_),(168,_),(167,_),(166,_),(165,_),(164,_),(163,_),(162,_),(161,_),(160,_),(159,_),(158,_)] 1 (Xi (z:=by exact ⟨(λ_ _=>⟨_,y,y,sc [0] (args:=[.mpt 0 0 0,bA false]) (zr d e a c j.2.1 j.2.2 false y) y y y y ⟨(.mpt y),(rnI y),t⟩ ⟨⟨_,y,(Uq y)⟩,t⟩<|⟨(.tup []),[],[(186,_)],y,y,y,y,Xl (z:=Xb [0])⟩⟩),t⟩)) ?_;cases h;exact ⟨_,y,Xc [0]⟩
           .replace h:=bF E h;refine XC [] (sR d e a c j.2.1 (j.2.2||(!false)) []) [28] [27,26,25,24,23,22,21,20,19,18,17,16,15,14,13,12,11,10,9,8,7,6,5,4,3,2,1,0] [(185,bA false),(184,.lit undef),(183,.lit undef),(182,.lit undef),(181,.lit undef),(180,.lit undef),(179,.lit undef),(178,.lit undef),(177,.lit undef),(176,.lit undef),(175,.lit undef),(174,.lit undef),(173,bA false),(172,bA false),(171,.lit undef),(170,.lit undef),(169,.lit undef),(168,.lit undef),(167,.lit undef),(166,.lit undef),(165,bA (!(a.Ret == [86]))),(164,bA (!(a.Ret == [86]))),(163,sA a.Ret),(162,.mpt 0 0 4),(161,.mpt 0 0 2),(160,.mpt 0 0 0),(159,.mpt 0 0 0),(158,.mpt 0 0 0)] 1 (ZQ ⟨pe,pe,pe,pe,pe,pe,pe,pe,pe,pe,pe,pe,pe,pe,pe,pe,pe,pe,pe,pe,pe,(pb y (sne ti y y w)),(pb y (ld ti y y w)),(pb y (fa ti y y y w)),(pb y (fa ti y y y w)),pe,pe,pe,t⟩ ⟨(λ_ _=>⟨_,y,y,sc [0] (args:=[.mpt 0 0 0,bA false]) (zr d e a c j.2.1 j.2.2 false y) y y y y ⟨(.mpt y),(rnI y),t⟩ ⟨⟨_,y,(Uq y)⟩,t⟩<|⟨(.tup []),[],[(186,.tup [])],y,y,kz,y,Ue ⟨pe,pe,pe,pe,pe,pe,pe,pe,pe,pe,pe,pe,pe,pe,pe,pe,pe,pe,pe,pe,pe,(pb y (sne ti y y w)),(pb y (ld ti y y w)),(pb y (fa ti y y y w)),(pb y (fa ti y y y w)),pe,pe,pe,t⟩ (zm [0])⟩⟩),t⟩) ?_;cases h;exact ⟨_,y,Xc [0]⟩
          .refine A ?_;apply Xa h y<;>intro hc35 h
           .obtain ⟨o,q36,h⟩:=bs h;refine rg y<|u<|mv y<|u<|sx [0] (Bu d e a c f i q36)<|zu (env0:=[(0,.mpt 0 0 0),(3,.mpt 1 0 0)]) (st0:=(sR d e a c o.2.1 o.2.2 [some (4,[(zt m)])])) (zm [0,1])<|zw ?_;obtain ⟨K,q37,h⟩:=bs h;refine rdA [(0,_),(3,_)] (sR d e a c o.2.1 (o.2.2||(!K)) [some (4,[(zt m)])]) [8] [0,1,2,3,4,5,6,7] [(198,_),(197,_),(196,_),(195,_),(194,_),(193,_),(192,_),(191,_)] 1 (Xi (z:=by exact ⟨(λ_ _=>⟨_,y,y,sx [0] (zr d e a c o.2.1 o.2.2 K y)<|⟨(.tup []),[],[(199,_)],y,y,y,y,Xl (z:=Xb [0,1])⟩⟩),t⟩)) ?_;obtain ⟨Q,q38,h⟩:=bs h;refine A ?_;refine u<|sx [0] (zT d e a c o.2.1 (o.2.2||(!K)) m.C q38)<|zu (env0:=[]) (st0:=(sR d e a c Q.1 Q.2 [])) (zm [0])<|zw ?_;cases h;exact ⟨_,y,Xc [0]⟩
           .refine A ?_;apply Xa h y<;>intro hc39 h
            .obtain ⟨p,q40,h⟩:=bs h;refine rg y<|u<|mv y<|u<|sx [0] (Bu d e a c f i q40)<|zu (env0:=[(0,.mpt 0 0 0),(3,.mpt 1 0 0)]) (st0:=(sR d e a c p.2.1 p.2.2 [some (4,[(zt m)])])) (zm [0,1])<|zw ?_;obtain ⟨L,q41,h⟩:=bs h;refine rdA [(0,_)] (sR d e a c p.2.1 (p.2.2||(!L)) []) [8] [0,1,2,3,4,5,6,7] [(215,_),(214,_),(213,_),(212,_),(211,_),(210,_),(209,_),(208,_)] 1 (Xi (z:=by exact ⟨(λ_ _=>⟨_,y,y,sx [0] (zr d e a c p.2.1 p.2.2 L y)<|⟨(.tup []),[],[(216,_)],y,y,y,y,Xl (z:=Xb [0])⟩⟩),t⟩)) ?_;obtain ⟨R,q42,h⟩:=bs h;refine rl y<|u<|mv y<|u<|sx [0] (zT d e a c p.2.1 (p.2.2||(!L)) [73] q42)<|zu (env0:=[]) (st0:=(sR d e a c R.1 R.2 [])) (zm [0])<|zw ?_;cases h;exact ⟨_,y,Xc [0]⟩
            .refine A ?_;apply Xa h y<;>intro hc43 h
             .obtain ⟨D,q44,S,q45,h⟩:=bs2 h;refine XC [] (sR d e a c D.2.1 (D.2.2||(!S)) []) [6,8] [0,1,2,3,4,5] [(226,_),(225,_),(224,_),(223,_),(222,_),(221,_)] 2 (Xi (z:=by exact ⟨(λ_ _=>⟨_,y,y,sx [0] (GM d e a c f i q44)<|⟨(sA D.1),[7],[(228,_),(227,_)],y,y,y,y,Xi (z:=by exact ⟨nv,(λ_ _=>⟨_,y,y,sx [0] (zr d e a c D.2.1 D.2.2 S y)<|⟨(.tup []),[],[(229,_)],y,y,y,y,Xl (z:=Xb [0])⟩⟩),t⟩)⟩⟩),nw,t⟩)) ?_;cases h;exact ⟨_,y,Xc [0]⟩
             .refine A ?_;apply Xa h y<;>intro hc46 h
              .obtain ⟨T,q47,h⟩:=bs h;refine rl y<|u<|mv y<|u<|sx [0] (zT d e a c f i [73] q47)<|zu (env0:=[]) (st0:=(sR d e a c T.1 T.2 [])) (zm [0])<|zw ?_;cases h;exact ⟨_,y,Xc [0]⟩
              .refine Xz (X:=Bool) (λz=>[(0,.mpt 0 0 0),(234,bA z)]) (λz=>(sR d e a c f i [])) (λz=>zet d e a c f i z=some r) ?_ ?_
               .refine A ?_;apply Xa h y<;>intro hc48 h
                .refine zc ?_;exact ⟨(m.Op == 60),h,zm [0]⟩
                .refine A ?_;exact (⟨(m.Op == 61),h,zm [0]⟩)
               .rintro v37 h;apply Xa h y<;>intro hc49 h
                .obtain ⟨U,q50,h⟩:=bs h;refine A ?_;refine zu (env0:=[(237,.mpt 0 0 0),(238,tL ([[73]]))]) (st0:=(sR d e a c f i [])) (zm [0])<|u<|sx [0] (Kh d e a c f i ([[73]]) q50)<|zu (env0:=[]) (st0:=(sR d e a c U.1 U.2 [])) (zm [0])<|zw ?_;cases h;exact ⟨_,y,Xc [0]⟩
                .refine zc ?_;cases h;exact ⟨_,y,Xc [0]⟩
def zes(e:List za)(f:T0)(i:zb)(b:T1)(c:T1)(d:Bool):Option (T1×T1×Bool):=
  (zX e f i b c d [73]).bind λa=>some (b,a.1,a.2)
def zn(c:List za)(d:T0)(e:zb)(b:T1)(f:T1)(i:Bool)(a:zs):Option (T1×T1×Bool):=
  cond ((decide (8≤a.Op))&&(decide (a.Op≤19))) ((z6 c d e b f i ([[73]])).bind λl=>cond (!(a.Op == 13)) ((z6 c d e b l.1 l.2 ([[73]])).bind λq=>zes c d e b q.1 q.2) (zes c d e b l.1 l.2)) (cond ((decide (21≤a.Op))&&(decide (a.Op≤36))) ((Br c d e b f i a).bind λm=>some (b,m.1,m.2)) (cond (a.Op == 20) ((Bs c d e b f i a.A b f).bind λs=>some (b,f,s)) (cond ((decide (37≤a.Op))&&(decide (a.Op≤41))) ((Bm c d e b f i a).bind λn=>some (b,n.1,n.2)) (cond ((decide (42≤a.Op))&&(decide (a.Op≤45))) ((EB c d e b f i a).bind λo=>some (b,o.1,o.2)) (cond ((decide (49≤a.Op))&&(decide (a.Op≤55))) ((Hr c d e b f i a).bind λp=>some (b,p.1,p.2)) ((zZ c d e b f i a).bind λj=>some (j.1,j.2.1,j.2.2)))))))
theorem zkG(a:List za)(b:T0)(c:zb)(d:T1)(e:T1)(f:Bool)(i:zs){r:T1×T1×Bool}(h:zn a b c d e f i=some r):SC prog 211 [.mpt 0 0 0,.agg (zt i)] (tR a b c d e f []) (.tup []) (tR a b c r.1 r.2.1 r.2.2 []):=by
 refine ⟨⟨t,t⟩,zR func211 y kz y ?_⟩;refine A ?_;refine zh<|A ?_;apply Xa h y<;>intro D h
 .obtain ⟨j,O,h⟩:=bs h;refine A ?_;refine zu (env0:=[(0,.mpt 0 0 0),(3,.mpt 1 0 0),(16,.mpt 0 0 0),(17,tL ([[73]]))]) (st0:=(sR a b c d e f [some (4,[(zt i)])])) (zm [0,1])<|u<|sx [0] (Kh a b c d e f ([[73]]) O)<|zu (env0:=[(0,.mpt 0 0 0),(3,.mpt 1 0 0)]) (st0:=(sR a b c d j.1 j.2 [some (4,[(zt i)])])) (zm [0,1])<|zw ?_;refine Xz (X:=T1×Bool) (λz=>[(0,.mpt 0 0 0)]) (λz=>(sR a b c d z.1 z.2 [])) (λz=>zes a b c d z.1 z.2=some r) ?_ ?_
  .refine A ?_;apply Xa h y<;>intro E h
   .obtain ⟨m,P,h⟩:=bs h;refine A ?_;exact zu (env0:=[(0,.mpt 0 0 0),(22,.mpt 0 0 0),(23,tL ([[73]]))]) (st0:=(sR a b c d j.1 j.2 [])) (zm [0])<|u<|sx [0] (Kh a b c d j.1 j.2 ([[73]]) P)<|zu (env0:=[(0,.mpt 0 0 0)]) (st0:=(sR a b c d m.1 m.2 [])) (zm [0])<|zw (⟨⟨m.1,m.2⟩,h,zm [0]⟩)
   .refine zc ?_;exact ⟨⟨j.1,j.2⟩,h,zm [0]⟩
  .rintro ⟨F,G⟩ h;obtain ⟨n,Q,h⟩:=bs h;refine rl y<|u<|mv y<|u<|sx [0] (zT a b c d F G [73] Q)<|zu (env0:=[]) (st0:=(sR a b c d n.1 n.2 [])) (zm [0])<|zw ?_;cases h;exact ⟨_,y,Xc [0]⟩
 .refine A ?_;apply Xa h y<;>intro H h
  .obtain ⟨o,R,h⟩:=bs h;refine A ?_;refine u<|sx [0] (zpN a b c d e f i R)<|zu (env0:=[]) (st0:=(sR a b c d o.1 o.2 [])) (zm [0])<|zw ?_;cases h;exact ⟨_,y,Xc [0]⟩
  .refine A ?_;apply Xa h y<;>intro v h
   .obtain ⟨I,J,h⟩:=bs h;refine XC [] (sR a b c d e I []) [13] [0,1,2,3,4,5,6,7,8,9,10,11,12] [(55,_),(54,_),(53,_),(52,_),(51,_),(50,_),(49,_),(48,_),(47,_),(46,_),(45,_),(44,_),(43,_)] 1 (Xi (z:=by exact ⟨(λ_ _=>⟨_,y,y,sx [0] (zgD a b c d e f i.A d e J)<|⟨(.tup []),[],[(56,_)],y,y,y,y,Xl (z:=Xb [0])⟩⟩),t⟩)) ?_;cases h;exact ⟨_,y,Xc [0]⟩
   .refine A ?_;apply Xa h y<;>intro x h
    .obtain ⟨p,K,h⟩:=bs h;refine A ?_;refine u<|sx [0] (zo5 a b c d e f i K)<|zu (env0:=[]) (st0:=(sR a b c d p.1 p.2 [])) (zm [0])<|zw ?_;cases h;exact ⟨_,y,Xc [0]⟩
    .refine A ?_;apply Xa h y<;>intro B h
     .obtain ⟨q,L,h⟩:=bs h;refine A ?_;refine u<|sx [0] (zpL a b c d e f i L)<|zu (env0:=[]) (st0:=(sR a b c d q.1 q.2 [])) (zm [0])<|zw ?_;cases h;exact ⟨_,y,Xc [0]⟩
     .refine A ?_;apply Xa h y<;>intro C h
      .obtain ⟨s,M,h⟩:=bs h;refine A ?_;refine u<|sx [0] (zoo a b c d e f i M)<|zu (env0:=[]) (st0:=(sR a b c d s.1 s.2 [])) (zm [0])<|zw ?_;cases h;exact ⟨_,y,Xc [0]⟩
      .obtain ⟨l,N,h⟩:=bs h;refine A ?_;refine u<|sx [0] (zo7 a b c d e f i N)<|zu (env0:=[]) (st0:=(sR a b c l.1 l.2.1 l.2.2 [])) (zm [0])<|zw ?_;cases h;exact ⟨_,y,Xc [0]⟩
def zk3(c:T1)(d:T1)(a:Bool)(b:Bool):Option (Bool):=
  some ((!a)&&(!b))
def ze0(i:T0)(j:zq)(b:zb)(l:Bool)(c:Int)(m:zV×Bool)(n:Bool)(d:T1)(e:T1):zL (T1×T1×Bool×Bool×Int) (T1×T1×Bool×Bool) (Bool):=
  (D6 j.L i b d e (n||(!(m.2||l))) c).bind λo=>(idx b.Code c).bind λp=>(zn j.L i b d e o p).bind λa=>(idx b.Code c).bind λf=>some (.inl (a.1,a.2.1,a.2.2,(!(HN f.Op)),(i64.wrap (c+1))))
def EZ(i:T0)(j:zq)(b:zb)(l:T1)(m:T1)(c:Bool)(d:Int)(a:zV×Bool)(e:Bool):zL (T1×T1×Bool×Bool×Int) (T1×T1×Bool×Bool) (Bool):=
  cond a.2 ((DX (GG.mk a.1.Locals a.1.Stack)).bind λf=>ze0 i j b c d a e f.1 f.2) (ze0 i j b c d a e l m)
def Hn(j:T0)(l:zq)(c:zb)(a:T1)(b:T1)(d:Bool)(f:Bool)(e:Int):zL (T1×T1×Bool×Bool×Int) (T1×T1×Bool×Bool) (Bool):=
  cond ((decide (e<(length c.Code:Int)))&&(!d)) ((Bl l.L j c a b d e).bind λi=>cond (i.2&&f) ((Bs l.L j c a b d e a b).bind λm=>EZ j l c a b f e i m) (EZ j l c a b f e i d)) (some (.inr (.inl (a,b,d,f))))
def zlK(f:T0)(e:zq)(a:zb)(c:Bool):Option (Bool):=
  (cond (a.Ret == [86]) (some true) ((zP e.L a.Ret).bind λi=>some i)).bind λd=>(zgj e.L f a [] [] (c||(!d))).bind λj=>(zk (λz=>Hn f e a z.1 z.2.1 z.2.2.1 z.2.2.2.1 z.2.2.2.2) (j,[],(c||(!d)),true,0)).bind λo=>zB o (λb=>zk3 b.1 b.2.1 b.2.2.1 b.2.2.2) some
def E6(f:zq)(b:zb)(c:Bool)(a:Int):zL (Bool×Int) (Bool) (Bool):=
  cond (decide (a<(length b.Params:Int))) ((idx b.Params a).bind λd=>(zP f.L d).bind λe=>some (.inl ((c||(!e)),(i64.wrap (a+1))))) (some (.inr (.inl c)))
def zi4(e:T0)(c:zq)(a:zb)(d:Bool):Option (Bool):=
  (zk (λz=>E6 c a z.1 z.2) (d,0)).bind λo=>zB o (λb=>zlK e c a b) some
def zqG(a:Int)(b:Bool):zL (Bool×Int) (Bool) (Bool):=
  some (.inl (b,(i64.wrap (a+1))))
def E7(m:zq)(b:T1)(c:Bool)(a:Int):zL (Bool×Int) (Bool) (Bool):=
  cond (decide (a<((length b):Int))) ((idx b a).bind λd=>(cond (d == [84]) (some true) ((idx b a).bind λe=>some (e == [78]))).bind λf=>(cond f (some true) ((idx b a).bind λi=>(zP m.L i).bind λj=>some j)).bind λl=>some (.inl ((c||(!l)),(i64.wrap (a+1))))) (some (.inr (.inl c)))
def Bx(l:zq)(c:zb)(d:Bool)(a:Int):zL (Bool×Int) (Bool) (Bool):=
  cond (decide (a<(length c.Maps:Int))) ((idx c.Maps a).bind λe=>(idx c.Maps a).bind λf=>(Xx 16 ([]:T1) e.Locals).bind λi=>(Xx 16 i f.Stack).bind λj=>(zk (λz=>E7 l j z.1 z.2) (d,0)).bind λo=>zB o (λb=>zqG a b) (λr=>some (.inr (.inr r)))) (some (.inr (.inl d)))
def zhu(l:Option zq)(f:T0)(c:Int):Option (Bool):=
  Zq l (none) (λa=>(zS a.L f).bind λd=>(cond ((decide (d<0))||(decide (c<0))) (some true) ((idx a.L d).bind λm=>some (decide ((length m.Methods:Int)≤c)))).bind λn=>(cond n (some true) ((idx a.L d).bind λp=>(idx p.Methods c).bind λq=>some q.Abstract)).bind λi=>cond i (some false) ((idx a.L d).bind λj=>(idx j.Methods c).bind λe=>(zk (λz=>Bx a e z.1 z.2) (false,0)).bind λo=>zB o (λb=>zi4 f a e b) some))
instance (P:Option zq)(d:T0)(Y:Int):PF prog 119 [Xy 1 Zw P,sA d,iA Y] (zhu P d Y) bA:=⟨λr h=>by
 refine zi func119 y kz y y ?_;unfold zhu at h
 rcases P with _ |c
 .replace h:=oeN h;cases h
 .replace h:=oeS h;refine A ?_;obtain ⟨v5,q1,h⟩:=bs h;refine rg y<|u<|mv y<|u<|mv y<|u<|pc (H3 c.L d q1) y y y<|u<|asg y<|zw ?_;refine ze ?_;obtain ⟨v7,q5,v10,q9,h⟩:=bs2 h;refine A ?_;apply Xa h y<;>intro Q h
  .refine A ?_;exact RT0
  .refine zc ?_;obtain ⟨v11,q11,a,q12,h⟩:=bs2 h;refine A ?_;refine ze<|A ?_;obtain ⟨o,ho,h⟩:=bs h;refine lpB ho (λz=>[(0,.ipt 1 [[cL c.L]] 0 0),(8,.mpt 0 0 0),(9,iA z.2)]) (λz=>[some (15,[(rK c.L d a (nS) (nS) (bA z.1))])]) (λb=>[(0,.ipt 1 [[cL c.L]] 0 0),(8,.mpt 0 0 0)]) (λb=>[some (15,[(rK c.L d a (nS) (nS) (bA b))])]) (pG f119 bA) (Xb [0]) ?_ ?_
   .rintro ⟨Z,m⟩ r h;refine ze<|A ?_;apply Xa h y<;>intro R h
    .refine zc<|ze<|zh ?_;obtain ⟨v38,B,v39,v,H,q39,n,q40,h⟩:=bs4 h;refine rdA [(0,.ipt 1 [[cL c.L]] 0 0),(8,.mpt 0 0 0),(9,iA m),(10,.msl 1 0 (length n))] [some (15,[(rK c.L d a (nS) (nS) (bA Z))]),sT n] [9,19] [18,17,16,15,14,13,12,11,10,8,7,6,5,4,3,2,1,0] [(96,tL v39.Stack),(95,.ipt 3 (map zO a.Maps) (Int.toNat m) 2),(94,.ipt 3 (map zO a.Maps) (Int.toNat m) 0),(93,iA m),(92,.isl 3 (map zO a.Maps)),(91,.mpt 0 0 10),(90,.mpt 0 0 2),(89,.mpt 0 0 0),(88,.mpt 0 0 0),(86,tL v38.Locals),(85,.ipt 3 (map zO a.Maps) (Int.toNat m) 1),(84,.ipt 3 (map zO a.Maps) (Int.toNat m) 0),(83,iA m),(82,.isl 3 (map zO a.Maps)),(81,.mpt 0 0 10),(80,.mpt 0 0 2),(79,.mpt 0 0 0),(78,.mpt 0 0 0)] 2 (ZQ ⟨(pb y (ldI ti y (zQ v).2.2 y w)),(pb y (fa ti y y y w)),(pb y (ixI ti y ti y y y v w)),pe,(pb y (ld ti y y w)),(pb y (fa ti y y y w)),(pb y (fa ti y y y w)),pe,pe,(pb y (ldI ti y (zQ B).2.2 y w)),(pb y (fa ti y y y w)),(pb y (ixI ti y ti y y y B w)),pe,(pb y (ld ti y y w)),(pb y (fa ti y y y w)),(pb y (fa ti y y y w)),pe,pe,t⟩ ⟨(λ_ _=>⟨_,y,y,apN (f:=Xf) 1 ti y ti y y (by decide) ti y y y roI (λ_=>y) y q39<|⟨(.msl 1 0 (length H)),[],[(87,.msl 1 0 (length H))],y,y,kz,y,ZQ ⟨(pb y (ldI ti y (zQ v).2.2 y w)),(pb y (fa ti y y y w)),(pb y (ixI ti y ti y y y v w)),pe,(pb y (ld ti y y w)),(pb y (fa ti y y y w)),(pb y (fa ti y y y w)),pe,pe,pe,(pb y (fa ti y y y w)),(pb y (ixI ti y ti y y y B w)),pe,(pb y (ld ti y y w)),(pb y (fa ti y y y w)),(pb y (fa ti y y y w)),pe,pe,t⟩ ⟨nv,(λ_ _=>⟨_,y,y,apM 2 ti y ti y y (by decide) ti y y y y roI (λ_=>y) y q40<|⟨(.msl 2 0 (length n)),[20],[(10,.msl 2 0 (length n)),(97,.msl 2 0 (length n))],y,y,kz,y,Ue ⟨pe,pe,(pb y (fa ti y y y w)),(pb y (ixI ti y ti y y y v w)),pe,(pb y (ld ti y y w)),(pb y (fa ti y y y w)),(pb y (fa ti y y y w)),pe,pe,pe,(pb y (fa ti y y y w)),(pb y (ixI ti y ti y y y B w)),pe,(pb y (ld ti y y w)),(pb y (fa ti y y y w)),(pb y (fa ti y y y w)),pe,pe,t⟩ (zm [0,2])⟩⟩),t⟩⟩⟩),nw,t⟩) ?_;refine A ?_;obtain ⟨o,ho,h⟩:=bs h;refine lpS ho (λz=>[(0,.ipt 1 [[cL c.L]] 0 0),(8,.mpt 0 0 0),(9,iA m),(10,.msl 1 0 (length n)),(11,iA z.2)]) (λz=>[some (15,[(rK c.L d a (nS) (nS) (bA z.1))]),sT n]) (λb=>[(0,.ipt 1 [[cL c.L]] 0 0),(8,.mpt 0 0 0),(9,iA m)]) (λb=>[some (15,[(rK c.L d a (nS) (nS) (bA b))])]) (pG f119 bA) (Xb [0,1]) ?_ ?_ ?_
     .rintro ⟨I,v51⟩ r h;refine ze<|A ?_;apply Xa h y<;>intro S h
      .refine zc<|ze<|zh ?_;obtain ⟨v52,q51,v54,q54,J,q58,h⟩:=bs3 h;refine A ?_;refine u<|sx [0] (EY c.L d a I J y)<|zu (env0:=[(0,.ipt 1 [[cL c.L]] 0 0),(8,.mpt 0 0 0),(9,iA m),(10,.msl 1 0 (length n)),(11,iA v51)]) (st0:=[some (15,[(rK c.L d a (nS) (nS) (bA (I||(!J))))]),sT n]) (zm [0,1])<|zw ?_;refine A ?_;cases h;exact ⟨_,y,zm [0,1]⟩
      .refine zp ?_;cases h;exact ⟨y,_,y,zm [0]⟩
     .rintro v58 rfl;refine zl<|A ?_;cases h;exact ⟨_,y,zm [0]⟩
     .rintro r' rfl env st hp;cases h;exact ⟨_,y,hp⟩
    .refine zp ?_;cases h;exact ⟨y,_,y,zm [0]⟩
   .rintro v59 rfl;refine zl<|ze<|A ?_;obtain ⟨o,ho,h⟩:=bs h;refine lpB ho (λz=>[(0,.ipt 1 [[cL c.L]] 0 0),(8,.mpt 0 0 0),(12,iA z.2)]) (λz=>[some (15,[(rK c.L d a (nS) (nS) (bA z.1))])]) (λb=>[(0,.ipt 1 [[cL c.L]] 0 0),(8,.mpt 0 0 0)]) (λb=>[some (15,[(rK c.L d a (nS) (nS) (bA b))])]) (pG f119 bA) (Xb [0]) ?_ ?_
    .rintro ⟨K,v65⟩ r h;refine ze<|A ?_;apply Xa h y<;>intro T h
     .refine zc<|ze<|zh ?_;obtain ⟨v66,q63,M,q64,h⟩:=bs2 h;refine A ?_;refine u<|sx [0] (EY c.L d a K M y)<|zu (env0:=[(0,.ipt 1 [[cL c.L]] 0 0),(8,.mpt 0 0 0),(12,iA v65)]) (st0:=[some (15,[(rK c.L d a (nS) (nS) (bA (K||(!M))))])]) (zm [0])<|zw ?_;refine A ?_;cases h;exact ⟨_,y,zm [0]⟩
     .refine zp ?_;cases h;exact ⟨y,_,y,zm [0]⟩
    .rintro D rfl;refine zl ?_;obtain ⟨E,q67,h⟩:=bs h;refine A ?_;refine u<|sx [0] (EY c.L d a D E y)<|zu (env0:=[(8,.mpt 0 0 0)]) (st0:=[some (15,[(rK c.L d a (nS) (nS) (bA (D||(!E))))])]) (zm [0])<|zw ?_;obtain ⟨v71,q68,h⟩:=bs h;refine rg y<|u<|mv y<|ph 1<|ph 1<|u<|sc [0,1,2] (zkF c.L d a [] [] (D||(!E)) q68) y y y y ⟨(.mpt y),t⟩ ⟨⟨_,y,(KX y ⟨(.nil0 y),(.nil0 y),(rnI y),t⟩)⟩,⟨y,mkI (λ_=>y)⟩,⟨y,mkI (λ_=>y)⟩,t⟩<|zw ?_;refine A ?_;refine ze<|A ?_;obtain ⟨o,ho,h⟩:=bs h;refine lpB ho (λz=>[(8,.mpt 0 0 0),(13,bA z.2.2.2.1),(14,iA z.2.2.2.2)]) (λz=>(sR c.L d a z.1 z.2.1 z.2.2.1 [])) (λb=>[(8,.mpt 0 0 0),(13,bA b.2.2.2)]) (λb=>(sR c.L d a b.1 b.2.1 b.2.2.1 [])) (pG f119 bA) (Xb [0]) ?_ ?_
     .rintro ⟨j,l,C,p,i⟩ r h;refine ze<|A ?_;apply Xa h y<;>intro U h
      .refine zc<|ze<|zh ?_;obtain ⟨e,q84,h⟩:=bs h;refine rg y<|u<|mv y<|u<|mv y<|u<|sx [0] (zgk c.L d a j l C i q84)<|zu (env0:=[(8,.mpt 0 0 0),(13,bA p),(14,iA i),(187,.tup [.agg (zO e.1),bA e.2])]) (st0:=(sR c.L d a j l C [])) (zm [0])<|A ?_;refine Xz (X:=Bool) (λz=>[(8,.mpt 0 0 0),(13,bA p),(14,iA i),(15,.mpt 1 0 0),(16,bA e.2)]) (λz=>(sR c.L d a j l z [some (3,[(zO e.1)])])) (λz=>EZ d c a j l p i e z=some r) ?_ ?_
       .refine A ?_;apply Xa h y<;>intro V h
        .obtain ⟨N,q87,h⟩:=bs h;refine XC [(8,_),(13,_),(14,_),(15,_),(16,_)] (sR c.L d a j l N [some (3,[(zO e.1)])]) [12] [0,1,2,3,4,5,6,7,8,9,10,11] [(205,_),(204,_),(203,_),(202,_),(201,_),(200,_),(199,_),(198,_),(197,_),(196,_),(195,_),(194,_)] 1 (Xi (z:=by exact ⟨(λ_ _=>⟨_,y,y,sx [0] (zgD c.L d a j l C i j l q87)<|⟨(.tup []),[],[(206,_)],y,y,y,y,Xl (z:=Xb [0,1])⟩⟩),t⟩)) ?_;exact ⟨N,h,zm [0,1]⟩
        .refine zc ?_;exact ⟨C,h,zm [0,1]⟩
       .rintro q h;refine A ?_;refine u<|sx [0] (zr c.L d a j l q (e.2||p) y)<|zu (env0:=[(8,.mpt 0 0 0),(14,iA i),(15,.mpt 1 0 0),(16,bA e.2)]) (st0:=(sR c.L d a j l (q||(!(e.2||p))) [some (3,[(zO e.1)])])) (zm [0,1])<|zw ?_;refine Xz (X:=T1×T1) (λz=>[(8,.mpt 0 0 0),(14,iA i)]) (λz=>(sR c.L d a z.1 z.2 (q||(!(e.2||p))) [])) (λz=>ze0 d c a p i e q z.1 z.2=some r) ?_ ?_
        .refine A ?_;apply Xa h y<;>intro W h
         .obtain ⟨s,q90,h⟩:=bs h;refine A ?_;refine u<|sx [] (zjI (GG.mk e.1.Locals e.1.Stack) q90)<|zu (env0:=[(8,.mpt 0 0 0),(14,iA i),(214,.mpt 0 0 0),(220,.agg [.msl 1 0 (length s.1),.msl 2 0 (length s.2)])]) (st0:=(sR c.L d a j l (q||(!(e.2||p))) [sT s.1,sT s.2])) (zm [0,2,3])<|A ?_;exact (⟨⟨s.1,s.2⟩,h,zm [0]⟩)
         .refine zc ?_;exact ⟨⟨j,l⟩,h,zm [0]⟩
        .rintro ⟨F,G⟩ h;obtain ⟨O,q91,h⟩:=bs h;refine rg y<|u<|mv y<|u<|mv y<|u<|sx [0] (zkH c.L d a F G (q||(!(e.2||p))) i q91)<|zu (env0:=[(8,.mpt 0 0 0),(14,iA i)]) (st0:=(sR c.L d a F G O [])) (zm [0])<|zw ?_;obtain ⟨v99,q92,x,q93,h⟩:=bs2 h;refine A ?_;refine u<|sx [0] (zkG c.L d a F G O v99 q93)<|zu (env0:=[(8,.mpt 0 0 0),(14,iA i)]) (st0:=(sR c.L d a x.1 x.2.1 x.2.2 [])) (zm [0])<|zw ?_;obtain ⟨v101,q94,h⟩:=bs h;refine A ?_;refine A ?_;cases h;exact ⟨_,y,zm [0]⟩
      .refine zp ?_;cases h;exact ⟨y,_,y,zm [0]⟩
     .rintro ⟨v102,v103,v104,v105⟩ rfl;refine zl<|A ?_
      exact RT0⟩
def Bz(a:Bool):Option (Bool):=
  some a
def zjG(b:List za)(a:zs):Option (Bool):=
  (cond (!(a.C == [])) ((zP b a.C).bind λc=>some (!c)) (some false)).bind λd=>cond d (some false) (cond ((decide (38≤a.Op))&&(decide (a.Op≤41))) ((zid b a.C a.M).bind λe=>Bz e.2.2) (cond ((decide (42≤a.Op))&&(decide (a.Op≤44))) ((EP b a.C a.M).bind λf=>cond f.2.2 ((zS b a.C).bind λi=>(idx b i).bind λj=>Bz (!j.Interface)) (Bz false)) (cond (a.Op == 45) ((ziO b a.C a.M).bind λl=>Bz l.2.2) (Bz true))))
instance (c:List za)(d:zs):PF prog 311 [.ipt 1 [[cL c]] 0 0,.agg (zt d)] (zjG c d) bA:=⟨λr h=>by
 refine zi func311 y kz y y<|A ?_;refine ze ?_;obtain ⟨x,B,h⟩:=bs h;refine A ?_;apply Xa h y<;>intro e h
 .refine A ?_;exact RT0
 .refine zc<|A ?_;refine Xz (X:=Bool) (λz=>[(5,bA z)]) (λz=>[]) (λz=>Bz z=some r) ?_ ?_
  .refine zh<|A ?_;apply Xa h y<;>intro f h
   .obtain ⟨j,C,h⟩:=bs h;refine A ?_;exact (⟨j.2.2,h,zm []⟩)
   .refine A ?_;apply Xa h y<;>intro i h
    .obtain ⟨l,o,h⟩:=bs h;refine A ?_
     rcases bb l.2.2 with a |a
     .replace h:=bT a h;obtain ⟨D,p,m,q,h⟩:=bs2 h;refine XC [(5,_)] [] [] [0,1,2,3,4,5,6,7,8,9,10,11,12,13,14,15] [(5,_),(68,_),(67,_),(66,_),(65,_),(64,_),(63,_),(62,_),(61,_),(60,_),(59,_),(58,_),(57,_),(56,_),(55,_),(54,_)] 0 (Xl (z:=Xb [])) ?_;exact ⟨(!m.Interface),h,zm []⟩
     .replace h:=bF a h;refine XC [(5,_)] [] [] [0,1,2,3,4,5,6,7,8,9,10,11,12,13,14,15] [(5,_),(68,_),(67,_),(66,_),(65,_),(64,_),(63,_),(62,_),(61,_),(60,_),(59,_),(58,_),(57,_),(56,_),(55,_),(54,_)] 0 (Xl (z:=Xb [])) ?_;exact ⟨false,h,zm []⟩
    .refine A ?_;apply Xa h y<;>intro b h
     .obtain ⟨n,s,h⟩:=bs h;refine A ?_;exact (⟨n.2.2,h,zm []⟩)
     .refine zc ?_;exact ⟨true,h,zm []⟩
  .rintro v h;refine A ?_
   exact RT0⟩
def zqI:Option (Bool):=
  some true
def zlR(a:Int):zL (Int) (Unit) (Bool):=
  some (.inl (i64.wrap (a+1)))
def Ip(e:List za)(b:zb)(a:Int):zL (Int) (Unit) (Bool):=
  cond (decide (a<(length b.Code:Int))) ((idx b.Code a).bind λc=>(zjG e c).bind λd=>cond (!d) (some (.inr (.inr false))) (some (.inl (i64.wrap (a+1))))) (some (.inr (.inl ())))
def zlQ(d:List za)(a:Int)(c:zb):zL (Int) (Unit) (Bool):=
  (zk (λz=>Ip d c z) 0).bind λo=>zB o (λb=>zlR a) (λr=>some (.inr (.inr r)))
def Iq(i:List za)(b:zb)(a:Int):zL (Int) (Unit) (Bool):=
  cond (decide (a<(length b.Traps:Int))) ((idx b.Traps a).bind λc=>(cond (!(c.C == [])) ((idx b.Traps a).bind λd=>(zS i d.C).bind λe=>some (decide (e<0))) (some false)).bind λf=>cond f (some (.inr (.inr false))) (some (.inl (i64.wrap (a+1))))) (some (.inr (.inl ())))
def zlP(c:List za)(d:Int)(a:zb):zL (Int) (Unit) (Bool):=
  (zk (λz=>Iq c a z) 0).bind λo=>zB o (λb=>zlQ c d a) (λr=>some (.inr (.inr r)))
def ES(e:List za)(b:zb)(a:Int):zL (Int) (Unit) (Bool):=
  cond (decide (a<(length b.Params:Int))) ((idx b.Params a).bind λc=>(zP e c).bind λd=>cond (!d) (some (.inr (.inr false))) (some (.inl (i64.wrap (a+1))))) (some (.inr (.inl ())))
def Io(d:List za)(e:za)(c:Int):zL (Int) (Unit) (Bool):=
  cond (decide (c<(length e.Methods:Int))) ((idx e.Methods c).bind λa=>(cond (!(a.Ret == [86])) ((zP d a.Ret).bind λf=>some (!f)) (some false)).bind λi=>cond i (some (.inr (.inr false))) ((zk (λz=>ES d a z) 0).bind λo=>zB o (λb=>zlP d c a) (λr=>some (.inr (.inr r))))) (some (.inr (.inl ())))
def zmn(a:List za)(c:za):Option (Bool):=
  (zk (λz=>Io a c z) 0).bind λo=>zB o (λb=>zqI) some
def ET(c:List za)(b:za)(a:Int):zL (Int) (Unit) (Bool):=
  cond (decide (a<(length b.Fields:Int))) ((idx b.Fields a).bind λd=>(zP c d.Type_).bind λe=>cond (!e) (some (.inr (.inr false))) (some (.inl (i64.wrap (a+1))))) (some (.inr (.inl ())))
def zjH(a:List za)(c:za):Option (Bool):=
  (zk (λz=>ET a c z) 0).bind λo=>zB o (λb=>zmn a c) some
instance (a:List za)(c:za):PF prog 216 [.ipt 1 [[cL a]] 0 0,.agg (zf c)] (zjH a c) bA:=⟨λr h=>by
 refine zi func216 y kz y y<|A ?_;refine ze<|A ?_;obtain ⟨o,ho,h⟩:=bs h;refine lpB ho (λz=>[(0,.ipt 1 [[cL a]] 0 0),(3,.mpt 0 0 0),(5,iA z)]) (λz=>[some (6,[(zf c)])]) (λb=>[(0,.ipt 1 [[cL a]] 0 0),(3,.mpt 0 0 0)]) (λb=>[some (6,[(zf c)])]) (pG f216 bA) (Xb [0]) ?_ ?_
 .rintro S r h;refine ze<|A ?_;apply Xa h y<;>intro s h
  .refine zc<|ze<|zh ?_;obtain ⟨T,U,V,W,h⟩:=bs2 h;refine A ?_;apply Xa h y<;>intro v h
   .refine A ?_;refine zA ?_;cases h;exact ⟨_,y,_,y,Xc []⟩
   .refine zc<|A ?_;cases h;exact ⟨_,y,zm [0]⟩
  .refine zp ?_;cases h;exact ⟨y,_,y,zm [0]⟩
 .rintro ⟨⟩ rfl;refine zl<|ze<|A ?_;obtain ⟨o,ho,h⟩:=bs h;refine lpB ho (λz=>[(0,.ipt 1 [[cL a]] 0 0),(3,.mpt 0 0 0),(6,iA z)]) (λz=>[some (6,[(zf c)])]) (λb=>[]) (λb=>[]) (pG f216 bA) (Xb [0]) ?_ ?_
  .rintro d r h;refine ze<|A ?_;apply Xa h y<;>intro f h
   .refine zc<|ze<|zh ?_;obtain ⟨e,x,h⟩:=bs h;refine A ?_;refine ze ?_;obtain ⟨B,C,h⟩:=bs h;refine A ?_;apply Xa h y<;>intro i h
    .refine A ?_;refine zA ?_;cases h;exact ⟨_,y,_,y,Xc []⟩
    .refine zc<|ze<|A ?_;obtain ⟨o,ho,h⟩:=bs h;refine lpS ho (λz=>[(0,.ipt 1 [[cL a]] 0 0),(3,.mpt 0 0 0),(6,iA d),(7,.mpt 1 0 0),(8,iA z)]) (λz=>[some (6,[(zf c)]),some (10,[(zd e)])]) (λb=>[(0,.ipt 1 [[cL a]] 0 0),(3,.mpt 0 0 0),(6,iA d),(7,.mpt 1 0 0)]) (λb=>[some (6,[(zf c)]),some (10,[(zd e)])]) (pG f216 bA) (Xb [0,1]) ?_ ?_ ?_
     .rintro D r h;refine ze<|A ?_;apply Xa h y<;>intro j h
      .refine zc<|ze<|zh ?_;obtain ⟨E,F,G,H,h⟩:=bs2 h;refine A ?_;apply Xa h y<;>intro l h
       .refine A ?_;refine zA ?_;cases h;exact ⟨_,y,_,y,Xc []⟩
       .refine zc<|A ?_;cases h;exact ⟨_,y,zm [0,1]⟩
      .refine zp ?_;cases h;exact ⟨y,_,y,zm [0,1]⟩
     .rintro ⟨⟩ rfl;refine zl<|ze<|A ?_;obtain ⟨o,ho,h⟩:=bs h;refine lpS ho (λz=>[(0,.ipt 1 [[cL a]] 0 0),(3,.mpt 0 0 0),(6,iA d),(7,.mpt 1 0 0),(9,iA z)]) (λz=>[some (6,[(zf c)]),some (10,[(zd e)])]) (λb=>[(0,.ipt 1 [[cL a]] 0 0),(3,.mpt 0 0 0),(6,iA d),(7,.mpt 1 0 0)]) (λb=>[some (6,[(zf c)]),some (10,[(zd e)])]) (pG f216 bA) (Xb [0,1]) ?_ ?_ ?_
      .rintro I r h;refine ze<|A ?_;apply Xa h y<;>intro m h
       .refine zc<|ze<|zh ?_;obtain ⟨J,K,L,M,h⟩:=bs2 h;refine A ?_;apply Xa h y<;>intro n h
        .refine A ?_;refine zA ?_;cases h;exact ⟨_,y,_,y,Xc []⟩
        .refine zc<|A ?_;cases h;exact ⟨_,y,zm [0,1]⟩
       .refine zp ?_;cases h;exact ⟨y,_,y,zm [0,1]⟩
      .rintro ⟨⟩ rfl;refine zl<|A ?_;obtain ⟨o,ho,h⟩:=bs h;refine lpS ho (λz=>[(0,.ipt 1 [[cL a]] 0 0),(3,.mpt 0 0 0),(6,iA d),(7,.mpt 1 0 0),(10,iA z)]) (λz=>[some (6,[(zf c)]),some (10,[(zd e)])]) (λb=>[(0,.ipt 1 [[cL a]] 0 0),(3,.mpt 0 0 0),(6,iA d)]) (λb=>[some (6,[(zf c)])]) (pG f216 bA) (Xb [0,1]) ?_ ?_ ?_
       .rintro N r h;refine ze<|A ?_;apply Xa h y<;>intro p h
        .refine zc<|ze<|zh ?_;obtain ⟨O,P,Q,R,h⟩:=bs2 h;refine A ?_;apply Xa h y<;>intro q h
         .refine A ?_;refine zA ?_;cases h;exact ⟨_,y,_,y,Xc []⟩
         .refine zc<|A ?_;cases h;exact ⟨_,y,zm [0,1]⟩
        .refine zp ?_;cases h;exact ⟨y,_,y,zm [0]⟩
       .rintro ⟨⟩ rfl;refine zl<|A ?_;cases h;exact ⟨_,y,zm [0]⟩
       .rintro r' rfl env st hp;cases h;exact ⟨_,y,hp⟩
      .rintro r' rfl env st hp;cases h;exact ⟨_,y,hp⟩
     .rintro r' rfl env st hp;cases h;exact ⟨_,y,hp⟩
   .refine zp ?_;cases h;exact ⟨y,_,y,zm []⟩
  .rintro ⟨⟩ rfl;refine zl<|A ?_
   exact RT0⟩
def WY(a:zb)(b:zb):Option (Bool):=
  (KA a.Params b.Params).bind λc=>some (c&&(a.Ret == b.Ret))
theorem znE(a:zb)(b:zb){r:Bool}(h:WY a b=some r):Xo prog 312 [.agg (zd a),.agg (zd b)] (bA r):=by
 refine zi func312 y kz y y<|A ?_;obtain ⟨c,d,h⟩:=bs h;refine A ?_;exact RT0
instance (a:zb)(b:zb):PF prog 312 [.agg (zd a),.agg (zd b)] (WY a b) bA:=⟨λ_=>znE a b⟩
def zqB:Option (T0×Bool):=
  some ([],false)
def Id(e:List za)(n:T0)(d:T1)(a:Int):zL (Int) (Unit) (T0×Bool):=
  cond (decide (a<((length d):Int))) ((idx d a).bind λf=>(zS e f).bind λi=>(idx e i).bind λb=>(Gg b n).bind λc=>(cond (decide (0≤c)) ((idx b.Methods c).bind λj=>some (!j.Static)) (some false)).bind λl=>cond l ((idx d a).bind λm=>some (.inr (.inr (m,true)))) (some (.inl (i64.wrap (a+1))))) (some (.inr (.inl ())))
def ziY(a:List za)(c:T0)(e:T0):Option (T0×Bool):=
  (zS a c).bind λd=>(cond (decide (d<0)) (some true) ((idx a d).bind λf=>some f.Interface)).bind λi=>cond i (some ([],false)) ((KU a c).bind λj=>(zk (λz=>Id a e j z) 0).bind λo=>zB o (λb=>zqB) some)
instance (a:List za)(e:T0)(d:T0):PF prog 352 [.ipt 1 [[cL a]] 0 0,sA e,sA d] (ziY a e d) (λr=>(.tup [sA r.1,bA r.2])):=⟨λr h=>by
 refine zi func352 y kz y y<|A ?_;obtain ⟨H,I,h⟩:=bs h;refine A ?_;refine ze ?_;obtain ⟨J,K,h⟩:=bs h;refine A ?_;apply Xa h y<;>intro j h
 .refine A ?_;exact RT0
 .refine zc ?_;obtain ⟨c,m,h⟩:=bs h;refine A ?_;refine u<|sx [] (GL a e m)<|zu (env0:=[(0,.ipt 1 [[cL a]] 0 0),(2,sA d),(30,.msl 0 0 (length c))]) (st0:=[sT c]) (zm [0])<|A ?_;refine ze<|A ?_;obtain ⟨o,ho,h⟩:=bs h;refine lpB ho (λz=>[(0,.ipt 1 [[cL a]] 0 0),(2,sA d),(9,.msl 0 0 (length c)),(10,iA z)]) (λz=>[sT c]) (λb=>[]) (λb=>[]) (pG f352 (λr=>.tup [sA r.1,bA r.2])) (Xb [0]) ?_ ?_
  .rintro n r h;refine ze<|A ?_;apply Xa h y<;>intro f h
   .refine zc<|ze<|zh ?_;obtain ⟨p,q,s,v,l,x,h⟩:=bs3 h;refine rdA [(0,_),(2,_),(9,_),(10,_),(11,_)] [sT c,some (6,[(zf l)])] [12,13] [0,1,2,3,4,5,6,7,8,9,10,11] [(48,_),(47,_),(46,_),(45,_),(44,_),(43,_),(42,_),(41,_),(40,_),(39,_),(38,_),(37,_)] 2 (Xi (z:=by exact ⟨(λ_ _=>⟨_,y,y,al 1 ti y<|⟨(.mpt 1 0 0),[],[(11,_)],y,y,y,y,Xi (z:=by exact ⟨nv,(λ_ _=>⟨_,y,y,sto ti y y y<|⟨.any,[],[],y,y,y,t,Xl (z:=Xb [0,1])⟩⟩),t⟩)⟩⟩),nw,t⟩)) ?_;obtain ⟨B,C,h⟩:=bs h;refine A ?_;obtain ⟨D,E,h⟩:=bs h;refine A ?_;apply Xa h y<;>intro i h
    .obtain ⟨F,G,h⟩:=bs h;refine A ?_;refine zA ?_;cases h;exact ⟨_,y,_,y,Xc []⟩
    .refine zc<|A ?_;cases h;exact ⟨_,y,zm [0]⟩
   .refine zp ?_;cases h;exact ⟨y,_,y,zm []⟩
  .rintro ⟨⟩ rfl;refine zl<|A ?_
   exact RT0⟩
def zml(c:List za)(e:za)(d:zb):Option (Bool):=
  cond e.Interface (some true) ((ziY c e.Name d.Name).bind λa=>cond (!a.2) (some false) ((zS c a.1).bind λf=>(idx c f).bind λb=>(Gg b d.Name).bind λi=>(idx b.Methods i).bind λj=>(WY j d).bind λl=>some l))
def zhR(a:Int)(b:Bool):zL (Int) (Unit) (Bool):=
  cond b (some (.inr (.inr false))) (some (.inl (i64.wrap (a+1))))
def EU(d:List za)(e:T1)(f:zb)(a:Int):zL (Int) (Unit) (Bool):=
  cond (decide (a<(length e:Int))) ((idx e a).bind λi=>(zS d i).bind λj=>(idx d j).bind λb=>(Gg b f.Name).bind λc=>cond (decide (0≤c)) ((idx b.Methods c).bind λl=>(WY l f).bind λm=>zhR a (!m)) (zhR a false)) (some (.inr (.inl ())))
def zif(a:List za)(d:za)(e:T1)(c:zb):Option (Bool):=
  (zk (λz=>EU a e c z) 0).bind λo=>zB o (λb=>zml a d c) some
theorem zmm(e:List za)(d:za)(f:T1)(a:zb){r:Bool}(h:zif e d f a=some r):Xo prog 314 [.ipt 1 [[cL e]] 0 0,.agg (zf d),tL f,.agg (zd a)] (bA r):=by
 refine zi func314 y kz y y<|A ?_;refine ze<|A ?_;obtain ⟨o,ho,h⟩:=bs h;refine lpB ho (λz=>[(0,.ipt 1 [[cL e]] 0 0),(2,tL f),(5,.mpt 0 0 0),(7,.mpt 1 0 0),(9,iA z)]) (λz=>[some (6,[(zf d)]),some (10,[(zd a)])]) (λb=>[(0,.ipt 1 [[cL e]] 0 0),(5,.mpt 0 0 0),(7,.mpt 1 0 0)]) (λb=>[some (6,[(zf d)]),some (10,[(zd a)])]) (pG f314 bA) (Xb [0,1]) ?_ ?_
 .rintro i r h;refine ze<|A ?_;apply Xa h y<;>intro j h
  .refine zc<|ze<|zh ?_;obtain ⟨x,B,C,D,p,E,h⟩:=bs3 h;refine rdA [(0,_),(2,_),(5,_),(7,_),(9,_),(10,_)] [some (6,[(zf d)]),some (10,[(zd a)]),some (6,[(zf p)])] [12,13] [0,1,2,3,4,5,6,7,8,9,10,11] [(32,_),(31,_),(30,_),(29,_),(28,_),(27,_),(26,_),(25,_),(24,_),(23,_),(22,_),(21,_)] 2 (Xi (z:=by exact ⟨(λ_ _=>⟨_,y,y,al 2 ti y<|⟨(.mpt 2 0 0),[],[(10,_)],y,y,y,y,Xi (z:=by exact ⟨nv,(λ_ _=>⟨_,y,y,sto ti y y y<|⟨.any,[],[],y,y,y,t,Xl (z:=Xb [0,1,2])⟩⟩),t⟩)⟩⟩),nw,t⟩)) ?_;obtain ⟨q,F,h⟩:=bs h;refine A ?_;refine Xz (X:=Bool) (λz=>[(0,.ipt 1 [[cL e]] 0 0),(2,tL f),(5,.mpt 0 0 0),(7,.mpt 1 0 0),(9,iA i),(48,bA z)]) (λz=>[some (6,[(zf d)]),some (10,[(zd a)])]) (λz=>zhR i z=some r) ?_ ?_
   .rcases bb (decide (0≤q)) with c |c
    .replace h:=bT c h;obtain ⟨G,H,s,I,h⟩:=bs2 h;exact rdQ [] [0,1,2,3,4,5,6,7,8,9,10,11] [(48,_),(47,_),(46,_),(45,_),(44,_),(43,_),(42,_),(41,_),(40,_),(39,_),(38,_),(37,_)] 0 (Xl (z:=by exact ⟨(!s),h,Xb [0,1]⟩))
    .replace h:=bF c h;exact rdQ [] [0,1,2,3,4,5,6,7,8,9,10,11] [(48,_),(47,_),(46,_),(45,_),(44,_),(43,_),(42,_),(41,_),(40,_),(39,_),(38,_),(37,_)] 0 (Xl (z:=by exact ⟨false,h,Xb [0,1]⟩))
   .rintro J h;apply Xa h y<;>intro l h
    .refine A ?_;refine zA ?_;cases h;exact ⟨_,y,_,y,Xc []⟩
    .refine zc<|A ?_;cases h;exact ⟨_,y,zm [0,1]⟩
  .refine zp ?_;cases h;exact ⟨y,_,y,zm [0,1]⟩
 .rintro ⟨⟩ rfl;refine zl<|ze<|A ?_;apply Xa h y<;>intro m h
  .refine A ?_;exact RT0
  .refine zc ?_;obtain ⟨K,L,h⟩:=bs h;refine A ?_;refine ze<|A ?_;apply Xa h y<;>intro n h
   .refine A ?_;exact RT0
   .refine zc ?_;obtain ⟨M,N,v,O,h⟩:=bs2 h;refine rdA [(7,.mpt 0 0 0),(14,.mpt 1 0 0)] [some (10,[(zd a)]),some (6,[(zf v)])] [9,10] [0,1,2,3,4,5,6,7,8] [(70,_),(69,_),(68,_),(67,_),(66,_),(65,_),(64,_),(63,_),(62,_)] 2 (Xi (z:=by exact ⟨(λ_ _=>⟨_,y,y,al 2 ti y<|⟨(.mpt 2 0 0),[],[(14,_)],y,y,y,y,Xi (z:=by exact ⟨nv,(λ_ _=>⟨_,y,y,sto ti y y y<|⟨.any,[],[],y,y,y,t,Xl (z:=Xb [1,2])⟩⟩),t⟩)⟩⟩),nw,t⟩)) ?_;obtain ⟨P,Q,R,S,T,U,h⟩:=bs3 h;refine rdA [(8,_)] [] [] [0,1,2,3,4,5,6,7,8,9,10] [(8,_),(80,_),(79,_),(78,_),(77,_),(76,_),(75,_),(74,_),(73,_),(72,_),(71,_)] 0 (Xl (z:=Xb [])) ?_;exact RT0
instance (a:List za)(b:za)(c:T1)(d:zb):PF prog 314 [.ipt 1 [[cL a]] 0 0,.agg (zf b),tL c,.agg (zd d)] (zif a b c d) bA:=⟨λ_=>zmm a b c d⟩
def zlO:Option (Bool):=
  some true
def zlN(a:Int):zL (Int) (Unit) (Bool):=
  some (.inl (i64.wrap (a+1)))
def E2(f:List za)(i:za)(c:T1)(b:za)(a:Int):zL (Int) (Unit) (Bool):=
  cond (decide (a<(length b.Methods:Int))) ((idx b.Methods a).bind λd=>(zif f i c d).bind λe=>cond (!e) (some (.inr (.inr false))) (some (.inl (i64.wrap (a+1))))) (some (.inr (.inl ())))
def E1(d:List za)(j:za)(a:T1)(c:Int):zL (Int) (Unit) (Bool):=
  cond (decide (c<((length a):Int))) ((idx a c).bind λe=>(zS d e).bind λf=>(idx d f).bind λi=>(zk (λz=>E2 d j a i z) 0).bind λo=>zB o (λb=>zlN c) (λr=>some (.inr (.inr r)))) (some (.inr (.inl ())))
def zi6(a:List za)(c:za):Option (Bool):=
  (Em a c.Name).bind λd=>(zk (λz=>E1 a c d z) 0).bind λo=>zB o (λb=>zlO) some
def zlM(a:Int):zL (Int) (Unit) (Bool):=
  some (.inl (i64.wrap (a+1)))
def zhl(a:Int):zL (Int) (Unit) (Bool):=
  some (.inl (i64.wrap (a+1)))
def zgg(a:Int)(b:Bool):zL (Int) (Unit) (Bool):=
  cond b (some (.inr (.inr false))) (zhl a)
def E4(f:List za)(e:za)(i:T1)(b:Int)(a:Int):zL (Int) (Unit) (Bool):=
  cond (decide (a<(length i:Int))) ((idx i a).bind λj=>(zS f j).bind λl=>(idx f l).bind λc=>(idx e.Methods b).bind λm=>(Gg c m.Name).bind λd=>(cond (decide (d<0)) (some true) ((idx e.Methods b).bind λn=>some (n.Name == [36,105,110,105,116]))).bind λo=>cond o (zhl a) ((idx c.Methods d).bind λp=>(idx e.Methods b).bind λq=>(WY p q).bind λs=>cond (!s) (zgg a true) ((idx c.Methods d).bind λv=>cond v.Static (zgg a true) ((idx e.Methods b).bind λx=>zgg a x.Static)))) (some (.inr (.inl ())))
def E3(d:List za)(c:za)(e:T1)(a:Int):zL (Int) (Unit) (Bool):=
  cond (decide (a<(length c.Methods:Int))) ((zk (λz=>E4 d c e a z) 0).bind λo=>zB o (λb=>zlM a) (λr=>some (.inr (.inr r)))) (some (.inr (.inl ())))
def zjF(a:List za)(c:za):Option (Bool):=
  (KU a c.Name).bind λd=>(XK d 1 (length d:Int)).bind λe=>(zk (λz=>E3 a c e z) 0).bind λo=>zB o (λb=>zi6 a c) some
instance (j:List za)(c:za):PF prog 217 [.ipt 1 [[cL j]] 0 0,.agg (zf c)] (zjF j c) bA:=⟨λr h=>by
 refine zi func217 y kz y y<|A ?_;obtain ⟨G,V,D,S,h⟩:=bs2 h;refine A ?_;refine u<|sx [] (GL j c.Name V)<|zu (env0:=[(0,.ipt 1 [[cL j]] 0 0),(3,.mpt 0 0 0),(17,.msl 1 0 (length G))]) (st0:=[some (6,[(zf c)]),sT G]) (zm [0,1])<|zu (env0:=[(0,.ipt 1 [[cL j]] 0 0),(3,.mpt 0 0 0),(17,tL G)]) (st0:=[some (6,[(zf c)])]) (zm [0])<|u<|slI (a:=1) (b:=(length G:Int)) ti y ti y y (KK y S) y S<|A ?_;refine ze<|A ?_;obtain ⟨o,ho,h⟩:=bs h;refine lpB ho (λz=>[(0,.ipt 1 [[cL j]] 0 0),(3,.mpt 0 0 0),(5,tL D),(6,iA z)]) (λz=>[some (6,[(zf c)])]) (λb=>[(0,.ipt 1 [[cL j]] 0 0),(3,.mpt 0 0 0)]) (λb=>[some (6,[(zf c)])]) (pG f217 bA) (Xb [0]) ?_ ?_
 .rintro l r h;refine ze<|A ?_;apply Xa h y<;>intro L h
  .refine zc<|ze<|zh<|A ?_;obtain ⟨o,ho,h⟩:=bs h;refine lpS ho (λz=>[(0,.ipt 1 [[cL j]] 0 0),(3,.mpt 0 0 0),(5,tL D),(6,iA l),(7,iA z)]) (λz=>[some (6,[(zf c)])]) (λb=>[(0,.ipt 1 [[cL j]] 0 0),(3,.mpt 0 0 0),(5,tL D),(6,iA l)]) (λb=>[some (6,[(zf c)])]) (pG f217 bA) (Xb [0]) ?_ ?_ ?_
   .rintro q r h;refine ze<|A ?_;apply Xa h y<;>intro M h
    .refine zc ?_;refine Xz (X:=Unit) (λz=>[(0,.ipt 1 [[cL j]] 0 0),(3,.mpt 0 0 0),(5,tL D),(6,iA l),(7,iA q)]) (λz=>[some (6,[(zf c)])]) (λz=>zhl q=some r) ?_ ?_
     .refine zh ?_;obtain ⟨W,Y,Z,q61,f,q62,h⟩:=bs3 h;refine rdA [(0,_),(3,_),(5,_),(6,_),(7,_),(8,_)] [some (6,[(zf c)]),some (6,[(zf f)])] [12,13] [0,1,2,3,4,5,6,7,8,9,10,11] [(43,_),(42,_),(41,_),(40,_),(39,_),(38,_),(37,_),(36,_),(35,_),(34,_),(33,_),(32,_)] 2 (Xi (z:=by exact ⟨(λ_ _=>⟨_,y,y,al 1 ti y<|⟨(.mpt 1 0 0),[],[(8,_)],y,y,y,y,Xi (z:=by exact ⟨nv,(λ_ _=>⟨_,y,y,sto ti y y y<|⟨.any,[],[],y,y,y,t,Xl (z:=Xb [0,1])⟩⟩),t⟩)⟩⟩),nw,t⟩)) ?_;obtain ⟨v53,q63,p,q64,h⟩:=bs2 h;refine rdA [(0,_),(3,_),(5,_),(6,_),(7,_),(8,_),(9,_)] [some (6,[(zf c)]),some (6,[(zf f)])] [] [0,1,2,3,4,5,6,7,8] [(9,_),(51,_),(50,_),(49,_),(48,_),(47,_),(46,_),(45,_),(44,_)] 0 (Xl (z:=Xb [0,1])) ?_;refine ze ?_;obtain ⟨v56,q67,h⟩:=bs h;refine A ?_;apply Xa h y<;>intro N h
      .refine zp ?_;exact ⟨(),h,zm [0]⟩
      .refine zc ?_;refine Xz (X:=Bool) (λz=>[(0,.ipt 1 [[cL j]] 0 0),(3,.mpt 0 0 0),(5,tL D),(6,iA l),(7,iA q),(90,bA z)]) (λz=>[some (6,[(zf c)])]) (λz=>zgg q z=some r) ?_ ?_
       .obtain ⟨s,v,x,B,e,I,h⟩:=bs3 h
        rcases bb (!e) with d |d
        .replace h:=bT d h;exact rdQ [] [0,1,2,3,4,5,6,7,8,9,10,11,12,13,14,15,16,17,18,19,20,21,22,23,24,25,26,27] [(90,_),(89,_),(88,_),(87,_),(86,_),(85,_),(84,_),(83,_),(82,_),(81,_),(80,_),(79,_),(78,_),(77,_),(76,_),(75,_),(74,_),(73,_),(72,_),(71,_),(70,_),(69,_),(68,_),(67,_),(66,_),(65,_),(64,_),(63,_)] 0 (Xl (z:=by exact ⟨true,h,Xb [0]⟩))
        .replace h:=bF d h;obtain ⟨i,C,h⟩:=bs h
         rcases bb i.Static with m |m
         .replace h:=bT m h;exact Gh [] [27,26,25,24,23,22,21,20,19,18,17,16,15,14,13,12,11,10,9,8,7,6,5,4,3,2,1,0] [(90,bA true),(89,.lit undef),(88,.lit undef),(87,.lit undef),(86,.lit undef),(85,.lit undef),(84,.lit undef),(83,bA i.Static),(82,bA i.Static),(81,bA i.Static),(80,.ipt 10 (map zd f.Methods) (Int.toNat p) 3),(79,.ipt 10 (map zd f.Methods) (Int.toNat p) 0),(78,iA p),(77,.isl 10 (map zd f.Methods)),(76,.mpt 1 0 5),(75,bA (!e)),(74,bA (!e)),(73,bA e),(72,.agg (zd x)),(71,.ipt 10 (map zd c.Methods) (Int.toNat l) 0),(70,iA l),(69,.isl 10 (map zd c.Methods)),(68,.mpt 0 0 5),(67,.agg (zd s)),(66,.ipt 10 (map zd f.Methods) (Int.toNat p) 0),(65,iA p),(64,.isl 10 (map zd f.Methods)),(63,.mpt 1 0 5)] 0 kz kz y kz (Ue ⟨pe,pe,pe,pe,pe,pe,pe,pe,pe,(λ_=>pag (b:=(!e)) y y y y d y (ldI ti y (zQ C).2.2 y<|w)),(λ_=>pag (b:=(!e)) y y y y d y (fa ti y y y<|w)),(λ_=>pag (b:=(!e)) y y y y d y (ixI ti y ti y y y C<|w)),pe,(λ_=>pag (b:=(!e)) y y y y d y (ld ti y y<|w)),(λ_=>pag (b:=(!e)) y y y y d y (fa ti y y y<|w)),pe,pe,(pb y (pc (znE s x I) y y y w)),(pb y (ldI ti y (zQ B).2.2 y w)),(pb y (ixI ti y ti y y y B w)),pe,(pb y (ld ti y y w)),(pb y (fa ti y y y w)),(pb y (ldI ti y (zQ v).2.2 y w)),(pb y (ixI ti y ti y y y v w)),pe,(pb y (ld ti y y w)),(pb y (fa ti y y y w)),t⟩ ⟨true,h,zm [0]⟩)
         .replace h:=bF m h;obtain ⟨E,J,h⟩:=bs h;exact Gh [] [27,26,25,24,23,22,21,20,19,18,17,16,15,14,13,12,11,10,9,8,7,6,5,4,3,2,1,0] [(90,bA E.Static),(89,bA E.Static),(88,.ipt 10 (map zd c.Methods) (Int.toNat l) 3),(87,.ipt 10 (map zd c.Methods) (Int.toNat l) 0),(86,iA l),(85,.isl 10 (map zd c.Methods)),(84,.mpt 0 0 5),(83,bA i.Static),(82,bA i.Static),(81,bA i.Static),(80,.ipt 10 (map zd f.Methods) (Int.toNat p) 3),(79,.ipt 10 (map zd f.Methods) (Int.toNat p) 0),(78,iA p),(77,.isl 10 (map zd f.Methods)),(76,.mpt 1 0 5),(75,bA (!e)),(74,bA (!e)),(73,bA e),(72,.agg (zd x)),(71,.ipt 10 (map zd c.Methods) (Int.toNat l) 0),(70,iA l),(69,.isl 10 (map zd c.Methods)),(68,.mpt 0 0 5),(67,.agg (zd s)),(66,.ipt 10 (map zd f.Methods) (Int.toNat p) 0),(65,iA p),(64,.isl 10 (map zd f.Methods)),(63,.mpt 1 0 5)] 0 kz kz y kz (Ue ⟨pe,(λ_=>pag (b:=i.Static) y y y y m y (ldI ti y (zQ J).2.2 y<|w)),(λ_=>pag (b:=i.Static) y y y y m y (fa ti y y y<|w)),(λ_=>pag (b:=i.Static) y y y y m y (ixI ti y ti y y y J<|w)),pe,(λ_=>pag (b:=i.Static) y y y y m y (ld ti y y<|w)),(λ_=>pag (b:=i.Static) y y y y m y (fa ti y y y<|w)),pe,pe,(λ_=>pag (b:=(!e)) y y y y d y (ldI ti y (zQ C).2.2 y<|w)),(λ_=>pag (b:=(!e)) y y y y d y (fa ti y y y<|w)),(λ_=>pag (b:=(!e)) y y y y d y (ixI ti y ti y y y C<|w)),pe,(λ_=>pag (b:=(!e)) y y y y d y (ld ti y y<|w)),(λ_=>pag (b:=(!e)) y y y y d y (fa ti y y y<|w)),pe,pe,(pb y (pc (znE s x I) y y y w)),(pb y (ldI ti y (zQ B).2.2 y w)),(pb y (ixI ti y ti y y y B w)),pe,(pb y (ld ti y y w)),(pb y (fa ti y y y w)),(pb y (ldI ti y (zQ v).2.2 y w)),(pb y (ixI ti y ti y y y v w)),pe,(pb y (ld ti y y w)),(pb y (fa ti y y y w)),t⟩ ⟨E.Static,h,zm [0]⟩)
       .rintro v62 h;apply Xa h y<;>intro O h
        .refine A ?_;refine zA ?_;cases h;exact ⟨_,y,_,y,Xc []⟩
        .refine zc ?_;exact ⟨(),h,zm [0]⟩
     .rintro ⟨⟩ h;refine A ?_;cases h;exact ⟨_,y,zm [0]⟩
    .refine zp ?_;cases h;exact ⟨y,_,y,zm [0]⟩
   .rintro ⟨⟩ rfl;refine zl<|A ?_;cases h;exact ⟨_,y,zm [0]⟩
   .rintro r' rfl env st hp;cases h;exact ⟨_,y,hp⟩
  .refine zp ?_;cases h;exact ⟨y,_,y,zm [0]⟩
 .rintro ⟨⟩ rfl;refine zl ?_;obtain ⟨n,T,h⟩:=bs h;refine A ?_;refine u<|sx [] (zjE j c.Name T)<|zu (env0:=[(0,.ipt 1 [[cL j]] 0 0),(3,.mpt 0 0 0),(94,.msl 1 0 (length n))]) (st0:=[some (6,[(zf c)]),sT n]) (zm [0,1])<|A ?_;refine ze<|A ?_;obtain ⟨o,ho,h⟩:=bs h;refine lpB ho (λz=>[(0,.ipt 1 [[cL j]] 0 0),(3,.mpt 0 0 0),(10,.msl 1 0 (length n)),(11,iA z)]) (λz=>[some (6,[(zf c)]),sT n]) (λb=>[]) (λb=>[]) (pG f217 bA) (Xb [0,1]) ?_ ?_
  .rintro K r h;refine ze<|A ?_;apply Xa h y<;>intro P h
   .refine zc<|ze<|zh ?_;obtain ⟨v75,q91,v76,q92,F,q93,h⟩:=bs3 h;refine rdA [(0,_),(3,_),(10,_),(11,_),(12,_)] [some (6,[(zf c)]),sT n,some (6,[(zf F)])] [12,13] [0,1,2,3,4,5,6,7,8,9,10,11] [(112,_),(111,_),(110,_),(109,_),(108,_),(107,_),(106,_),(105,_),(104,_),(103,_),(102,_),(101,_)] 2 (Xi (z:=by exact ⟨(λ_ _=>⟨_,y,y,al 2 ti y<|⟨(.mpt 2 0 0),[],[(12,_)],y,y,y,y,Xi (z:=by exact ⟨nv,(λ_ _=>⟨_,y,y,sto ti y y y<|⟨.any,[],[],y,y,y,t,Xl (z:=Xb [0,1,2])⟩⟩),t⟩)⟩⟩),nw,t⟩)) ?_;refine A ?_;obtain ⟨o,ho,h⟩:=bs h;refine lpS ho (λz=>[(0,.ipt 1 [[cL j]] 0 0),(3,.mpt 0 0 0),(10,.msl 1 0 (length n)),(11,iA K),(12,.mpt 2 0 0),(13,iA z)]) (λz=>[some (6,[(zf c)]),sT n,some (6,[(zf F)])]) (λb=>[(0,.ipt 1 [[cL j]] 0 0),(3,.mpt 0 0 0),(10,.msl 1 0 (length n)),(11,iA K)]) (λb=>[some (6,[(zf c)]),sT n]) (pG f217 bA) (Xb [0,1,2]) ?_ ?_ ?_
    .rintro v81 r h;refine ze<|A ?_;apply Xa h y<;>intro Q h
     .refine zc<|ze<|zh ?_;obtain ⟨U,q99,v83,R,h⟩:=bs2 h;refine rdA [(0,_),(3,_),(10,_),(11,_),(12,_),(13,_),(129,_)] [some (6,[(zf c)]),sT n,some (6,[(zf F)])] [] [0,1,2,3,4,5,6,7,8,9] [(129,_),(128,_),(127,_),(126,_),(125,_),(124,_),(123,_),(122,_),(121,_),(120,_)] 0 (Xl ⟨peC,peC,peC,peC,peC,peC,peC,peC,(by exact pb y (pcs (zmm j c n U R) y y (.cons (si y) (.cons (si y) (.cons (XM y (λ_=>y)) (.cons (si y) .nil)))) XA<|w)),peC,t⟩ (Xb [0,1,2])) ?_;apply Xa h y<;>intro H h
      .refine A ?_;refine zA ?_;cases h;exact ⟨_,y,_,y,Xc []⟩
      .refine zc<|A ?_;cases h;exact ⟨_,y,zm [0,1,2]⟩
     .refine zp ?_;cases h;exact ⟨y,_,y,zm [0,1]⟩
    .rintro ⟨⟩ rfl;refine zl<|A ?_;cases h;exact ⟨_,y,zm [0,1]⟩
    .rintro r' rfl env st hp;cases h;exact ⟨_,y,hp⟩
   .refine zp ?_;cases h;exact ⟨y,_,y,zm []⟩
  .rintro ⟨⟩ rfl;refine zl<|A ?_
   exact RT0⟩
def zqE:Option (Int):=
  some 0
def E9(b:zq)(a:Int):zL (Int) (Unit) (Int):=
  cond (decide (a<(length b.L:Int))) ((idx b.L a).bind λc=>(zjF b.L c).bind λd=>cond (!d) (some (.inr (.inr 1))) (some (.inl (i64.wrap (a+1))))) (some (.inr (.inl ())))
def zlH(a:zq):Option (Int):=
  (zk (λz=>E9 a z) 0).bind λo=>zB o (λb=>zqE) some
def Ia(a:zq)(b:Int):zL (Int) (Unit) (Int):=
  cond (decide (b<(length a.L:Int))) ((idx a.L b).bind λc=>(zjH a.L c).bind λd=>cond (!d) (some (.inr (.inr 4))) (some (.inl (i64.wrap (b+1))))) (some (.inr (.inl ())))
def EQ(c:Option zq):Option (Int):=
  Zq c (none) (λa=>(zk (λz=>Ia a z) 0).bind λo=>zB o (λb=>zlH a) some)
theorem zlI(a:Option zq){r:Int}(h:EQ a=some r):Xo prog 122 [Xy 1 Zw a] (iA r):=by
 refine zi func122 y kz y y ?_;unfold EQ at h
 rcases a with _ |c
 .replace h:=oeN h;refine A ?_;refine ze<|A ?_;cases h
 .replace h:=oeS h;refine A ?_;refine ze<|A ?_;obtain ⟨o,ho,h⟩:=bs h;refine lpB ho (λz=>[(0,.ipt 1 [[cL c.L]] 0 0),(3,iA z)]) (λz=>[]) (λb=>[(0,.ipt 1 [[cL c.L]] 0 0)]) (λb=>[]) (pG f122 iA) (Xb []) ?_ ?_
  .rintro q r h;refine ze<|A ?_;apply Xa h y<;>intro f h
   .refine zc<|ze<|zh ?_;obtain ⟨s,v,x,B,h⟩:=bs2 h;refine A ?_;apply Xa h y<;>intro i h
    .refine A ?_;refine zA ?_;cases h;exact ⟨_,y,_,y,Xc []⟩
    .refine zc<|A ?_;cases h;exact ⟨_,y,zm []⟩
   .refine zp ?_;cases h;exact ⟨y,_,y,zm []⟩
  .rintro ⟨⟩ rfl;refine zl<|ze<|A ?_;obtain ⟨o,ho,h⟩:=bs h;refine lpB ho (λz=>[(0,.ipt 1 [[cL c.L]] 0 0),(4,iA z)]) (λz=>[]) (λb=>[]) (λb=>[]) (pG f122 iA) (Xb []) ?_ ?_
   .rintro j r h;refine ze<|A ?_;apply Xa h y<;>intro d h
    .refine zc<|ze<|zh ?_;obtain ⟨l,m,n,p,h⟩:=bs2 h;refine A ?_;apply Xa h y<;>intro e h
     .refine A ?_;refine zA ?_;cases h;exact ⟨_,y,_,y,Xc []⟩
     .refine zc<|A ?_;cases h;exact ⟨_,y,zm []⟩
    .refine zp ?_;cases h;exact ⟨y,_,y,zm []⟩
   .rintro ⟨⟩ rfl;refine zl<|A ?_;exact RT0
instance (a:Option zq):PF prog 122 [Xy 1 Zw a] (EQ a) iA:=⟨λ_=>zlI a⟩
def zof:Option (T0×zb×Bool):=
  some ([],(zb.mk [] [] [] false false 0 0 [] [] []),false)
def zog(e:T0)(f:zq)(d:T1)(a:Int):zL (Int) (Unit) (T0×zb×Bool):=
  cond (decide (a<((length d):Int))) ((idx d a).bind λi=>(zS f.L i).bind λj=>(idx f.L j).bind λb=>(Gg b e).bind λc=>cond ((decide (0≤c))&&(!(e == [36,105,110,105,116]))) ((idx d a).bind λl=>(idx b.Methods c).bind λm=>some (.inr (.inr (l,m,true)))) (some (.inl (i64.wrap (a+1))))) (some (.inr (.inl ())))
def zfC(c:Option zq)(d:T0)(e:T0):Option (T0×zb×Bool):=
  Zq c (none) (λa=>(KU a.L d).bind λf=>(zk (λz=>zog e a f z) 0).bind λo=>zB o (λb=>zof) some)
theorem zjP(d:Option zq)(e:T0)(c:T0){r:T0×zb×Bool}(h:zfC d e c=some r):Xo prog 125 [Xy 1 Zw d,sA e,sA c] (.tup [sA r.1,.agg (zd r.2.1),bA r.2.2]):=by
 refine zi func125 y kz y y ?_;unfold zfC at h
 rcases d with _ |f
 .replace h:=oeN h;refine A ?_;cases h
 .replace h:=oeS h;refine A ?_;obtain ⟨a,n,h⟩:=bs h;refine A ?_;refine u<|sx [] (GL f.L e n)<|zu (env0:=[(0,.ipt 1 [[cL f.L]] 0 0),(2,sA c),(7,.mpt 0 0 0),(15,.msl 1 0 (length a))]) (st0:=[some (10,[[sA [],nS,sA [],bA false,bA false,iA 0,iA 0,nS,nS,nS]]),sT a]) (zm [0,1])<|A ?_;refine ze<|A ?_;obtain ⟨o,ho,h⟩:=bs h;refine lpB ho (λz=>[(0,.ipt 1 [[cL f.L]] 0 0),(2,sA c),(7,.mpt 0 0 0),(9,.msl 1 0 (length a)),(10,iA z)]) (λz=>[some (10,[[sA [],nS,sA [],bA false,bA false,iA 0,iA 0,nS,nS,nS]]),sT a]) (λb=>[(7,.mpt 0 0 0)]) (λb=>[some (10,[[sA [],nS,sA [],bA false,bA false,iA 0,iA 0,nS,nS,nS]])]) (pG f125 (λr=>.tup [sA r.1,.agg (zd r.2.1),bA r.2.2])) (Xb [0,1]) ?_ ?_
  .rintro p r h;refine ze<|A ?_;apply Xa h y<;>intro i h
   .refine zc<|ze<|zh ?_;obtain ⟨q,s,v,x,l,B,h⟩:=bs3 h;refine rdA [(0,_),(2,_),(7,_),(9,_),(10,_),(11,_)] [some (10,[[sA [],nS,sA [],bA false,bA false,iA 0,iA 0,nS,nS,nS]]),sT a,some (6,[(zf l)])] [12,13] [0,1,2,3,4,5,6,7,8,9,10,11] [(33,_),(32,_),(31,_),(30,_),(29,_),(28,_),(27,_),(26,_),(25,_),(24,_),(23,_),(22,_)] 2 (Xi (z:=by exact ⟨(λ_ _=>⟨_,y,y,al 2 ti y<|⟨(.mpt 2 0 0),[],[(11,_)],y,y,y,y,Xi (z:=by exact ⟨nv,(λ_ _=>⟨_,y,y,sto ti y y y<|⟨.any,[],[],y,y,y,t,Xl (z:=Xb [0,1,2])⟩⟩),t⟩)⟩⟩),nw,t⟩)) ?_;obtain ⟨C,D,h⟩:=bs h;refine A ?_;refine A ?_;apply Xa h y<;>intro j h
    .obtain ⟨E,F,m,G,h⟩:=bs2 h;refine rdA [(6,_),(7,_),(8,_)] [some (10,[(zd m)])] [10] [0,1,2,3,4,5,6,7,8,9] [(6,_),(51,_),(50,_),(49,_),(48,_),(47,_),(46,_),(45,_),(44,_),(43,_)] 1 (Xi (z:=by exact ⟨(λ_ _=>⟨_,y,y,sto ti y y y<|⟨.any,[11],[(8,_)],y,y,y,t,Xl (z:=Xb [0])⟩⟩),t⟩)) ?_;refine zA ?_;cases h;exact ⟨_,y,_,y,Xc []⟩
    .refine zc<|A ?_;cases h;exact ⟨_,y,zm [0,1]⟩
   .refine zp ?_;cases h;exact ⟨y,_,y,zm [0]⟩
  .rintro ⟨⟩ rfl;refine zl<|A ?_;exact RT0
instance (a:Option zq)(b:T0)(c:T0):PF prog 125 [Xy 1 Zw a,sA b,sA c] (zfC a b c) (λr=>(.tup [sA r.1,.agg (zd r.2.1),bA r.2.2])):=⟨λ_=>zjP a b c⟩
def znF(c:T1)(d:T1)(a:Bool)(b:Bool):Option (Bool):=
  some ((!a)&&(!b))
def zhh(i:List za)(j:T0)(a:zb)(l:Bool)(b:Int)(m:zV×Bool)(n:Bool)(d:T1)(e:T1):zL (T1×T1×Bool×Bool×Int) (T1×T1×Bool×Bool) (Bool):=
  (D6 i j a d e (n||(!(m.2||l))) b).bind λo=>(idx a.Code b).bind λp=>(zn i j a d e o p).bind λc=>(idx a.Code b).bind λf=>some (.inl (c.1,c.2.1,c.2.2,(!(HN f.Op)),(i64.wrap (b+1))))
def zhg(i:List za)(j:T0)(b:zb)(l:T1)(m:T1)(c:Bool)(d:Int)(a:zV×Bool)(e:Bool):zL (T1×T1×Bool×Bool×Int) (T1×T1×Bool×Bool) (Bool):=
  cond a.2 ((DX (GG.mk a.1.Locals a.1.Stack)).bind λf=>zhh i j b c d a e f.1 f.2) (zhh i j b c d a e l m)
def znG(j:List za)(l:T0)(c:zb)(a:T1)(b:T1)(d:Bool)(f:Bool)(e:Int):zL (T1×T1×Bool×Bool×Int) (T1×T1×Bool×Bool) (Bool):=
  cond ((decide (e<(length c.Code:Int)))&&(!d)) ((Bl j l c a b d e).bind λi=>cond (i.2&&f) ((Bs j l c a b d e a b).bind λm=>zhg j l c a b f e i m) (zhg j l c a b f e i d)) (some (.inr (.inl (a,b,d,f))))
def zok(e:List za)(f:T0)(a:zb)(c:Bool):Option (Bool):=
  (cond (a.Ret == [86]) (some true) ((zP e a.Ret).bind λi=>some i)).bind λd=>(zgj e f a [] [] (c||(!d))).bind λj=>(zk (λz=>znG e f a z.1 z.2.1 z.2.2.1 z.2.2.2.1 z.2.2.2.2) (j,[],(c||(!d)),true,0)).bind λo=>zB o (λb=>znF b.1 b.2.1 b.2.2.1 b.2.2.2) some
def zon(f:List za)(b:zb)(c:Bool)(a:Int):zL (Bool×Int) (Bool) (Bool):=
  cond (decide (a<(length b.Params:Int))) ((idx b.Params a).bind λd=>(zP f d).bind λe=>some (.inl ((c||(!e)),(i64.wrap (a+1))))) (some (.inr (.inl c)))
def zoj(c:List za)(e:T0)(a:zb)(d:Bool):Option (Bool):=
  (zk (λz=>zon c a z.1 z.2) (d,0)).bind λo=>zB o (λb=>zok c e a b) some
def zoi(a:Int)(b:Bool):zL (Bool×Int) (Bool) (Bool):=
  some (.inl (b,(i64.wrap (a+1))))
def zol(m:List za)(b:T1)(c:Bool)(a:Int):zL (Bool×Int) (Bool) (Bool):=
  cond (decide (a<((length b):Int))) ((idx b a).bind λd=>(cond (d == [84]) (some true) ((idx b a).bind λe=>some (e == [78]))).bind λf=>(cond f (some true) ((idx b a).bind λi=>(zP m i).bind λj=>some j)).bind λl=>some (.inl ((c||(!l)),(i64.wrap (a+1))))) (some (.inr (.inl c)))
def zom(l:List za)(c:zb)(d:Bool)(a:Int):zL (Bool×Int) (Bool) (Bool):=
  cond (decide (a<(length c.Maps:Int))) ((idx c.Maps a).bind λe=>(idx c.Maps a).bind λf=>(Xx 16 ([]:T1) e.Locals).bind λi=>(Xx 16 i f.Stack).bind λj=>(zk (λz=>zol l j z.1 z.2) (d,0)).bind λo=>zB o (λb=>zoi a b) (λr=>some (.inr (.inr r)))) (some (.inr (.inl d)))
def zi5(a:List za)(f:T0)(c:Int):Option (Bool):=
  (zS a f).bind λd=>(cond ((decide (d<0))||(decide (c<0))) (some true) ((idx a d).bind λj=>some (decide ((length j.Methods:Int)≤c)))).bind λl=>(cond l (some true) ((idx a d).bind λm=>(idx m.Methods c).bind λn=>some n.Abstract)).bind λp=>cond p (some false) ((idx a d).bind λi=>(idx i.Methods c).bind λe=>(zk (λz=>zom a e z.1 z.2) (false,0)).bind λo=>zB o (λb=>zoj a f e b) some)
instance (c:List za)(d:T0)(V:Int):PF prog 119 [.ipt 1 [[cL c]] 0 0,sA d,iA V] (zi5 c d V) bA:=⟨λr h=>by
 refine zi func119 y kz y y<|A ?_;obtain ⟨v4,q1,h⟩:=bs h;refine A ?_;refine ze ?_;obtain ⟨v6,q5,v9,q9,h⟩:=bs2 h;refine A ?_;apply Xa h y<;>intro O h
 .refine A ?_;exact RT0
 .refine zc ?_;obtain ⟨v10,q11,a,q12,h⟩:=bs2 h;refine A ?_;refine ze<|A ?_;obtain ⟨o,ho,h⟩:=bs h;refine lpB ho (λz=>[(0,.ipt 1 [[cL c]] 0 0),(8,.mpt 0 0 0),(9,iA z.2)]) (λz=>[some (15,[(rK c d a (nS) (nS) (bA z.1))])]) (λb=>[(0,.ipt 1 [[cL c]] 0 0),(8,.mpt 0 0 0)]) (λb=>[some (15,[(rK c d a (nS) (nS) (bA b))])]) (pG f119 bA) (Xb [0]) ?_ ?_
  .rintro ⟨W,m⟩ r h;refine ze<|A ?_;apply Xa h y<;>intro P h
   .refine zc<|ze<|zh ?_;obtain ⟨Y,x,Z,v,H,q39,n,q40,h⟩:=bs4 h;refine rdA [(0,.ipt 1 [[cL c]] 0 0),(8,.mpt 0 0 0),(9,iA m),(10,.msl 1 0 (length n))] [some (15,[(rK c d a (nS) (nS) (bA W))]),sT n] [9,19] [18,17,16,15,14,13,12,11,10,8,7,6,5,4,3,2,1,0] [(96,tL Z.Stack),(95,.ipt 3 (map zO a.Maps) (Int.toNat m) 2),(94,.ipt 3 (map zO a.Maps) (Int.toNat m) 0),(93,iA m),(92,.isl 3 (map zO a.Maps)),(91,.mpt 0 0 10),(90,.mpt 0 0 2),(89,.mpt 0 0 0),(88,.mpt 0 0 0),(86,tL Y.Locals),(85,.ipt 3 (map zO a.Maps) (Int.toNat m) 1),(84,.ipt 3 (map zO a.Maps) (Int.toNat m) 0),(83,iA m),(82,.isl 3 (map zO a.Maps)),(81,.mpt 0 0 10),(80,.mpt 0 0 2),(79,.mpt 0 0 0),(78,.mpt 0 0 0)] 2 (ZQ ⟨(pb y (ldI ti y (zQ v).2.2 y w)),(pb y (fa ti y y y w)),(pb y (ixI ti y ti y y y v w)),pe,(pb y (ld ti y y w)),(pb y (fa ti y y y w)),(pb y (fa ti y y y w)),pe,pe,(pb y (ldI ti y (zQ x).2.2 y w)),(pb y (fa ti y y y w)),(pb y (ixI ti y ti y y y x w)),pe,(pb y (ld ti y y w)),(pb y (fa ti y y y w)),(pb y (fa ti y y y w)),pe,pe,t⟩ ⟨(λ_ _=>⟨_,y,y,apN (f:=Xf) 1 ti y ti y y (by decide) ti y y y roI (λ_=>y) y q39<|⟨(.msl 1 0 (length H)),[],[(87,.msl 1 0 (length H))],y,y,kz,y,ZQ ⟨(pb y (ldI ti y (zQ v).2.2 y w)),(pb y (fa ti y y y w)),(pb y (ixI ti y ti y y y v w)),pe,(pb y (ld ti y y w)),(pb y (fa ti y y y w)),(pb y (fa ti y y y w)),pe,pe,pe,(pb y (fa ti y y y w)),(pb y (ixI ti y ti y y y x w)),pe,(pb y (ld ti y y w)),(pb y (fa ti y y y w)),(pb y (fa ti y y y w)),pe,pe,t⟩ ⟨nv,(λ_ _=>⟨_,y,y,apM 2 ti y ti y y (by decide) ti y y y y roI (λ_=>y) y q40<|⟨(.msl 2 0 (length n)),[20],[(10,.msl 2 0 (length n)),(97,.msl 2 0 (length n))],y,y,kz,y,Ue ⟨pe,pe,(pb y (fa ti y y y w)),(pb y (ixI ti y ti y y y v w)),pe,(pb y (ld ti y y w)),(pb y (fa ti y y y w)),(pb y (fa ti y y y w)),pe,pe,pe,(pb y (fa ti y y y w)),(pb y (ixI ti y ti y y y x w)),pe,(pb y (ld ti y y w)),(pb y (fa ti y y y w)),(pb y (fa ti y y y w)),pe,pe,t⟩ (zm [0,2])⟩⟩),t⟩⟩⟩),nw,t⟩) ?_;refine A ?_;obtain ⟨o,ho,h⟩:=bs h;refine lpS ho (λz=>[(0,.ipt 1 [[cL c]] 0 0),(8,.mpt 0 0 0),(9,iA m),(10,.msl 1 0 (length n)),(11,iA z.2)]) (λz=>[some (15,[(rK c d a (nS) (nS) (bA z.1))]),sT n]) (λb=>[(0,.ipt 1 [[cL c]] 0 0),(8,.mpt 0 0 0),(9,iA m)]) (λb=>[some (15,[(rK c d a (nS) (nS) (bA b))])]) (pG f119 bA) (Xb [0,1]) ?_ ?_ ?_
    .rintro ⟨I,v50⟩ r h;refine ze<|A ?_;apply Xa h y<;>intro Q h
     .refine zc<|ze<|zh ?_;obtain ⟨v51,q51,v53,q54,J,q58,h⟩:=bs3 h;refine A ?_;refine u<|sx [0] (EY c d a I J y)<|zu (env0:=[(0,.ipt 1 [[cL c]] 0 0),(8,.mpt 0 0 0),(9,iA m),(10,.msl 1 0 (length n)),(11,iA v50)]) (st0:=[some (15,[(rK c d a (nS) (nS) (bA (I||(!J))))]),sT n]) (zm [0,1])<|zw ?_;refine A ?_;cases h;exact ⟨_,y,zm [0,1]⟩
     .refine zp ?_;cases h;exact ⟨y,_,y,zm [0]⟩
    .rintro v57 rfl;refine zl<|A ?_;cases h;exact ⟨_,y,zm [0]⟩
    .rintro r' rfl env st hp;cases h;exact ⟨_,y,hp⟩
   .refine zp ?_;cases h;exact ⟨y,_,y,zm [0]⟩
  .rintro v58 rfl;refine zl<|ze<|A ?_;obtain ⟨o,ho,h⟩:=bs h;refine lpB ho (λz=>[(0,.ipt 1 [[cL c]] 0 0),(8,.mpt 0 0 0),(12,iA z.2)]) (λz=>[some (15,[(rK c d a (nS) (nS) (bA z.1))])]) (λb=>[(0,.ipt 1 [[cL c]] 0 0),(8,.mpt 0 0 0)]) (λb=>[some (15,[(rK c d a (nS) (nS) (bA b))])]) (pG f119 bA) (Xb [0]) ?_ ?_
   .rintro ⟨K,v64⟩ r h;refine ze<|A ?_;apply Xa h y<;>intro R h
    .refine zc<|ze<|zh ?_;obtain ⟨v65,q63,L,q64,h⟩:=bs2 h;refine A ?_;refine u<|sx [0] (EY c d a K L y)<|zu (env0:=[(0,.ipt 1 [[cL c]] 0 0),(8,.mpt 0 0 0),(12,iA v64)]) (st0:=[some (15,[(rK c d a (nS) (nS) (bA (K||(!L))))])]) (zm [0])<|zw ?_;refine A ?_;cases h;exact ⟨_,y,zm [0]⟩
    .refine zp ?_;cases h;exact ⟨y,_,y,zm [0]⟩
   .rintro C rfl;refine zl ?_;obtain ⟨D,q67,h⟩:=bs h;refine A ?_;refine u<|sx [0] (EY c d a C D y)<|zu (env0:=[(8,.mpt 0 0 0)]) (st0:=[some (15,[(rK c d a (nS) (nS) (bA (C||(!D))))])]) (zm [0])<|zw ?_;obtain ⟨v70,q68,h⟩:=bs h;refine rg y<|u<|mv y<|ph 1<|ph 1<|u<|sc [0,1,2] (zkF c d a [] [] (C||(!D)) q68) y y y y ⟨(.mpt y),t⟩ ⟨⟨_,y,(KX y ⟨(.nil0 y),(.nil0 y),(rnI y),t⟩)⟩,⟨y,mkI (λ_=>y)⟩,⟨y,mkI (λ_=>y)⟩,t⟩<|zw ?_;refine A ?_;refine ze<|A ?_;obtain ⟨o,ho,h⟩:=bs h;refine lpB ho (λz=>[(8,.mpt 0 0 0),(13,bA z.2.2.2.1),(14,iA z.2.2.2.2)]) (λz=>(sR c d a z.1 z.2.1 z.2.2.1 [])) (λb=>[(8,.mpt 0 0 0),(13,bA b.2.2.2)]) (λb=>(sR c d a b.1 b.2.1 b.2.2.1 [])) (pG f119 bA) (Xb [0]) ?_ ?_
    .rintro ⟨j,l,B,p,i⟩ r h;refine ze<|A ?_;apply Xa h y<;>intro S h
     .refine zc<|ze<|zh ?_;obtain ⟨e,q84,h⟩:=bs h;refine A ?_;refine u<|sx [0] (zgk c d a j l B i q84)<|zu (env0:=[(8,.mpt 0 0 0),(13,bA p),(14,iA i),(187,.tup [.agg (zO e.1),bA e.2])]) (st0:=(sR c d a j l B [])) (zm [0])<|A ?_;refine Xz (X:=Bool) (λz=>[(8,.mpt 0 0 0),(13,bA p),(14,iA i),(15,.mpt 1 0 0),(16,bA e.2)]) (λz=>(sR c d a j l z [some (3,[(zO e.1)])])) (λz=>zhg c d a j l p i e z=some r) ?_ ?_
      .refine A ?_;apply Xa h y<;>intro T h
       .obtain ⟨M,q87,h⟩:=bs h;refine XC [(8,_),(13,_),(14,_),(15,_),(16,_)] (sR c d a j l M [some (3,[(zO e.1)])]) [12] [0,1,2,3,4,5,6,7,8,9,10,11] [(205,_),(204,_),(203,_),(202,_),(201,_),(200,_),(199,_),(198,_),(197,_),(196,_),(195,_),(194,_)] 1 (Xi (z:=by exact ⟨(λ_ _=>⟨_,y,y,sx [0] (zgD c d a j l B i j l q87)<|⟨(.tup []),[],[(206,_)],y,y,y,y,Xl (z:=Xb [0,1])⟩⟩),t⟩)) ?_;exact ⟨M,h,zm [0,1]⟩
       .refine zc ?_;exact ⟨B,h,zm [0,1]⟩
      .rintro q h;refine A ?_;refine u<|sx [0] (zr c d a j l q (e.2||p) y)<|zu (env0:=[(8,.mpt 0 0 0),(14,iA i),(15,.mpt 1 0 0),(16,bA e.2)]) (st0:=(sR c d a j l (q||(!(e.2||p))) [some (3,[(zO e.1)])])) (zm [0,1])<|zw ?_;refine Xz (X:=T1×T1) (λz=>[(8,.mpt 0 0 0),(14,iA i)]) (λz=>(sR c d a z.1 z.2 (q||(!(e.2||p))) [])) (λz=>zhh c d a p i e q z.1 z.2=some r) ?_ ?_
       .refine A ?_;apply Xa h y<;>intro U h
        .obtain ⟨s,q90,h⟩:=bs h;refine A ?_;refine u<|sx [] (zjI (GG.mk e.1.Locals e.1.Stack) q90)<|zu (env0:=[(8,.mpt 0 0 0),(14,iA i),(214,.mpt 0 0 0),(220,.agg [.msl 1 0 (length s.1),.msl 2 0 (length s.2)])]) (st0:=(sR c d a j l (q||(!(e.2||p))) [sT s.1,sT s.2])) (zm [0,2,3])<|A ?_;exact (⟨⟨s.1,s.2⟩,h,zm [0]⟩)
        .refine zc ?_;exact ⟨⟨j,l⟩,h,zm [0]⟩
       .rintro ⟨E,F⟩ h;obtain ⟨N,q91,h⟩:=bs h;refine rg y<|u<|mv y<|u<|mv y<|u<|sx [0] (zkH c d a E F (q||(!(e.2||p))) i q91)<|zu (env0:=[(8,.mpt 0 0 0),(14,iA i)]) (st0:=(sR c d a E F N [])) (zm [0])<|zw ?_;obtain ⟨v98,q92,G,q93,h⟩:=bs2 h;refine A ?_;refine u<|sx [0] (zkG c d a E F N v98 q93)<|zu (env0:=[(8,.mpt 0 0 0),(14,iA i)]) (st0:=(sR c d a G.1 G.2.1 G.2.2 [])) (zm [0])<|zw ?_;obtain ⟨v100,q94,h⟩:=bs h;refine A ?_;refine A ?_;cases h;exact ⟨_,y,zm [0]⟩
     .refine zp ?_;cases h;exact ⟨y,_,y,zm [0]⟩
    .rintro ⟨v101,v102,v103,v104⟩ rfl;refine zl<|A ?_
     exact RT0⟩
def zws(a:List za):Option ((Option zq)×Int):=
  some ((some (zq.mk a)),0)
def zrv(a:Int)(b:zq):zL ((Option zq)×Int) ((List za)) ((Option zq)×Int):=
  some (.inl ((some b),(i64.wrap (a+1))))
def O5(c:Int)(a:zq)(b:Int):zL (Int) (Unit) ((Option zq)×Int):=
  (idx a.L c).bind λd=>cond (decide (b<(length d.Methods:Int))) ((idx a.L c).bind λe=>(idx e.Methods b).bind λf=>(cond (!f.Abstract) ((idx a.L c).bind λi=>(zi5 a.L i.Name b).bind λj=>some (!j)) (some false)).bind λl=>cond l (some (.inr (.inr (none,5)))) (some (.inl (i64.wrap (b+1))))) (some (.inr (.inl ())))
def DP(d:Option zq)(c:Int):zL ((Option zq)×Int) ((List za)) ((Option zq)×Int):=
  Zq d (none) (λa=>cond (decide (c<(length a.L:Int))) ((zk (λz=>O5 c a z) 0).bind λo=>zB o (λb=>zrv c a) (λr=>some (.inr (.inr r)))) (some (.inr (.inl a.L))))
def zm2(f:List za)(d:X1):Option ((Option zq)×Int):=
  (zs5 f).bind λa=>cond (!(a.2 == 0)) (some (none,a.2)) ((EQ a.1).bind λe=>cond (!(e == 0)) (some (none,e)) ((zfC a.1 d.C d.M).bind λc=>cond ((((!c.2.2)||(!c.2.1.Static))||(decide (0<(length c.2.1.Params:Int))))||(!(c.2.1.Ret == [86]))) (some (none,4)) ((zk (λz=>DP z.1 z.2) (a.1,0)).bind λo=>zB o (λb=>zws b) some)))
theorem zrw(l:List za)(c:X1){r:(Option zq)×Int}(h:zm2 l c=some r):Xo prog 43 [cL l,.agg (Kw c)] (.tup [Xy 1 Zw r.1,iA r.2]):=by
 refine zi func43 y kz y (zzM (Z8 (Zh (λ_=>y)) (y))) ?_;refine A ?_;obtain ⟨m,N,h⟩:=bs h;refine A ?_;refine ze<|A ?_;apply Xa h y<;>intro n h
 .refine A ?_;exact RT0
 .refine zc<|ze ?_;obtain ⟨O,s,h⟩:=bs h;refine rg y<|u<|mv y<|u<|pc (zlI m.1 s) y y (Z8 (Zh (λ_=>y)) (y))<|A ?_;refine A ?_;apply Xa h y<;>intro p h
  .refine A ?_;exact RT0
  .refine zc ?_;obtain ⟨P,v,h⟩:=bs h;refine A ?_;refine u<|pc (zjP m.1 c.C c.M v) y y (Z8 (Zh (λ_=>y)) (y))<|A ?_;refine ze<|A ?_;apply Xa h y<;>intro q h
   .refine A ?_;exact RT0
   .refine zc<|ze<|A ?_;obtain ⟨o,ho,h⟩:=bs h;refine lpB ho (λz=>[(6,Xy 1 Zw z.1),(12,iA z.2)]) (λz=>[]) (λb=>[(6,.ipt 1 [[cL b]] 0 0)]) (λb=>[]) (pG f43 (λr=>.tup [Xy 1 Zw r.1,iA r.2])) (Xb []) ?_ ?_
    .rintro ⟨d,a⟩ r h;replace h:DP d a=some r:=h;unfold DP at h;refine ze ?_;refine rg y<|u<|mv y<|u<|mv y<|?_
     rcases d with _ |e
     .replace h:=oeN h;cases h
     .replace h:=oeS h;refine u<|nc y y<|u<|fa ti y y y<|u<|ld ti y y<|u<|lnI ti y y<|u<|lss ti y y<|zw ?_;apply Xa h y<;>intro f h
      .refine zc<|ze<|zh<|A ?_;obtain ⟨o,ho,h⟩:=bs h;refine lpS ho (λz=>[(6,.ipt 1 [[cL e.L]] 0 0),(12,iA a),(13,iA z)]) (λz=>[]) (λb=>[(6,.ipt 1 [[cL e.L]] 0 0),(12,iA a)]) (λb=>[]) (pG f43 (λr=>.tup [Xy 1 Zw r.1,iA r.2])) (Xb []) ?_ ?_ ?_
       .rintro x r h;refine ze ?_;obtain ⟨B,D,h⟩:=bs h;refine A ?_;apply Xa h y<;>intro i h
        .refine zc<|ze<|zh ?_;obtain ⟨E,F,G,H,I,J,h⟩:=bs3 h;refine A ?_;apply Xa h y<;>intro j h
         .refine A ?_;refine zA ?_;cases h;exact ⟨_,y,_,y,Xc []⟩
         .refine zc<|A ?_;cases h;exact ⟨_,y,zm []⟩
        .refine zp ?_;cases h;exact ⟨y,_,y,zm []⟩
       .rintro ⟨⟩ rfl;refine zl<|A ?_;cases h;exact ⟨_,y,zm []⟩
       .rintro r' rfl env st hp;cases h;exact ⟨_,y,hp⟩
      .refine zp ?_;cases h;exact ⟨y,_,y,zm []⟩
    .rintro K rfl;refine zl<|A ?_;exact RT0
instance (a:List za)(b:X1):PF prog 43 [cL a,.agg (Kw b)] (zm2 a b) (λr=>(.tup [Xy 1 Zw r.1,iA r.2])):=⟨λ_=>zrw a b⟩
def zx4(x:X1):Prop:=(wS) x.C/\(wS) x.M
theorem zA6{n:Nat}{avs:List AV}(h:Zt prog (n+2) 84 avs):∃x:X1,avs=Kw x/\zx4 x:=by
 obtain ⟨parts,rfl,hl,hg⟩:=gdF underlying84 h
 match parts,hl with
 | [p0,p1],_ =>
  obtain ⟨x0,rfl,w0⟩:=gdS underlying9 (hg 0 _ p0 rfl rfl);obtain ⟨x1,rfl,w1⟩:=gdS underlying9 (hg 1 _ p1 rfl rfl);exact ⟨⟨x0,x1⟩,rfl,w0,w1⟩
structure GH where
  L:List za
  E:X1
  In:List Int
  Fuel:Int
def zpB(x:GH):List AV:=[cL x.L,sA x.E.C,sA x.E.M,.isl 1 (map (rI .i32) x.In),iA x.Fuel]
def zod(a:T1):Option (T1):=
  some a
def zfL(a:T1)(b:T0)(c:T0)(e:Bool):zL (T1×T0×T0×Bool) (T1) (T1):=
  (cond e ((zI a b).bind λf=>some (!f)) (some false)).bind λi=>cond i ((Xx 16 a [b]).bind λj=>(Ge c).bind λd=>some (.inl (j,c,d.1,d.2))) (some (.inr (.inl a)))
def If(e:List za)(f:T2)(d:T1)(i:T1)(j:T1)(a:T0):Option (T1):=
  (Ge a).bind λc=>(zk (λz=>zfL z.1 z.2.1 z.2.2.1 z.2.2.2) (d,a,c.1,c.2)).bind λo=>zB o (λb=>zod b) some
theorem zhL(i:List za)(l:T2)(n:T1)(c:T1)(d:T1)(q:T0){r:T1}(h:If i l n c d q=some r):SC prog 126 [.mpt 0 0 0,sA q] [.one 4 [.ipt 2 [[cL i,mI l]] 0 0,.msl 1 0 (length n),.msl 2 0 (length c),.msl 3 0 (length d)],.many 1 (map Xf n),.many 1 (map Xf c),.many 1 (map Xf d)] (.tup []) [.one 4 [.ipt 2 [[cL i,mI l]] 0 0,.msl 4 0 (length r),.msl 2 0 (length c),.msl 3 0 (length d)],.no,.many 1 (map Xf c),.many 1 (map Xf d),.many 1 (map Xf r)]:=by
 refine ⟨⟨t,t,Xw (sz:=1) (λ_=>y),Xw (sz:=1) (λ_=>y),Xw (sz:=1) (λ_=>y),t⟩,zR func126 y kz y ?_⟩;obtain ⟨K,L,h⟩:=bs h;refine A ?_;obtain ⟨o,ho,h⟩:=bs h;refine lpB ho (λz=>[(0,.mpt 0 0 0),(1,sA z.2.1),(4,sA z.2.2.1),(5,bA z.2.2.2)]) (λz=>[some (4,[[.ipt 2 [[cL i,mI l]] 0 0,.msl 4 0 (length z.1),.msl 2 0 (length c),.msl 3 0 (length d)]]),none,sT c,sT d,sT z.1]) (λb=>[]) (λb=>[some (4,[[.ipt 2 [[cL i,mI l]] 0 0,.msl 4 0 (length b),.msl 2 0 (length c),.msl 3 0 (length d)]]),none,sT c,sT d,sT b]) (λr env st=>U0 prog f126 4 (.tup []) [some (4,[[.ipt 2 [[cL i,mI l]] 0 0,.msl 4 0 (length r),.msl 2 0 (length c),.msl 3 0 (length d)]]),none,sT c,sT d,sT r] env st) (Xb [0,.dead,2,3,1]) ?_ ?_
 .rintro ⟨s,m,D,E⟩ r h;refine ze ?_;obtain ⟨v,e,h⟩:=bs h;refine A ?_;refine Zi (x:=v) (j:=1) 7 y y y y y gpn (λa=>by replace e:=bT a e;obtain ⟨F,C,e⟩:=bs e;obtain rfl:=sm e;exact g y a<|mv y<|g y a<|nc y y<|g y a<|fa ti y y y<|g y a<|ld ti y y<|g y a<|mv y<|g y a<|pcs (Wh s m C) y y (.cons (XM y (λ_=>y)) (.cons (si y) .nil)) XA<|g y a<|nt y<|zw (eg [13,14,15,16,17,18,19] 7 y y y y)) (λhb=>(sm (bF hb e)).symm)<|zw ?_;apply Xa h y<;>intro p h
  .refine zc<|ze<|zh ?_;obtain ⟨G,B,h⟩:=bs h;refine A ?_;refine u<|apM 6 ti y ti y y (by decide) ti y y y y (roX (f:=Xf) (z:=[m]) y y) (λ_=>y) y B<|A ?_;refine A ?_;obtain ⟨H,I,h⟩:=bs h;refine A ?_;cases h;exact ⟨_,y,zm [0,.dead,2,3,6]⟩
  .refine zp ?_;cases h;exact ⟨y,_,y,zm [0,.dead,2,3,4]⟩
 .rintro J rfl;refine zl ?_;cases h;exact ⟨_,y,Xc [0,.dead,2,3,4]⟩
def zgB(c:List za)(d:T2)(a:T1)(e:T1)(f:T1)(i:zs)(j:Bool):Option (T1):=
  cond j ((If c d a e f i.C).bind λb=>some b) (some a)
def zir(b:List za)(c:T2)(d:T1)(e:T1)(f:T1)(a:zs):Option (T1):=
  cond (a.Op == 50) ((zmN a.C).bind λi=>(If b c d e f i).bind λj=>some j) (cond (a.Op == 56) (zgB b c d e f a (a.Op == 56)) (zgB b c d e f a (a.Op == 57)))
theorem zpJ(c:List za)(d:T2)(e:T1)(a:T1)(b:T1)(f:zs){r:T1}(h:zir c d e a b f=some r):SC prog 127 [.mpt 0 0 0,.agg (zt f)] [.one 4 [.ipt 2 [[cL c,mI d]] 0 0,.msl 1 0 (length e),.msl 2 0 (length a),.msl 3 0 (length b)],.many 1 (map Xf e),.many 1 (map Xf a),.many 1 (map Xf b)] (.tup []) [.one 4 [.ipt 2 [[cL c,mI d]] 0 0,.msl 4 0 (length r),.msl 2 0 (length a),.msl 3 0 (length b)],.no,.many 1 (map Xf a),.many 1 (map Xf b),.many 1 (map Xf r)]:=by
 refine ⟨⟨t,t,Xw (sz:=1) (λ_=>y),Xw (sz:=1) (λ_=>y),Xw (sz:=1) (λ_=>y),t⟩,zR func127 y kz y ?_⟩;refine A ?_;refine A ?_;refine zh<|A ?_;apply Xa h y<;>intro j h
 .obtain ⟨o,s,l,p,h⟩:=bs2 h;refine A ?_;refine u<|sx [0,1,2,3] (zhL c d e a b o p)<|zu (env0:=[]) (st0:=[some (4,[[.ipt 2 [[cL c,mI d]] 0 0,.msl 4 0 (length l),.msl 2 0 (length a),.msl 3 0 (length b)]]),none,sT a,sT b,sT l]) (zm [0,.dead,2,3,5])<|zw ?_;cases h;exact ⟨_,y,Xc [0,.dead,2,3,4]⟩
 .refine Xz (X:=Bool) (λz=>[(0,.mpt 0 0 0),(3,.mpt 4 0 0),(13,bA z)]) (λz=>[some (4,[[.ipt 2 [[cL c,mI d]] 0 0,.msl 1 0 (length e),.msl 2 0 (length a),.msl 3 0 (length b)]]),sT e,sT a,sT b,some (4,[(zt f)])]) (λz=>zgB c d e a b f z=some r) ?_ ?_
  .refine A ?_;apply Xa h y<;>intro m h
   .refine zc ?_;exact ⟨(f.Op == 56),h,zm [0,1,2,3,4]⟩
   .refine A ?_;exact (⟨(f.Op == 57),h,zm [0,1,2,3,4]⟩)
  .rintro v h;apply Xa h y<;>intro n h
   .obtain ⟨i,q,h⟩:=bs h;refine A ?_;refine u<|sx [0,1,2,3] (zhL c d e a b f.C q)<|zu (env0:=[]) (st0:=[some (4,[[.ipt 2 [[cL c,mI d]] 0 0,.msl 4 0 (length i),.msl 2 0 (length a),.msl 3 0 (length b)]]),none,sT a,sT b,sT i]) (zm [0,.dead,2,3,5])<|zw ?_;cases h;exact ⟨_,y,Xc [0,.dead,2,3,4]⟩
   .refine zc ?_;cases h;exact ⟨_,y,Xc [0,.dead,2,3,1]⟩
def zuI(d:zD)(a:T1)(b:T1)(c:T1):Option ((List za)×T2×T1×T1×T1):=
  some (d.l,d.at_,a,b,c)
def zuH(c:Int)(d:T1)(a:T1)(b:T1):zL (T1×T1×T1×Int) (T1×T1×T1) ((List za)×T2×T1×T1×T1):=
  some (.inl (a,b,d,(i64.wrap (c+1))))
def zuG(a:Int)(b:T1)(c:T1):zL (T1×T1×Int) (T1×T1) ((List za)×T2×T1×T1×T1):=
  some (.inl (c,b,(i64.wrap (a+1))))
def DU(i:zD)(j:T1)(b:zb)(d:T1)(c:T1)(a:Int):zL (T1×Int) (T1) ((List za)×T2×T1×T1×T1):=
  cond (decide (a<(length b.Code:Int))) ((idx b.Code a).bind λe=>(zir i.l i.at_ c d j e).bind λf=>some (.inl (f,(i64.wrap (a+1))))) (some (.inr (.inl c)))
def DS(p:zD)(m:T0)(i:za×Bool)(n:T1)(c:T1)(d:T1)(a:Int):zL (T1×T1×Int) (T1×T1) ((List za)×T2×T1×T1×T1):=
  cond (decide (a<(length i.1.Methods:Int))) ((idx i.1.Methods a).bind λe=>(X2 m [46]).bind λj=>(X2 j e.Name).bind λl=>(Xx 16 d [l]).bind λf=>(zk (λz=>DU p n e f z.1 z.2) (c,0)).bind λo=>zB o (λb=>zuG a f b) (λr=>some (.inr (.inr r)))) (some (.inr (.inl (c,d))))
def zpY(j:zD)(c:T1)(d:Int)(e:T0)(f:za×Bool)(i:T1)(a:T1):zL (T1×T1×T1×Int) (T1×T1×T1) ((List za)×T2×T1×T1×T1):=
  (zk (λz=>DS j e f a z.1 z.2.1 z.2.2) (i,c,0)).bind λo=>zB o (λb=>zuH d a b.1 b.2) (λr=>some (.inr (.inr r)))
def zkp(a:Int)(b:T1)(c:T1):zL (T1×T1×Int) (T1×T1) ((List za)×T2×T1×T1×T1):=
  some (.inl (b,c,(i64.wrap (a+1))))
def DV(i:zD)(j:T1)(m:T0)(d:za×Bool)(e:T1)(a:T1)(b:Int):zL (T1×T1×Int) (T1×T1) ((List za)×T2×T1×T1×T1):=
  cond (decide (b<(length d.1.Fields:Int))) ((idx d.1.Fields b).bind λc=>(If i.l i.at_ e j a c.Type_).bind λf=>cond c.Static ((X2 m [46]).bind λn=>(X2 n c.Name).bind λo=>(Xx 16 a [o]).bind λp=>zkp b f p) (zkp b f a)) (some (.inr (.inl (e,a))))
def Bc(e:zD)(m:T1)(f:T1)(a:T1)(i:T1)(c:Int):zL (T1×T1×T1×Int) (T1×T1×T1) ((List za)×T2×T1×T1×T1):=
  cond (decide (c<((length m):Int))) ((idx m c).bind λd=>(zK e.l e.at_ d).bind λj=>(zk (λz=>DV e a d j z.1 z.2.1 z.2.2) (f,i,0)).bind λo=>zB o (λb=>zpY e a c d j b.1 b.2) (λr=>some (.inr (.inr r)))) (some (.inr (.inl (f,a,i))))
def OG(c:Option zD):Option ((List za)×T2×T1×T1×T1):=
  Zq c (none) (λa=>(BB a.l a.at_).bind λd=>(Xx 16 d ([[91,73]])).bind λe=>(BB a.l a.at_).bind λf=>(zk (λz=>Bc a f z.1 z.2.1 z.2.2.1 z.2.2.2) (e,[],[],0)).bind λo=>zB o (λb=>zuI a b.1 b.2.1 b.2.2) some)
theorem zrd(F:Option zD){r:(List za)×T2×T1×T1×T1}(h:OG F=some r):SC prog 44 [Xy 2 Zx F] [] (.mpt 0 0 0) [.one 4 [.ipt 2 [[cL r.1,mI r.2.1]] 0 0,.msl 1 0 (length r.2.2.1),.msl 2 0 (length r.2.2.2.1),.msl 3 0 (length r.2.2.2.2)],.many 1 (map Xf r.2.2.1),.many 1 (map Xf r.2.2.2.1),.many 1 (map Xf r.2.2.2.2)]:=by
 refine ⟨⟨t,Xw (sz:=1) (λ_=>y),Xw (sz:=1) (λ_=>y),Xw (sz:=1) (λ_=>y),t⟩,zR func44 y kz y ?_⟩;unfold OG at h
 rcases F with _ |a
 .replace h:=oeN h;cases h
 .replace h:=oeS h;refine A ?_;obtain ⟨P,Y,Q,Z,h⟩:=bs2 h;refine A ?_;refine u<|sx [] (zf7 a.l a.at_ Y)<|zu (env0:=[(0,.ipt 2 [[cL a.l,mI a.at_]] 0 0),(14,.ipt 2 [[cL a.l,mI a.at_]] 0 0),(16,.msl 0 0 (length P))]) (st0:=[sT P]) (zm [0])<|A ?_;refine u<|apM 2 ti y ti y y (by decide) ti y y y y (roX (f:=Xf) (z:=[[91,73]]) y y) (λ_=>y) y Z<|A ?_;refine ze ?_;obtain ⟨c,q3,h⟩:=bs h;refine rg y<|u<|mv y<|u<|sx [] (zf7 a.l a.at_ q3)<|zu (env0:=[(0,.ipt 2 [[cL a.l,mI a.at_]] 0 0),(3,.mpt 0 0 0),(22,.msl 2 0 (length c))]) (st0:=[some (4,[[.ipt 2 [[cL a.l,mI a.at_]] 0 0,.msl 1 0 (length Q),nS,nS]]),sT Q,sT c]) (zm [3,2,4])<|A ?_;obtain ⟨o,ho,h⟩:=bs h;refine lpB ho (λz=>[(0,.ipt 2 [[cL a.l,mI a.at_]] 0 0),(3,.mpt 0 0 0),(22,.msl 4 0 (length c)),(23,iA ((length c):Int)),(24,iA z.2.2.2)]) (λz=>[some (4,[[.ipt 2 [[cL a.l,mI a.at_]] 0 0,.msl 1 0 (length z.1),.msl 2 0 (length z.2.1),.msl 3 0 (length z.2.2.1)]]),sT z.1,sT z.2.1,sT z.2.2.1,sT c]) (λb=>[(3,.mpt 0 0 0)]) (λb=>[some (4,[[.ipt 2 [[cL a.l,mI a.at_]] 0 0,.msl 1 0 (length b.1),.msl 2 0 (length b.2.1),.msl 3 0 (length b.2.2)]]),sT b.1,sT b.2.1,sT b.2.2]) (pF f44 (λr=>.mpt 0 0 0) λr=>[some (4,[[.ipt 2 [[cL r.1,mI r.2.1]] 0 0,.msl 1 0 (length r.2.2.1),.msl 2 0 (length r.2.2.2.1),.msl 3 0 (length r.2.2.2.2)]]),sT r.2.2.1,sT r.2.2.2.1,sT r.2.2.2.2]) ⟨[0,1,.fresh 1,.fresh 1,2],ce y y<|cv y (.mpt y)<|cv y (.msl y)<|ce y y<|ce y y<|cn,y,⟨⟨_,y,Ze ⟨ci y,.msl y,.nilown y,.nilown y,t⟩⟩,⟨_,y,XY (λ_=>y)⟩,w,w,⟨_,y,XY (λ_=>y)⟩,t⟩,y,k⟩ ?_ ?_
  .rintro ⟨v68,j,v70,m⟩ r h;refine A ?_;refine ze ?_;apply Xa h y<;>intro G h
   .refine zc<|ze<|zh ?_;obtain ⟨n,q44,h⟩:=bs h;refine A ?_;obtain ⟨d,q45,h⟩:=bs h;refine A ?_;refine ze<|A ?_;obtain ⟨o,ho,h⟩:=bs h;refine lpS ho (λz=>[(0,.ipt 2 [[cL a.l,mI a.at_]] 0 0),(3,.mpt 0 0 0),(5,sA n),(6,.mpt 4 0 0),(22,.msl 5 0 (length c)),(23,iA ((length c):Int)),(24,iA m),(35,.isl 3 (map zv d.1.Fields)),(36,iA (length d.1.Fields:Int)),(37,iA z.2.2)]) (λz=>[some (4,[[.ipt 2 [[cL a.l,mI a.at_]] 0 0,.msl 1 0 (length z.1),.msl 2 0 (length j),.msl 3 0 (length z.2.1)]]),sT z.1,sT j,sT z.2.1,some (6,[(zf d.1)]),sT c]) (λb=>[(0,.ipt 2 [[cL a.l,mI a.at_]] 0 0),(3,.mpt 0 0 0),(5,sA n),(6,.mpt 4 0 0),(22,.msl 5 0 (length c)),(23,iA ((length c):Int)),(24,iA m)]) (λb=>[some (4,[[.ipt 2 [[cL a.l,mI a.at_]] 0 0,.msl 1 0 (length b.1),.msl 2 0 (length j),.msl 3 0 (length b.2)]]),sT b.1,sT j,sT b.2,some (6,[(zf d.1)]),sT c]) (pF f44 (λr=>.mpt 0 0 0) λr=>[some (4,[[.ipt 2 [[cL r.1,mI r.2.1]] 0 0,.msl 1 0 (length r.2.2.1),.msl 2 0 (length r.2.2.2.1),.msl 3 0 (length r.2.2.2.2)]]),sT r.2.2.1,sT r.2.2.2.1,sT r.2.2.2.2]) (Xb [0,1,2,3,5,4]) ?_ ?_ ?_
    .rintro ⟨R,v,x⟩ r h;refine A ?_;refine ze ?_;apply Xa h y<;>intro H h
     .refine zc ?_;refine Xz (X:=T1×T1) (λz=>[(0,.ipt 2 [[cL a.l,mI a.at_]] 0 0),(3,.mpt 0 0 0),(5,sA n),(6,.mpt 4 0 0),(22,.msl 5 0 (length c)),(23,iA ((length c):Int)),(24,iA m),(35,.isl 3 (map zv d.1.Fields)),(36,iA (length d.1.Fields:Int)),(37,iA x)]) (λz=>[some (4,[[.ipt 2 [[cL a.l,mI a.at_]] 0 0,.msl 1 0 (length z.1),.msl 2 0 (length j),.msl 3 0 (length z.2)]]),sT z.1,sT j,sT z.2,some (6,[(zf d.1)]),sT c]) (λz=>zkp x z.1 z.2=some r) ?_ ?_
      .refine zh ?_;obtain ⟨E,q54,h⟩:=bs h;refine A ?_;obtain ⟨q,S,h⟩:=bs h;refine A ?_;refine u<|sx [0,1,2,3] (zhL a.l a.at_ R j v E.Type_ S)<|zu (env0:=[(0,.ipt 2 [[cL a.l,mI a.at_]] 0 0),(3,.mpt 0 0 0),(5,sA n),(6,.mpt 4 0 0),(9,.mpt 5 0 0),(22,.msl 6 0 (length c)),(23,iA ((length c):Int)),(24,iA m),(35,.isl 3 (map zv d.1.Fields)),(36,iA (length d.1.Fields:Int)),(37,iA x)]) (st0:=[some (4,[[.ipt 2 [[cL a.l,mI a.at_]] 0 0,.msl 1 0 (length q),.msl 2 0 (length j),.msl 3 0 (length v)]]),sT q,sT j,sT v,some (6,[(zf d.1)]),some (3,[(zv E)]),sT c]) (zm [0,7,2,3,4,6,5])<|zw ?_;refine A ?_;apply Xa h y<;>intro I h
       .obtain ⟨v89,q57,T,q58,B,U,h⟩:=bs3 h;refine XC [(0,.ipt 2 [[cL a.l,mI a.at_]] 0 0),(3,.mpt 0 0 0),(5,sA n),(6,.mpt 4 0 0),(22,.msl 5 0 (length c)),(23,iA ((length c):Int)),(24,iA m),(35,.isl 3 (map zv d.1.Fields)),(36,iA (length d.1.Fields:Int)),(37,iA x)] [some (4,[[.ipt 2 [[cL a.l,mI a.at_]] 0 0,.msl 1 0 (length q),.msl 2 0 (length j),.msl 3 0 (length B)]]),sT q,sT j,sT B,some (6,[(zf d.1)]),sT c] [10,11,14] [0,1,2,3,4,5,6,7,8,9] [(56,_),(55,_),(54,_),(53,_),(52,_),(51,_),(50,_),(49,_),(48,_),(47,_)] 3 (Xi (z:=by exact ⟨(λ_ _=>⟨_,y,y,bl 7 ti y ti y (by decide) (by decide) y y y<|⟨(.msl 7 0 1),[],[(57,_)],y,y,y,y,Xi (z:=by exact ⟨nv,(λ_ _=>⟨_,y,y,apM 8 ti y ti y y (by decide) ti y y y y (roX (f:=Xf) (z:=[T]) y y) (λ_=>y) y U<|⟨(.msl 8 0 (length B)),[12,13],[(60,_),(59,_),(58,_)],y,y,y,y,Xi (z:=by exact ⟨nv,nv,(λ_ _=>⟨_,y,y,sto ti y y y<|⟨.any,[],[],y,y,y,t,Xl (z:=Xb [0,1,2,8,4,6])⟩⟩),t⟩)⟩⟩),nw,t⟩)⟩⟩),nw,nw,t⟩)) ?_;exact ⟨⟨q,B⟩,h,zm [0,1,2,3,4,5]⟩
       .refine zc ?_;exact ⟨⟨q,v⟩,h,zm [0,1,2,3,4,6]⟩
      .rintro ⟨v92,v93⟩ h;refine A ?_;cases h;exact ⟨_,y,zm [0,1,2,3,4,5]⟩
     .refine zp ?_;cases h;exact ⟨y,_,y,zm [0,1,2,3,4,5]⟩
    .rintro ⟨v94,i⟩ rfl;refine zl<|A ?_;obtain ⟨o,ho,h⟩:=bs h;refine lpS ho (λz=>[(0,.ipt 2 [[cL a.l,mI a.at_]] 0 0),(3,.mpt 0 0 0),(5,sA n),(22,.msl 4 0 (length c)),(23,iA ((length c):Int)),(24,iA m),(63,.isl 10 (map zd d.1.Methods)),(64,iA (length d.1.Methods:Int)),(65,iA z.2.2)]) (λz=>[some (4,[[.ipt 2 [[cL a.l,mI a.at_]] 0 0,.msl 1 0 (length z.1),.msl 2 0 (length z.2.1),.msl 3 0 (length i)]]),sT z.1,sT z.2.1,sT i,sT c]) (λb=>[(0,.ipt 2 [[cL a.l,mI a.at_]] 0 0),(3,.mpt 0 0 0),(22,.msl 4 0 (length c)),(23,iA ((length c):Int)),(24,iA m)]) (λb=>[some (4,[[.ipt 2 [[cL a.l,mI a.at_]] 0 0,.msl 1 0 (length b.1),.msl 2 0 (length b.2),.msl 3 0 (length i)]]),sT b.1,sT b.2,sT i,sT c]) (pF f44 (λr=>.mpt 0 0 0) λr=>[some (4,[[.ipt 2 [[cL r.1,mI r.2.1]] 0 0,.msl 1 0 (length r.2.2.1),.msl 2 0 (length r.2.2.2.1),.msl 3 0 (length r.2.2.2.2)]]),sT r.2.2.1,sT r.2.2.2.1,sT r.2.2.2.2]) (Xb [0,1,2,3,5]) ?_ ?_ ?_
     .rintro ⟨C,v113,s⟩ r h;refine A ?_;refine ze ?_;apply Xa h y<;>intro J h
      .refine zc<|ze<|zh ?_;obtain ⟨p,q72,h⟩:=bs h;refine A ?_;obtain ⟨v116,q73,K,q74,e,V,h⟩:=bs3 h;refine rdA [(0,.ipt 2 [[cL a.l,mI a.at_]] 0 0),(3,.mpt 0 0 0),(5,sA n),(11,.mpt 4 0 0),(22,.msl 5 0 (length c)),(23,iA ((length c):Int)),(24,iA m),(63,.isl 10 (map zd d.1.Methods)),(64,iA (length d.1.Methods:Int)),(65,iA s)] [some (4,[[.ipt 2 [[cL a.l,mI a.at_]] 0 0,.msl 1 0 (length C),.msl 2 0 (length e),.msl 3 0 (length i)]]),sT C,sT e,sT i,some (10,[(zd p)]),sT c] [10,11,14] [0,1,2,3,4,5,6,7,8,9] [(78,_),(77,_),(76,_),(75,_),(74,_),(73,_),(72,_),(71,_),(70,_),(69,_)] 3 (Xi (z:=by exact ⟨(λ_ _=>⟨_,y,y,bl 6 ti y ti y (by decide) (by decide) y y y<|⟨(.msl 6 0 1),[],[(79,_)],y,y,y,y,Xi (z:=by exact ⟨nv,(λ_ _=>⟨_,y,y,apM 7 ti y ti y y (by decide) ti y y y y (roX (f:=Xf) (z:=[K]) y y) (λ_=>y) y V<|⟨(.msl 7 0 (length e)),[12,13],[(82,_),(81,_),(80,_)],y,y,y,y,Xi (z:=by exact ⟨nv,nv,(λ_ _=>⟨_,y,y,sto ti y y y<|⟨.any,[],[],y,y,y,t,Xl (z:=Xb [0,1,7,3,5,4])⟩⟩),t⟩)⟩⟩),nw,t⟩)⟩⟩),nw,nw,t⟩)) ?_;refine A ?_;obtain ⟨o,ho,h⟩:=bs h;refine lpS ho (λz=>[(0,.ipt 2 [[cL a.l,mI a.at_]] 0 0),(3,.mpt 0 0 0),(5,sA n),(22,.msl 4 0 (length c)),(23,iA ((length c):Int)),(24,iA m),(63,.isl 10 (map zd d.1.Methods)),(64,iA (length d.1.Methods:Int)),(65,iA s),(84,.isl 4 (map zt p.Code)),(85,iA (length p.Code:Int)),(86,iA z.2)]) (λz=>[some (4,[[.ipt 2 [[cL a.l,mI a.at_]] 0 0,.msl 1 0 (length z.1),.msl 2 0 (length e),.msl 3 0 (length i)]]),sT z.1,sT e,sT i,sT c]) (λb=>[(0,.ipt 2 [[cL a.l,mI a.at_]] 0 0),(3,.mpt 0 0 0),(5,sA n),(22,.msl 4 0 (length c)),(23,iA ((length c):Int)),(24,iA m),(63,.isl 10 (map zd d.1.Methods)),(64,iA (length d.1.Methods:Int)),(65,iA s)]) (λb=>[some (4,[[.ipt 2 [[cL a.l,mI a.at_]] 0 0,.msl 1 0 (length b),.msl 2 0 (length e),.msl 3 0 (length i)]]),sT b,sT e,sT i,sT c]) (pF f44 (λr=>.mpt 0 0 0) λr=>[some (4,[[.ipt 2 [[cL r.1,mI r.2.1]] 0 0,.msl 1 0 (length r.2.2.1),.msl 2 0 (length r.2.2.2.1),.msl 3 0 (length r.2.2.2.2)]]),sT r.2.2.1,sT r.2.2.2.1,sT r.2.2.2.2]) (Xb [0,1,2,3,5]) ?_ ?_ ?_
       .rintro ⟨L,M⟩ r h;refine A ?_;refine ze ?_;apply Xa h y<;>intro N h
        .refine zc<|ze<|zh ?_;obtain ⟨O,q80,h⟩:=bs h;refine A ?_;obtain ⟨D,W,h⟩:=bs h;refine A ?_;refine u<|sx [0,1,2,3] (zpJ a.l a.at_ L e i O W)<|zu (env0:=[(0,.ipt 2 [[cL a.l,mI a.at_]] 0 0),(3,.mpt 0 0 0),(5,sA n),(22,.msl 4 0 (length c)),(23,iA ((length c):Int)),(24,iA m),(63,.isl 10 (map zd d.1.Methods)),(64,iA (length d.1.Methods:Int)),(65,iA s),(84,.isl 4 (map zt p.Code)),(85,iA (length p.Code:Int)),(86,iA M)]) (st0:=[some (4,[[.ipt 2 [[cL a.l,mI a.at_]] 0 0,.msl 1 0 (length D),.msl 2 0 (length e),.msl 3 0 (length i)]]),sT D,sT e,sT i,sT c]) (zm [0,6,2,3,4])<|zw ?_;refine A ?_;cases h;exact ⟨_,y,zm [0,1,2,3,4]⟩
        .refine zp ?_;cases h;exact ⟨y,_,y,zm [0,1,2,3,4]⟩
       .rintro v127 rfl;refine zl<|A ?_;cases h;exact ⟨_,y,zm [0,1,2,3,4]⟩
       .rintro r' rfl env st hp;cases h;exact ⟨_,y,hp⟩
      .refine zp ?_;cases h;exact ⟨y,_,y,zm [0,1,2,3,4]⟩
     .rintro ⟨v128,v129⟩ rfl;refine zl<|A ?_;cases h;exact ⟨_,y,zm [0,1,2,3,4]⟩
     .rintro r' rfl env st hp;cases h;exact ⟨_,y,hp⟩
    .rintro r' rfl env st hp;cases h;exact ⟨_,y,hp⟩
   .refine zp ?_;cases h;exact ⟨y,_,y,zm [0,1,2,3]⟩
  .rintro ⟨v130,v131,v132⟩ rfl;refine zl<|A ?_;exact RT4
def zqt:Option (Bool):=
  (zqu).bind λa=>some a
theorem zpX{r:Bool}(h:zqt=some r):Xo prog 123 [] (bA r):=by
 refine zi func123 y kz y y<|A ?_;obtain ⟨a,b,h⟩:=bs h;refine A ?_;exact RT0
instance:PF prog 123 [] (zqt) bA:=⟨λ_=>zpX ⟩
def Ig(c:List za)(d:T2)(a:T1)(e:T1)(f:T1):Option (T1):=
  (Ks a).bind λb=>some b
theorem zhK(b:List za)(c:T2)(a:T1)(d:T1)(e:T1){r:T1}(h:Ig b c a d e=some r):SC prog 49 [.ipt 4 [[.ipt 2 [[cL b,mI c]] 0 0,tL a,tL d,tL e]] 0 0] [] (.msl 0 0 (length r)) [.many 1 (map Xf r)]:=by
 refine ⟨⟨Xw (sz:=1) (λ_=>y),t⟩,zR func49 y kz y ?_⟩;refine A ?_;refine ze<|A ?_;refine KM y (λhx=>by cases hx) (λ_=>?_);refine zc ?_;obtain ⟨f,i,h⟩:=bs h;refine A ?_;refine u<|sx [] (Oz a i)<|zu (env0:=[(9,.msl 0 0 (length f))]) (st0:=[sT f]) (zm [0])<|A ?_;exact RT1
def D8(a:List za)(b:T2)(c:T1)(d:T1)(e:T1)(f:T0):Option (Int):=
  (Ig a b c d e).bind λi=>(z8 i f).bind λj=>some j
theorem zh4(b:List za)(c:T2)(d:T1)(e:T1)(f:T1)(a:T0){r:Int}(h:D8 b c d e f a=some r):Xo prog 52 [.ipt 4 [[.ipt 2 [[cL b,mI c]] 0 0,tL d,tL e,tL f]] 0 0,sA a] (iA r):=by
 refine zi func52 y kz y y<|A ?_;obtain ⟨i,j,m,l,h⟩:=bs2 h;refine rg y<|u<|mv y<|u<|sx [] (zhK b c d e f j)<|zu (env0:=[(1,sA a),(6,.msl 0 0 (length i))]) (st0:=[sT i]) (zm [0])<|u<|mv y<|u<|pcs (Iw i a l) y y (.cons (XM y (λ_=>y)) (.cons (si y) .nil)) XA<|A ?_;exact RT0
instance (a:List za)(b:T2)(c:T1)(d:T1)(e:T1)(f:T0):PF prog 52 [.ipt 4 [[.ipt 2 [[cL a,mI b]] 0 0,tL c,tL d,tL e]] 0 0,sA f] (D8 a b c d e f) iA:=⟨λ_=>zh4 a b c d e f⟩
def Iv(c:List za)(d:T2)(e:T1)(a:T1)(f:T1):Option (T1):=
  (Ks a).bind λb=>some b
theorem zgQ(b:List za)(c:T2)(d:T1)(a:T1)(e:T1){r:T1}(h:Iv b c d a e=some r):SC prog 50 [.ipt 4 [[.ipt 2 [[cL b,mI c]] 0 0,tL d,tL a,tL e]] 0 0] [] (.msl 0 0 (length r)) [.many 1 (map Xf r)]:=by
 refine ⟨⟨Xw (sz:=1) (λ_=>y),t⟩,zR func50 y kz y ?_⟩;refine A ?_;refine ze<|A ?_;refine KM y (λhx=>by cases hx) (λ_=>?_);refine zc ?_;obtain ⟨f,i,h⟩:=bs h;refine A ?_;refine u<|sx [] (Oz a i)<|zu (env0:=[(9,.msl 0 0 (length f))]) (st0:=[sT f]) (zm [0])<|A ?_;exact RT1
def Bt(c:List za)(d:T2)(e:T1)(f:T1)(i:T1)(j:T0)(l:T0):Option (Int):=
  (Iv c d e f i).bind λm=>(X2 j [46]).bind λn=>(X2 n l).bind λa=>(z8 m a).bind λb=>some b
theorem zg9(a:List za)(b:T2)(c:T1)(d:T1)(e:T1)(f:T0)(i:T0){r:Int}(h:Bt a b c d e f i=some r):Xo prog 55 [.ipt 4 [[.ipt 2 [[cL a,mI b]] 0 0,tL c,tL d,tL e]] 0 0,sA f,sA i] (iA r):=by
 refine zi func55 y kz y y<|A ?_;obtain ⟨j,m,p,q,l,s,o,n,h⟩:=bs4 h;refine rg y<|u<|mv y<|u<|sx [] (zgQ a b c d e m)<|zu (env0:=[(1,sA f),(2,sA i),(8,.msl 0 0 (length j))]) (st0:=[sT j]) (zm [0])<|A ?_;refine u<|pcs (Iw j l n) y y (.cons (XM y (λ_=>y)) (.cons (si y) .nil)) XA<|A ?_;exact RT0
instance (a:List za)(b:T2)(c:T1)(d:T1)(e:T1)(f:T0)(i:T0):PF prog 55 [.ipt 4 [[.ipt 2 [[cL a,mI b]] 0 0,tL c,tL d,tL e]] 0 0,sA f,sA i] (Bt a b c d e f i) iA:=⟨λ_=>zg9 a b c d e f i⟩
def zek(c:List za)(d:T2)(e:T1)(f:T1)(a:T1):Option (T1):=
  (Ks a).bind λb=>some b
theorem zjf(b:List za)(c:T2)(d:T1)(e:T1)(a:T1){r:T1}(h:zek b c d e a=some r):SC prog 51 [.ipt 4 [[.ipt 2 [[cL b,mI c]] 0 0,tL d,tL e,tL a]] 0 0] [] (.msl 0 0 (length r)) [.many 1 (map Xf r)]:=by
 refine ⟨⟨Xw (sz:=1) (λ_=>y),t⟩,zR func51 y kz y ?_⟩;refine A ?_;refine ze<|A ?_;refine KM y (λhx=>by cases hx) (λ_=>?_);refine zc ?_;obtain ⟨f,i,h⟩:=bs h;refine A ?_;refine u<|sx [] (Oz a i)<|zu (env0:=[(9,.msl 0 0 (length f))]) (st0:=[sT f]) (zm [0])<|A ?_;exact RT1
def E0(c:List za)(d:T2)(e:T1)(f:T1)(i:T1)(j:T0)(l:T0):Option (Int):=
  (zek c d e f i).bind λm=>(X2 j [46]).bind λn=>(X2 n l).bind λa=>(z8 m a).bind λb=>some b
theorem zjv(a:List za)(b:T2)(c:T1)(d:T1)(e:T1)(f:T0)(i:T0){r:Int}(h:E0 a b c d e f i=some r):Xo prog 62 [.ipt 4 [[.ipt 2 [[cL a,mI b]] 0 0,tL c,tL d,tL e]] 0 0,sA f,sA i] (iA r):=by
 refine zi func62 y kz y y<|A ?_;obtain ⟨j,m,p,q,l,s,o,n,h⟩:=bs4 h;refine rg y<|u<|mv y<|u<|sx [] (zjf a b c d e m)<|zu (env0:=[(1,sA f),(2,sA i),(8,.msl 0 0 (length j))]) (st0:=[sT j]) (zm [0])<|A ?_;refine u<|pcs (Iw j l n) y y (.cons (XM y (λ_=>y)) (.cons (si y) .nil)) XA<|A ?_;exact RT0
instance (a:List za)(b:T2)(c:T1)(d:T1)(e:T1)(f:T0)(i:T0):PF prog 62 [.ipt 4 [[.ipt 2 [[cL a,mI b]] 0 0,tL c,tL d,tL e]] 0 0,sA f,sA i] (E0 a b c d e f i) iA:=⟨λ_=>zjv a b c d e f i⟩
def zgZ(a:T1):Option (T1):=
  some a
def BR(c:T1)(a:Int)(b:Int):zL (T1×Int×Int) (T1) (T1):=
  cond (decide (a<b)) ((idx c b).bind λd=>(idx c a).bind λe=>(idx c a).bind λf=>(idx (List.set c (Int.toNat a) d) b).bind λi=>some (.inl ((List.set (List.set c (Int.toNat a) d) (Int.toNat b) e),(i64.wrap (a+1)),(i64.wrap (b-1))))) (some (.inr (.inl c)))
def zb0(a:T1):Option (T1):=
  (zk (λz=>BR z.1 z.2.1 z.2.2) (a,0,(i64.wrap (((length a):Int)-1)))).bind λo=>zB o (λb=>zgZ b) some
theorem zkd(j:T1){r:T1}(h:zb0 j=some r):SC prog 224 [.msl 0 0 (length j)] [.many 1 (map Xf j)] (.tup []) [.many 1 (map Xf r)]:=by
 refine ⟨⟨Xw (sz:=1) (λ_=>y),t⟩,zR func224 y kz y ?_⟩;refine A ?_;obtain ⟨o,ho,h⟩:=bs h;refine lpB ho (λz=>[(0,.msl 0 0 (length z.1)),(2,iA z.2.1),(3,iA z.2.2)]) (λz=>[sT z.1]) (λb=>[]) (λb=>[sT b]) (λr env st=>U0 prog f224 1 (.tup []) [sT r] env st) (Xb [0]) ?_ ?_
 .rintro ⟨f,a,c⟩ r h;refine ze<|A ?_;apply Xa h y<;>intro m h
  .refine zc<|ze<|zh ?_;obtain ⟨d,n,e,l,q,p,s,i,h⟩:=bs4 h;refine XC [(0,.msl 0 0 (length (List.set (List.set f (Int.toNat a) d) (Int.toNat c) e))),(2,iA a),(3,iA c)] [sT (List.set (List.set f (Int.toNat a) d) (Int.toNat c) e)] [13,15] [12,11,10,9,8,7,6,5,4,3,2,1,0] [(26,.mpt 0 (Int.toNat a) 0),(25,sA e),(24,.mpt 0 (Int.toNat a) 0),(23,iA a),(22,.msl 0 0 (length f)),(21,sA d),(20,.mpt 0 (Int.toNat c) 0),(19,iA c),(18,.msl 0 0 (length f)),(17,iA c),(16,.msl 0 0 (length f)),(15,iA a),(14,.msl 0 0 (length f))] 2 (ZQ ⟨(pb y (ixM ti y ti y y y y p w)),(pb y (ldM ti y y (zQ l).2.2 y w)),(pb y (ixM ti y ti y y y y l w)),pe,pe,(pb y (ldM ti y y (zQ n).2.2 y w)),(pb y (ixM ti y ti y y y y n w)),pe,pe,pe,pe,pe,pe,t⟩ ⟨(λ_ _=>⟨_,y,y,BX (c':=d) ti y y (zQ p).2.2 y y y y y<|⟨.any,[14],[(27,.mpt 0 (Int.toNat c) 0)],y,y,kz,t,ZQ ⟨(pb y (zJZ (by simp) ti y ti y y y y i w)),pe,pe,(pb y (zJZ (by simp) ti y ti y y y y (zHA l) w)),pe,pe,pe,pe,pe,pe,pe,pe,pe,pe,t⟩ ⟨nv,(λ_ _=>⟨_,y,y,BX (c':=e) ti y y (zQ i).2.2 y y y y y<|⟨.any,[],[],y,y,kz,t,zIy ⟨[0],cv y (BV (by simp) y)<|ce y y<|ce y y<|cn,y,⟨⟨_,y,XY (λ_=>y)⟩,t⟩,y,k⟩⟩⟩),t⟩⟩⟩),nw,t⟩) ?_;refine A ?_;cases h;exact ⟨_,y,zm [0]⟩
  .refine zp ?_;cases h;exact ⟨y,_,y,zm [0]⟩
 .rintro v rfl;refine zl ?_;cases h;exact ⟨_,y,Xc [0]⟩
theorem zvf{X Y:Type}{body:X->Option (Sum X Y)}{p:X->Prop}{q:Y->Prop}(h1:∀x y,p x->body x=some (.inl y)->p y)(h2:∀x y,p x->body x=some (.inr y)->q y):∀{n:Nat} {x:X} {y:Y},p x->ZR body n x=some y->q y
  | 0,_,_,_,h=>by cases h
  |n+1,x,y,hp,h=>by
    unfold ZR at h;split at h
    · rename_i x' hx;exact zvf h1 h2 (h1 x x' hp hx) h
    · rename_i z hx;cases h;exact h2 x _ hp hx
    · cases h
theorem zDI{l r:T1}(h:zb0 l=some r):r.length=l.length:=by
  obtain ⟨o,ho,h⟩:=bs h;obtain ⟨n,ho⟩:=Ok ho;have:=zvf (p:=λz=>z.1.length=l.length) (q:=λo=>∀r',zB o (λb=>zgZ b) some=some r'->r'.length=l.length) (λz y hp hb=>?_) (λz y hp hb r' hr=>?_) (by exact y) ho r h
  · exact this
  · unfold BR at hb
    cases hc:decide (z.2.1<z.2.2) with
    |false=>rw [hc] at hb;cases hb
    |true =>
      rw [hc] at hb;obtain ⟨_,_,hb⟩:=bs hb;obtain ⟨_,_,hb⟩:=bs hb;obtain ⟨_,_,hb⟩:=bs hb;obtain ⟨_,_,hb⟩:=bs hb;cases hb;simpa using hp
  · unfold BR at hb
    cases hc:decide (z.2.1<z.2.2) with
    |true =>
      rw [hc] at hb;obtain ⟨_,_,hb⟩:=bs hb;obtain ⟨_,_,hb⟩:=bs hb;obtain ⟨_,_,hb⟩:=bs hb;obtain ⟨_,_,hb⟩:=bs hb;cases hb
    |false =>
      rw [hc] at hb;cases hb;cases hr;exact hp
def zoN(a:List za):Option ((List za)):=
  some a
def BP(i:List za)(j:T2)(c:T1)(b:List za)(a:Int):zL ((List za)×Int) ((List za)) ((List za)):=
  cond (decide (a<((length c):Int))) ((idx c a).bind λd=>(zK i j d).bind λe=>(Xx 112 b [e.1]).bind λf=>some (.inl (f,(i64.wrap (a+1))))) (some (.inr (.inl b)))
def zga(a:List za)(c:T2)(i:T1)(j:T1)(l:T1)(d:T0):Option ((List za)):=
  (Gk a c d).bind λe=>(zb0 e).bind λf=>(zk (λz=>BP a c f z.1 z.2) ([],0)).bind λo=>zB o (λb=>zoN b) some
theorem zkA(a:List za)(c:T2)(d:T1)(e:T1)(i:T1)(l:T0){r:(List za)}(h:zga a c d e i l=some r):SC prog 135 [.ipt 4 [[.ipt 2 [[cL a,mI c]] 0 0,tL d,tL e,tL i]] 0 0,sA l] [] (.msl 0 0 (length r)) [.many 6 (map zf r)]:=by
 refine ⟨⟨Xw (sz:=6) (λ_=>y),t⟩,zR func135 y kz y ?_⟩;refine A ?_;refine ze<|A ?_;refine KM y (λhx=>by cases hx) (λ_=>?_);refine zc<|A ?_;obtain ⟨m,v,h⟩:=bs h;refine A ?_;refine u<|sx [] (H9 a c l v)<|zu (env0:=[(0,.ipt 4 [[.ipt 2 [[cL a,mI c]] 0 0,tL d,tL e,tL i]] 0 0),(5,nS),(18,.msl 0 0 (length m))]) (st0:=[sT m]) (zm [0])<|A ?_;obtain ⟨j,n,h⟩:=bs h
 refine rg y<|u<|mv y<|u<|sx [0] (zkd m n)<|zu (env0:=[(0,.ipt 4 [[.ipt 2 [[cL a,mI c]] 0 0,tL d,tL e,tL i]] 0 0),(5,nS),(6,.msl 0 0 (length j))]) (st0:=[sT j]) ⟨[0],ce y y<|ce y y<|cv y (BV (by first |exact zDI n |exact (zDI n).symm) y)<|cn,y,⟨⟨_,y,XY (λ_=>y)⟩,t⟩,y,k⟩<|zw ?_
 refine ze<|A ?_;obtain ⟨o,ho,h⟩:=bs h;refine lpB ho (λz=>[(0,.ipt 4 [[.ipt 2 [[cL a,mI c]] 0 0,tL d,tL e,tL i]] 0 0),(5,.msl 0 0 (length z.1)),(21,.msl 1 0 (length j)),(22,iA ((length j):Int)),(23,iA z.2)]) (λz=>[some (6,map zf z.1),sT j]) (λb=>[(5,.msl 0 0 (length b))]) (λb=>[some (6,map zf b)]) (pF f135 (λr=>.msl 0 0 (length r)) λr=>[some (6,map zf r)]) ⟨[.fresh 6,0],ce y y<|cv y (.nilown y)<|cv y (.msl y)<|ce y y<|ce y y<|cn,y,⟨w,⟨_,y,XY (λ_=>y)⟩,t⟩,y,k⟩ ?_ ?_
 .rintro ⟨x,B⟩ r h;refine A ?_;refine ze ?_;apply Xa h y<;>intro p h
  .refine zc<|ze<|zh ?_;obtain ⟨C,F,h⟩:=bs h;refine A ?_;obtain ⟨q,G,h⟩:=bs h;refine A ?_;obtain ⟨D,s,h⟩:=bs h;refine A ?_;refine u<|apM 4 ti y ti y y (by decide) ti y y y y (roX (f:=zf) (z:=[q.1]) y y) (λ_=>y) y s<|A ?_;refine A ?_;cases h;exact ⟨_,y,zm [4,1]⟩
  .refine zp ?_;cases h;exact ⟨y,_,y,zm [0]⟩
 .rintro E rfl;refine zl<|A ?_;exact RT1
def zny(a:T1):Option (T1):=
  some a
def zoc(a:Int)(b:T1):zL (T1×Int) (T1) (T1):=
  some (.inl (b,(i64.wrap (a+1))))
def zfJ(a:Int)(b:T1):zL (T1×Int) (T1) (T1):=
  some (.inl (b,(i64.wrap (a+1))))
def BG(b:za)(c:T1)(a:Int):zL (T1×Int) (T1) (T1):=
  cond (decide (a<(length b.Fields:Int))) ((idx b.Fields a).bind λd=>cond (!d.Static) ((X2 b.Name [46]).bind λe=>(X2 e d.Name).bind λf=>(Xx 16 c [f]).bind λi=>zfJ a i) (zfJ a c)) (some (.inr (.inl c)))
def BF(d:(List za))(c:T1)(a:Int):zL (T1×Int) (T1) (T1):=
  cond (decide (a<((length d):Int))) ((idx d a).bind λe=>(zk (λz=>BG e z.1 z.2) (c,0)).bind λo=>zB o (λb=>zoc a b) (λr=>some (.inr (.inr r)))) (some (.inr (.inl c)))
def By(a:List za)(c:T2)(d:T1)(e:T1)(f:T1)(i:T0):Option (T1):=
  (zga a c d e f i).bind λj=>(zk (λz=>BF j z.1 z.2) ([],0)).bind λo=>zB o (λb=>zny b) some
theorem zfK(i:List za)(j:T2)(l:T1)(m:T1)(n:T1)(p:T0){r:T1}(h:By i j l m n p=some r):SC prog 59 [.ipt 4 [[.ipt 2 [[cL i,mI j]] 0 0,tL l,tL m,tL n]] 0 0,sA p] [] (.msl 0 0 (length r)) [.many 1 (map Xf r)]:=by
 refine ⟨⟨Xw (sz:=1) (λ_=>y),t⟩,zR func59 y kz y ?_⟩;refine A ?_;refine A ?_;refine ze ?_;obtain ⟨a,E,h⟩:=bs h;refine A ?_;refine u<|sx [] (zkA i j l m n p E)<|zu (env0:=[(5,nS),(12,.msl 0 0 (length a))]) (st0:=[some (6,map zf a)]) (zm [0])<|A ?_;obtain ⟨o,ho,h⟩:=bs h;refine lpB ho (λz=>[(5,.msl 0 0 (length z.1)),(12,.msl 1 0 (length a)),(13,iA ((length a):Int)),(14,iA z.2)]) (λz=>[sT z.1,some (6,map zf a)]) (λb=>[(5,.msl 0 0 (length b))]) (λb=>[sT b]) (pF f59 (λr=>.msl 0 0 (length r)) λr=>[sT r]) ⟨[.fresh 1,0],cv y (.nilown y)<|cv y (.msl y)<|ce y y<|ce y y<|cn,y,⟨w,⟨_,y,XY (λ_=>y)⟩,t⟩,y,k⟩ ?_ ?_
 .rintro ⟨F,d⟩ r h;refine A ?_;refine ze ?_;apply Xa h y<;>intro q h
  .refine zc<|ze<|zh ?_;obtain ⟨c,G,h⟩:=bs h;refine A ?_;refine A ?_;obtain ⟨o,ho,h⟩:=bs h;refine lpS ho (λz=>[(5,.msl 0 0 (length z.1)),(7,.mpt 1 0 0),(12,.msl 2 0 (length a)),(13,iA ((length a):Int)),(14,iA d),(19,.isl 3 (map zv c.Fields)),(20,iA (length c.Fields:Int)),(21,iA z.2)]) (λz=>[sT z.1,some (6,[(zf c)]),some (6,map zf a)]) (λb=>[(5,.msl 0 0 (length b)),(12,.msl 1 0 (length a)),(13,iA ((length a):Int)),(14,iA d)]) (λb=>[sT b,some (6,map zf a)]) (pF f59 (λr=>.msl 0 0 (length r)) λr=>[sT r]) (Xb [0,2,1]) ?_ ?_ ?_
   .rintro ⟨x,e⟩ r h;refine A ?_;refine ze ?_;apply Xa h y<;>intro s h
    .refine zc ?_;refine Xz (X:=T1) (λz=>[(5,.msl 0 0 (length z)),(7,.mpt 1 0 0),(12,.msl 2 0 (length a)),(13,iA ((length a):Int)),(14,iA d),(19,.isl 3 (map zv c.Fields)),(20,iA (length c.Fields:Int)),(21,iA e)]) (λz=>[sT z,some (6,[(zf c)]),some (6,map zf a)]) (λz=>zfJ e z=some r) ?_ ?_
     .refine zh ?_;obtain ⟨H,I,h⟩:=bs h;refine A ?_;refine A ?_;apply Xa h y<;>intro v h
      .obtain ⟨J,K,B,L,C,D,h⟩:=bs3 h;refine A ?_;refine u<|apM 5 ti y ti y y (by decide) ti y y y y (roX (f:=Xf) (z:=[B]) y y) (λ_=>y) y D<|A ?_;exact (⟨C,h,zm [5,1,2]⟩)
      .refine zc ?_;exact ⟨x,h,zm [0,1,2]⟩
     .rintro M h;refine A ?_;cases h;exact ⟨_,y,zm [0,1,2]⟩
    .refine zp ?_;cases h;exact ⟨y,_,y,zm [0,2]⟩
   .rintro N rfl;refine zl<|A ?_;cases h;exact ⟨_,y,zm [0,1]⟩
   .rintro r' rfl env st hp;cases h;exact ⟨_,y,hp⟩
  .refine zp ?_;cases h;exact ⟨y,_,y,zm [0]⟩
 .rintro O rfl;refine zl<|A ?_;exact RT1
def BA(a:List za)(b:T2)(j:T1)(l:T1)(m:T1)(c:T0)(d:T0):Option (Int):=
  (Ea a b c d).bind λn=>(By a b j l m c).bind λo=>(X2 n.1 [46]).bind λe=>(X2 e d).bind λf=>(z8 o f).bind λi=>some i
theorem zh5(a:List za)(b:T2)(c:T1)(d:T1)(e:T1)(f:T0)(i:T0){r:Int}(h:BA a b c d e f i=some r):Xo prog 57 [.ipt 4 [[.ipt 2 [[cL a,mI b]] 0 0,tL c,tL d,tL e]] 0 0,sA f,sA i] (iA r):=by
 refine zi func57 y kz y y<|A ?_;refine ze<|A ?_;refine KM y (λhx=>by cases hx) (λ_=>?_);refine zc ?_;obtain ⟨m,s,h⟩:=bs h;refine A ?_;obtain ⟨j,n,p,v,l,x,q,o,h⟩:=bs4 h;refine A ?_;refine u<|sx [] (zfK a b c d e f n)<|zu (env0:=[(2,sA i),(7,sA m.1),(25,.msl 0 0 (length j))]) (st0:=[sT j]) (zm [1])<|A ?_;refine u<|pcs (Iw j l o) y y (.cons (XM y (λ_=>y)) (.cons (si y) .nil)) XA<|A ?_;exact RT0
instance (a:List za)(b:T2)(c:T1)(d:T1)(e:T1)(f:T0)(i:T0):PF prog 57 [.ipt 4 [[.ipt 2 [[cL a,mI b]] 0 0,tL c,tL d,tL e]] 0 0,sA f,sA i] (BA a b c d e f i) iA:=⟨λ_=>zh5 a b c d e f i⟩
def znx(a:T1):Option (T1):=
  some a
def zob(a:Int)(b:T1):zL (T1×Int) (T1) (T1):=
  some (.inl (b,(i64.wrap (a+1))))
def zfI(a:Int)(b:T1):zL (T1×Int) (T1) (T1):=
  some (.inl (b,(i64.wrap (a+1))))
def BI(d:za)(a:T1)(b:Int):zL (T1×Int) (T1) (T1):=
  cond (decide (b<(length d.Methods:Int))) ((idx d.Methods b).bind λc=>(cond ((!c.Static)&&(!c.Abstract)) ((zI a c.Name).bind λe=>some (!e)) (some false)).bind λf=>cond f ((Xx 16 a [c.Name]).bind λi=>zfI b i) (zfI b a)) (some (.inr (.inl a)))
def BH(d:(List za))(c:T1)(a:Int):zL (T1×Int) (T1) (T1):=
  cond (decide (a<((length d):Int))) ((idx d a).bind λe=>(zk (λz=>BI e z.1 z.2) (c,0)).bind λo=>zB o (λb=>zob a b) (λr=>some (.inr (.inr r)))) (some (.inr (.inl c)))
def zfw(a:List za)(c:T2)(d:T1)(e:T1)(f:T1)(i:T0):Option (T1):=
  (zga a c d e f i).bind λj=>(zk (λz=>BH j z.1 z.2) ([],0)).bind λo=>zB o (λb=>znx b) some
theorem zjO(p:List za)(q:T2)(s:T1)(v:T1)(B:T1)(C:T0){r:T1}(h:zfw p q s v B C=some r):SC prog 61 [.ipt 4 [[.ipt 2 [[cL p,mI q]] 0 0,tL s,tL v,tL B]] 0 0,sA C] [] (.msl 0 0 (length r)) [.many 1 (map Xf r)]:=by
 refine ⟨⟨Xw (sz:=1) (λ_=>y),t⟩,zR func61 y kz y ?_⟩;refine A ?_;refine A ?_;refine ze ?_;obtain ⟨a,K,h⟩:=bs h;refine A ?_;refine u<|sx [] (zkA p q s v B C K)<|zu (env0:=[(5,nS),(12,.msl 0 0 (length a))]) (st0:=[some (6,map zf a)]) (zm [0])<|A ?_;obtain ⟨o,ho,h⟩:=bs h;refine lpB ho (λz=>[(5,.msl 0 0 (length z.1)),(12,.msl 1 0 (length a)),(13,iA ((length a):Int)),(14,iA z.2)]) (λz=>[sT z.1,some (6,map zf a)]) (λb=>[(5,.msl 0 0 (length b))]) (λb=>[sT b]) (pF f61 (λr=>.msl 0 0 (length r)) λr=>[sT r]) ⟨[.fresh 1,0],cv y (.nilown y)<|cv y (.msl y)<|ce y y<|ce y y<|cn,y,⟨w,⟨_,y,XY (λ_=>y)⟩,t⟩,y,k⟩ ?_ ?_
 .rintro ⟨L,i⟩ r h;refine A ?_;refine ze ?_;apply Xa h y<;>intro D h
  .refine zc<|ze<|zh ?_;obtain ⟨e,M,h⟩:=bs h;refine A ?_;refine A ?_;obtain ⟨o,ho,h⟩:=bs h;refine lpS ho (λz=>[(5,.msl 0 0 (length z.1)),(12,.msl 1 0 (length a)),(13,iA ((length a):Int)),(14,iA i),(19,.isl 10 (map zd e.Methods)),(20,iA (length e.Methods:Int)),(21,iA z.2)]) (λz=>[sT z.1,some (6,map zf a)]) (λb=>[(5,.msl 0 0 (length b)),(12,.msl 1 0 (length a)),(13,iA ((length a):Int)),(14,iA i)]) (λb=>[sT b,some (6,map zf a)]) (pF f61 (λr=>.msl 0 0 (length r)) λr=>[sT r]) (Xb [0,1]) ?_ ?_ ?_
   .rintro ⟨l,m⟩ r h;refine A ?_;refine ze ?_;apply Xa h y<;>intro E h
    .refine zc ?_;refine Xz (X:=T1) (λz=>[(5,.msl 0 0 (length z)),(12,.msl 1 0 (length a)),(13,iA ((length a):Int)),(14,iA i),(19,.isl 10 (map zd e.Methods)),(20,iA (length e.Methods:Int)),(21,iA m)]) (λz=>[sT z,some (6,map zf a)]) (λz=>zfI m z=some r) ?_ ?_
     .refine zh ?_;obtain ⟨n,N,h⟩:=bs h;refine A ?_;obtain ⟨G,d,h⟩:=bs h;refine A ?_;refine Zi (x:=G) (j:=8) 5 y y y y y gpn (λc=>by replace d:=bT c d;obtain ⟨O,H,d⟩:=bs d;obtain rfl:=sm d;exact g y c<|mv y<|g y c<|fa ti y y y<|g y c<|ld ti y y<|g y c<|pcs (Wh l n.Name H) y y (.cons (XM y (λ_=>y)) (.cons (si y) .nil)) XA<|g y c<|nt y<|zw (eg [34,35,36,37,38] 5 y y y y)) (λhb=>(sm (bF hb d)).symm)<|zw ?_;apply Xa h y<;>intro F h
      .obtain ⟨I,J,h⟩:=bs h;refine A ?_;refine u<|apM 4 ti y ti y y (by decide) ti y y y y (roX (f:=Xf) (z:=[n.Name]) y y) (λ_=>y) y J<|A ?_;exact (⟨I,h,zm [4,1]⟩)
      .refine zc ?_;exact ⟨l,h,zm [0,1]⟩
     .rintro P h;refine A ?_;cases h;exact ⟨_,y,zm [0,1]⟩
    .refine zp ?_;cases h;exact ⟨y,_,y,zm [0,1]⟩
   .rintro Q rfl;refine zl<|A ?_;cases h;exact ⟨_,y,zm [0,1]⟩
   .rintro r' rfl env st hp;cases h;exact ⟨_,y,hp⟩
  .refine zp ?_;cases h;exact ⟨y,_,y,zm [0]⟩
 .rintro R rfl;refine zl<|A ?_;exact RT1
def D9(a:List za)(b:T2)(c:T1)(d:T1)(e:T1)(f:T0)(i:T0):Option (Int):=
  (zfw a b c d e f).bind λj=>(z8 j i).bind λl=>some l
theorem zf9(b:List za)(c:T2)(d:T1)(e:T1)(f:T1)(i:T0)(a:T0){r:Int}(h:D9 b c d e f i a=some r):Xo prog 58 [.ipt 4 [[.ipt 2 [[cL b,mI c]] 0 0,tL d,tL e,tL f]] 0 0,sA i,sA a] (iA r):=by
 refine zi func58 y kz y y<|A ?_;obtain ⟨j,l,n,m,h⟩:=bs2 h;refine A ?_;refine u<|sx [] (zjO b c d e f i l)<|zu (env0:=[(2,sA a),(9,.msl 0 0 (length j))]) (st0:=[sT j]) (zm [0])<|u<|mv y<|u<|pcs (Iw j a m) y y (.cons (XM y (λ_=>y)) (.cons (si y) .nil)) XA<|A ?_;exact RT0
instance (a:List za)(b:T2)(c:T1)(d:T1)(e:T1)(f:T0)(i:T0):PF prog 58 [.ipt 4 [[.ipt 2 [[cL a,mI b]] 0 0,tL c,tL d,tL e]] 0 0,sA f,sA i] (D9 a b c d e f i) iA:=⟨λ_=>zf9 a b c d e f i⟩
def znv:Option (Bool):=
  (HW ([(za.mk [70,97,99,101] [79,98,106,101,99,116] true [] [] ([(zb.mk [102] [] [73] false true 0 0 [] [] [])])),(za.mk [65,97] [79,98,106,101,99,116] false ([[70,97,99,101]]) ([(zg.mk [120] [73] false),(zg.mk [115] [73] true)]) ([(zb.mk [102] [] [73] false false 1 1 ([(zs.mk 1 5 [] []),(zs.mk 47 0 [] [])]) [] [])])),(za.mk [66,98] [65,97] false [] ([(zg.mk [121] [91,65,97] false)]) ([(zb.mk [109,97,105,110] [] [86] true false 0 0 ([(zs.mk 46 0 [] [])]) [] [])]))]) (X1.mk [66,98] [109,97,105,110])).bind λb=>cond (!(b.2 == 0)) (some false) ((OG b.1).bind λa=>(zqt).bind λo=>cond o ((Ig a.1 a.2.1 a.2.2.1 a.2.2.2.1 a.2.2.2.2).bind λp=>cond (((length p):Int) == 15) ((D8 a.1 a.2.1 a.2.2.1 a.2.2.2.1 a.2.2.2.2 [91,65,97]).bind λq=>cond (q == 14) ((D8 a.1 a.2.1 a.2.2.1 a.2.2.2.1 a.2.2.2.2 [90,122]).bind λs=>cond (s == ((-1):Int)) ((Iv a.1 a.2.1 a.2.2.1 a.2.2.2.1 a.2.2.2.2).bind λc=>(KA c ([[70,97,99,101,46,102],[65,97,46,102],[66,98,46,109,97,105,110]])).bind λd=>cond d ((Bt a.1 a.2.1 a.2.2.1 a.2.2.2.1 a.2.2.2.2 [66,98] [102]).bind λe=>cond (e == ((-1):Int)) ((E0 a.1 a.2.1 a.2.2.1 a.2.2.2.1 a.2.2.2.2 [65,97] [115]).bind λf=>cond (f == 0) ((By a.1 a.2.1 a.2.2.1 a.2.2.2.1 a.2.2.2.2 [66,98]).bind λi=>(KA i ([[65,97,46,120],[66,98,46,121]])).bind λj=>cond j ((BA a.1 a.2.1 a.2.2.1 a.2.2.2.1 a.2.2.2.2 [66,98] [121]).bind λl=>cond (l == 1) ((D9 a.1 a.2.1 a.2.2.1 a.2.2.2.1 a.2.2.2.2 [66,98] [102]).bind λm=>cond (m == 0) ((D9 a.1 a.2.1 a.2.2.1 a.2.2.2.1 a.2.2.2.2 [66,98] [109,97,105,110]).bind λn=>some (n == ((-1):Int))) (some false)) (some false)) (some false)) (some false)) (some false)) (some false)) (some false)) (some false)) (some false)) (some false))
theorem zuz{r:Bool}(h:znv=some r):Xo prog 40 [] (bA r):=by
 refine zi func40 y kz y y<|A ?_;obtain ⟨G,H,h⟩:=bs h;refine rg y<|u<|sx [] (OX y)<|u<|bd ti y y y<|zu (env0:=[(5,.isl 6 (map zf ([(za.mk [70,97,99,101] [79,98,106,101,99,116] true [] [] ([(zb.mk [102] [] [73] false true 0 0 [] [] [])])),(za.mk [65,97] [79,98,106,101,99,116] false ([[70,97,99,101]]) ([(zg.mk [120] [73] false),(zg.mk [115] [73] true)]) ([(zb.mk [102] [] [73] false false 1 1 ([(zs.mk 1 5 [] []),(zs.mk 47 0 [] [])]) [] [])])),(za.mk [66,98] [65,97] false [] ([(zg.mk [121] [91,65,97] false)]) ([(zb.mk [109,97,105,110] [] [86] true false 0 0 ([(zs.mk 46 0 [] [])]) [] [])]))]))),(6,.agg [sA [66,98],sA [109,97,105,110]])]) (st0:=[]) (zm [])<|u<|pc (Ew ([(za.mk [70,97,99,101] [79,98,106,101,99,116] true [] [] ([(zb.mk [102] [] [73] false true 0 0 [] [] [])])),(za.mk [65,97] [79,98,106,101,99,116] false ([[70,97,99,101]]) ([(zg.mk [120] [73] false),(zg.mk [115] [73] true)]) ([(zb.mk [102] [] [73] false false 1 1 ([(zs.mk 1 5 [] []),(zs.mk 47 0 [] [])]) [] [])])),(za.mk [66,98] [65,97] false [] ([(zg.mk [121] [91,65,97] false)]) ([(zb.mk [109,97,105,110] [] [86] true false 0 0 ([(zs.mk 46 0 [] [])]) [] [])]))]) (X1.mk [66,98] [109,97,105,110]) H) y y y<|A ?_;refine ze<|A ?_;apply Xa h y<;>intro c h
 .refine A ?_;exact RT0
 .refine zc ?_;obtain ⟨a,I,h⟩:=bs h;refine rg y<|u<|mv y<|u<|sc [] (zrd G.1 I) y y y y ⟨(rnI (Zh (λ_=>y))),t⟩ t<|A ?_;obtain ⟨J,K,h⟩:=bs h;refine rg y<|u<|pc (zpX K) y y y<|u<|mv y<|?_
  rcases J with _ |_
  .replace h:=bF y h;refine skF y<|skF y<|skF y<|skF y<|u<|pk (b:=false) y y<|u<|mv y<|skF y<|skF y<|skF y<|u<|pk (b:=false) y y<|u<|mv y<|skF y<|skF y<|skF y<|u<|pk (b:=false) y y<|u<|mv y<|skF y<|skF y<|skF y<|skF y<|u<|pk (b:=false) y y<|u<|mv y<|skF y<|skF y<|skF y<|u<|pk (b:=false) y y<|u<|mv y<|skF y<|skF y<|skF y<|u<|pk (b:=false) y y<|u<|mv y<|skF y<|skF y<|skF y<|skF y<|u<|pk (b:=false) y y<|u<|mv y<|skF y<|skF y<|skF y<|u<|pk (b:=false) y y<|u<|mv y<|skF y<|skF y<|skF y<|u<|pk (b:=false) y y<|u<|mv y<|skF y<|skF y<|skF y<|u<|pk (b:=false) y y<|u<|asg y<|zw ?_;exact RT0
  .replace h:=bT y h;obtain ⟨L,M,h⟩:=bs h;refine g y y<|mv y<|zu (env0:=[(3,.ipt 4 [[.ipt 2 [[cL a.1,mI a.2.1]] 0 0,tL a.2.2.1,tL a.2.2.2.1,tL a.2.2.2.2]] 0 0),(15,bA true),(16,.ipt 4 [[.ipt 2 [[cL a.1,mI a.2.1]] 0 0,tL a.2.2.1,tL a.2.2.2.1,tL a.2.2.2.2]] 0 0)]) (st0:=[]) ⟨[],cv y (zJl y y ⟨(ci y),(ZI y y (λ_=>y)),(ZI y y (λ_=>y)),(ZI y y (λ_=>y)),t⟩ y)<|ce y y<|cv y (zJl y y ⟨(ci y),(ZI y y (λ_=>y)),(ZI y y (λ_=>y)),(ZI y y (λ_=>y)),t⟩ y)<|cn,y,t,y,k⟩<|g y y<|sx [] (zhK a.1 a.2.1 a.2.2.1 a.2.2.2.1 a.2.2.2.2 M)<|g y y<|lnM ti y y y<|g y y<|eql ti y y<|u<|pk (b:=true) y y<|u<|mv y<|?_;generalize (((length L):Int) == 15)=N at h ⊢
   rcases N with _ |_
   .replace h:=bF y h;refine skF y<|skF y<|skF y<|u<|pk (b:=false) y y<|u<|mv y<|skF y<|skF y<|skF y<|u<|pk (b:=false) y y<|u<|mv y<|skF y<|skF y<|skF y<|skF y<|u<|pk (b:=false) y y<|u<|mv y<|skF y<|skF y<|skF y<|u<|pk (b:=false) y y<|u<|mv y<|skF y<|skF y<|skF y<|u<|pk (b:=false) y y<|u<|mv y<|skF y<|skF y<|skF y<|skF y<|u<|pk (b:=false) y y<|u<|mv y<|skF y<|skF y<|skF y<|u<|pk (b:=false) y y<|u<|mv y<|skF y<|skF y<|skF y<|u<|pk (b:=false) y y<|u<|mv y<|skF y<|skF y<|skF y<|u<|pk (b:=false) y y<|u<|asg y<|zw ?_;exact RT0
   .replace h:=bT y h;obtain ⟨O,P,h⟩:=bs h;refine g y y<|mv y<|g y y<|pc (zh4 a.1 a.2.1 a.2.2.1 a.2.2.2.1 a.2.2.2.2 [91,65,97] P) y y y<|g y y<|eql ti y y<|u<|pk (b:=true) y y<|u<|mv y<|?_;generalize (O == 14)=Q at h ⊢
    rcases Q with _ |_
    .replace h:=bF y h;refine skF y<|skF y<|skF y<|u<|pk (b:=false) y y<|u<|mv y<|skF y<|skF y<|skF y<|skF y<|u<|pk (b:=false) y y<|u<|mv y<|skF y<|skF y<|skF y<|u<|pk (b:=false) y y<|u<|mv y<|skF y<|skF y<|skF y<|u<|pk (b:=false) y y<|u<|mv y<|skF y<|skF y<|skF y<|skF y<|u<|pk (b:=false) y y<|u<|mv y<|skF y<|skF y<|skF y<|u<|pk (b:=false) y y<|u<|mv y<|skF y<|skF y<|skF y<|u<|pk (b:=false) y y<|u<|mv y<|skF y<|skF y<|skF y<|u<|pk (b:=false) y y<|u<|asg y<|zw ?_;exact RT0
    .replace h:=bT y h;obtain ⟨R,S,h⟩:=bs h;refine g y y<|mv y<|g y y<|pc (zh4 a.1 a.2.1 a.2.2.1 a.2.2.2.1 a.2.2.2.2 [90,122] S) y y y<|g y y<|eql ti y y<|u<|pk (b:=true) y y<|u<|mv y<|?_;generalize (R == ((-1):Int))=T at h ⊢
     rcases T with _ |_
     .replace h:=bF y h;refine skF y<|skF y<|skF y<|skF y<|u<|pk (b:=false) y y<|u<|mv y<|skF y<|skF y<|skF y<|u<|pk (b:=false) y y<|u<|mv y<|skF y<|skF y<|skF y<|u<|pk (b:=false) y y<|u<|mv y<|skF y<|skF y<|skF y<|skF y<|u<|pk (b:=false) y y<|u<|mv y<|skF y<|skF y<|skF y<|u<|pk (b:=false) y y<|u<|mv y<|skF y<|skF y<|skF y<|u<|pk (b:=false) y y<|u<|mv y<|skF y<|skF y<|skF y<|u<|pk (b:=false) y y<|u<|asg y<|zw ?_;exact RT0
     .replace h:=bT y h;obtain ⟨d,U,e,V,h⟩:=bs2 h;refine g y y<|mv y<|g y y<|sx [] (zgQ a.1 a.2.1 a.2.2.1 a.2.2.2.1 a.2.2.2.2 U)<|g y y<|bl 2 ti y ti y (by decide) (by decide) y y y<|g y y<|pcs (DY d ([[70,97,99,101,46,102],[65,97,46,102],[66,98,46,109,97,105,110]]) V) y y (.cons (XM y (λ_=>y)) (.cons (zI8 y ⟨⟨(si y),t⟩,⟨(si y),t⟩,⟨(si y),t⟩,t⟩) .nil)) XA<|u<|pk (b:=true) y y<|u<|mv y<|?_
      rcases e with _ |_
      .replace h:=bF y h;refine skF y<|skF y<|skF y<|u<|pk (b:=false) y y<|u<|mv y<|skF y<|skF y<|skF y<|u<|pk (b:=false) y y<|u<|mv y<|skF y<|skF y<|skF y<|skF y<|u<|pk (b:=false) y y<|u<|mv y<|skF y<|skF y<|skF y<|u<|pk (b:=false) y y<|u<|mv y<|skF y<|skF y<|skF y<|u<|pk (b:=false) y y<|u<|mv y<|skF y<|skF y<|skF y<|u<|pk (b:=false) y y<|u<|asg y<|zw ?_;exact RT0
      .replace h:=bT y h;obtain ⟨f,i,h⟩:=bs h;refine g y y<|mv y<|g y y<|pc (zg9 a.1 a.2.1 a.2.2.1 a.2.2.2.1 a.2.2.2.2 [66,98] [102] i) y y y<|g y y<|eql ti y y<|u<|pk (b:=true) y y<|u<|mv y<|?_;generalize (f == ((-1):Int))=j at h ⊢
       rcases j with _ |_
       .replace h:=bF y h;refine skF y<|skF y<|skF y<|u<|pk (b:=false) y y<|u<|mv y<|skF y<|skF y<|skF y<|skF y<|u<|pk (b:=false) y y<|u<|mv y<|skF y<|skF y<|skF y<|u<|pk (b:=false) y y<|u<|mv y<|skF y<|skF y<|skF y<|u<|pk (b:=false) y y<|u<|mv y<|skF y<|skF y<|skF y<|u<|pk (b:=false) y y<|u<|asg y<|zw ?_;exact RT0
       .replace h:=bT y h;obtain ⟨l,m,h⟩:=bs h;refine g y y<|mv y<|g y y<|pc (zjv a.1 a.2.1 a.2.2.1 a.2.2.2.1 a.2.2.2.2 [65,97] [115] m) y y y<|g y y<|eql ti y y<|u<|pk (b:=true) y y<|u<|mv y<|?_;generalize (l == 0)=n at h ⊢
        rcases n with _ |_
        .replace h:=bF y h;refine skF y<|skF y<|skF y<|skF y<|u<|pk (b:=false) y y<|u<|mv y<|skF y<|skF y<|skF y<|u<|pk (b:=false) y y<|u<|mv y<|skF y<|skF y<|skF y<|u<|pk (b:=false) y y<|u<|mv y<|skF y<|skF y<|skF y<|u<|pk (b:=false) y y<|u<|asg y<|zw ?_;exact RT0
        .replace h:=bT y h;obtain ⟨o,p,q,s,h⟩:=bs2 h;refine g y y<|mv y<|g y y<|sx [] (zfK a.1 a.2.1 a.2.2.1 a.2.2.2.1 a.2.2.2.2 [66,98] p)<|g y y<|bl 4 ti y ti y (by decide) (by decide) y y y<|g y y<|pcs (DY o ([[65,97,46,120],[66,98,46,121]]) s) y y (.cons (XM y (λ_=>y)) (.cons (zI8 y ⟨⟨(si y),t⟩,⟨(si y),t⟩,t⟩) .nil)) XA<|u<|pk (b:=true) y y<|u<|mv y<|?_
         rcases q with _ |_
         .replace h:=bF y h;refine skF y<|skF y<|skF y<|u<|pk (b:=false) y y<|u<|mv y<|skF y<|skF y<|skF y<|u<|pk (b:=false) y y<|u<|mv y<|skF y<|skF y<|skF y<|u<|pk (b:=false) y y<|u<|asg y<|zw ?_;exact RT0
         .replace h:=bT y h;obtain ⟨v,x,h⟩:=bs h;refine g y y<|mv y<|g y y<|pc (zh5 a.1 a.2.1 a.2.2.1 a.2.2.2.1 a.2.2.2.2 [66,98] [121] x) y y y<|g y y<|eql ti y y<|u<|pk (b:=true) y y<|u<|mv y<|?_;generalize (v == 1)=B at h ⊢
          rcases B with _ |_
          .replace h:=bF y h;refine skF y<|skF y<|skF y<|u<|pk (b:=false) y y<|u<|mv y<|skF y<|skF y<|skF y<|u<|pk (b:=false) y y<|u<|asg y<|zw ?_;exact RT0
          .replace h:=bT y h;obtain ⟨C,D,h⟩:=bs h;refine g y y<|mv y<|g y y<|pc (zf9 a.1 a.2.1 a.2.2.1 a.2.2.2.1 a.2.2.2.2 [66,98] [102] D) y y y<|g y y<|eql ti y y<|u<|pk (b:=true) y y<|u<|mv y<|?_;generalize (C == 0)=E at h ⊢
           rcases E with _ |_
           .replace h:=bF y h;refine skF y<|skF y<|skF y<|u<|pk (b:=false) y y<|u<|asg y<|zw ?_;exact RT0
           .replace h:=bT y h;obtain ⟨W,F,h⟩:=bs h;refine g y y<|mv y<|g y y<|pc (zf9 a.1 a.2.1 a.2.2.1 a.2.2.2.1 a.2.2.2.2 [66,98] [109,97,105,110] F) y y y<|g y y<|eql ti y y<|u<|pk (b:=true) y y<|u<|asg y<|zw ?_;exact RT0
instance:PF prog 40 [] (znv) bA:=⟨λ_=>zuz ⟩
def Ov(a:X1):Option (X1):=
  (Zv a.C 12).bind λb=>(Zv a.M 12).bind λc=>some (X1.mk b c)
theorem zst(a:X1){r:X1}(h:Ov a=some r):Xo prog 37 [.agg (Kw a)] (.agg (Kw r)):=by
 refine zi func37 y kz y y ?_;unfold Ov at h;refine A ?_;obtain ⟨b,d,h⟩:=bs h;obtain ⟨c,e,h⟩:=bs h;refine rdA [(2,.mpt 0 0 0)] [some (2,[[sA b,sA c]])] [7] [0,1,2,3,4,5,6] [(9,_),(8,_),(7,_),(6,_),(5,_),(4,_),(3,_)] 1 (Xi (z:=by exact ⟨(λ_ _=>⟨_,y,y,sto ti y y y<|⟨.any,[],[],y,y,y,t,Xl (z:=Xb [1])⟩⟩),t⟩)) ?_;exact RT0
instance (a:X1):PF prog 37 [.agg (Kw a)] (Ov a) (λr=>(.agg (Kw r))):=⟨λ_=>zst a⟩
def Ou(a:GH):Option (GH):=
  (XK a.In 0 (if 30<(length a.In:Int) then 30 else (length a.In:Int))).bind λb=>(Xx 4 ([]:List Int) b).bind λc=>(zI7 a.Fuel 600).bind λd=>(zI7 (i64.wrap (d+600)) 600).bind λe=>(zsY a.L).bind λf=>(Ov a.E).bind λi=>some (GH.mk f i c e)
theorem zsu(c:GH){r:GH}(h:Ou c=some r):Xo prog 41 [.agg (zpB c)] (.agg (zpB r)):=by
 refine zi func41 y kz y y ?_;unfold Ou at h;refine A ?_;obtain ⟨v,l,h⟩:=bs h;obtain ⟨i,p,h⟩:=bs h;refine A ?_;refine u<|mnI y y<|u<|slI (a:=0) (b:=(if 30<(length c.In:Int) then 30 else (length c.In:Int))) ti y ti y y y (HF y l) l<|u<|apN (f:=(rI .i32)) 2 ti y ti y y (by decide) ti y y y roI (λ_=>y) y p<|A ?_;obtain ⟨m,n,h⟩:=bs h;obtain ⟨j,o,h⟩:=bs h;obtain ⟨d,q,h⟩:=bs h;obtain ⟨e,s,h⟩:=bs h;refine rdA [(2,.mpt 0 0 0)] [some (5,[[.msl 1 0 (length d),sA e.C,sA e.M,.msl 2 0 (length i),iA j]]),some (6,map zf d),some (1,map (rI .i32) i)] [2,13] [11,10,9,8,7,6,4,3,1,0] [(23,iA j),(22,iA (i64.wrap (m+600))),(21,iA m),(20,iA c.Fuel),(19,.mpt 0 0 4),(18,.msl 2 0 (length i)),(16,.agg (Kw c.E)),(15,.mpt 0 0 1),(13,cL c.L),(12,.mpt 0 0 0)] 2 (ZQ ⟨(pb y (rem ti y y o w)),(pb y (add ti y y w)),(pb y (rem ti y y n w)),(pb y (ld ti y y w)),(pb y (fa ti y y y w)),pe,(pb y (ld ti y y w)),(pb y (fa ti y y y w)),(pb y (ld ti y y w)),(pb y (fa ti y y y w)),t⟩ ⟨(λ_ _=>⟨_,y,y,sx [] (zyF c.L q)<|⟨(.msl 3 0 (length d)),[12,5],[(24,.agg [.msl 3 0 (length d),sA e.C,sA e.M,.msl 2 0 (length i),iA j]),(17,.agg (Kw e)),(14,.msl 3 0 (length d))],y,y,kz,y,ZQ ⟨(pb y (bd ti y y y w)),(pb y (pc (zst c.E s) y y y w)),(pb y (rem ti y y o w)),(pb y (add ti y y w)),(pb y (rem ti y y n w)),(pb y (ld ti y y w)),(pb y (fa ti y y y w)),pe,(pb y (ld ti y y w)),(pb y (fa ti y y y w)),pe,(pb y (fa ti y y y w)),t⟩ ⟨nv,(λ_ _=>⟨_,y,y,sto ti y y y<|⟨.any,[],[],y,y,kz,t,zIy (zm [1,3,2])⟩⟩),t⟩⟩⟩),nw,t⟩) ?_;exact RT0
instance (a:GH):PF prog 41 [.agg (zpB a)] (Ou a) (λr=>(.agg (zpB r))):=⟨λ_=>zsu a⟩
def zt0(a:T1):Option (T1):=
  some a
def zjz(a:T0)(b:T1):zL (T1×T0) (T1) (T1):=
  (XK a 1 (length a:Int)).bind λc=>some (.inl (b,c))
def zoZ(b:T1)(a:T0)(c:Bool):zL (T1×T0) (T1) (T1):=
  cond (!c) ((Xx 16 b [a]).bind λd=>zjz a d) (zjz a b)
def D0(b:T1)(d:T0)(c:Bool)(a:Int):zL (Bool×Int) (Bool) (T1):=
  cond (decide (a<((length b):Int))) ((cond c (some true) ((idx b a).bind λe=>some (e == d))).bind λf=>some (.inl (f,(i64.wrap (a+1))))) (some (.inr (.inl c)))
def zjA(c:T1)(a:T0):zL (T1×T0) (T1) (T1):=
  (cond (decide (0<(length a:Int))) ((idx a 0).bind λd=>some ((d.toNat:Int) == 91)) (some false)).bind λe=>cond e ((zk (λz=>D0 c a z.1 z.2) (false,0)).bind λo=>zB o (λb=>zoZ c a b) (λr=>some (.inr (.inr r)))) (some (.inr (.inl c)))
def W9(a:T1)(c:T0):Option (T1):=
  (zk (λz=>zjA z.1 z.2) (a,c)).bind λo=>zB o (λb=>zt0 b) some
theorem zlB(i:T1)(n:T0){r:T1}(h:W9 i n=some r):SC prog 128 [.msl 0 0 (length i),sA n] [.many 1 (map Xf i)] (.msl 1 0 (length r)) [.no,.many 1 (map Xf r)]:=by
 refine ⟨⟨t,Xw (sz:=1) (λ_=>y),t⟩,zR func128 y kz y ?_⟩;refine A ?_;obtain ⟨o,ho,h⟩:=bs h;refine lpA ho (λz=>[(0,.msl 1 0 (length z.1)),(1,sA z.2)]) (λz=>[none,sT z.1]) (λb=>[(0,.msl 1 0 (length b))]) (λb=>[none,sT b]) (λr env st=>U0 prog f128 1 (.msl 1 0 (length r)) [none,sT r] env st) (Xb [.dead,0]) ?_ ?_
 .rintro ⟨d,c⟩ r h;refine ze ?_;obtain ⟨s,v,h⟩:=bs h;refine A ?_;apply Xa h y<;>intro j h
  .refine zc<|zh<|A ?_;refine ze<|A ?_;obtain ⟨o,ho,h⟩:=bs h;refine lpS ho (λz=>[(0,.msl 1 0 (length d)),(1,sA c),(5,bA z.1),(6,iA z.2)]) (λz=>[none,sT d]) (λb=>[(0,.msl 1 0 (length d)),(1,sA c),(5,bA b)]) (λb=>[none,sT d]) (λr env st=>U0 prog f128 1 (.msl 1 0 (length r)) [none,sT r] env st) (Xb [.dead,1]) ?_ ?_ ?_
   .rintro ⟨x,B⟩ r h;refine ze<|A ?_;apply Xa h y<;>intro l h
    .refine zc<|ze<|zh ?_;obtain ⟨C,D,h⟩:=bs h;refine A ?_;refine A ?_;cases h;exact ⟨_,y,zm [.dead,1]⟩
    .refine zp ?_;cases h;exact ⟨y,_,y,zm [.dead,1]⟩
   .rintro E rfl;refine zl ?_;refine Xz (X:=T1) (λz=>[(0,.msl 1 0 (length z)),(1,sA c)]) (λz=>[none,sT z]) (λz=>zjz c z=some r) ?_ ?_
    .refine A ?_;apply Xa h y<;>intro m h
     .obtain ⟨p,q,h⟩:=bs h;refine A ?_;refine u<|apM 3 ti y ti y y (by decide) ti y y y y (roX (f:=Xf) (z:=[c]) y y) (λ_=>y) y q<|A ?_;exact (⟨p,h,zm [.dead,3]⟩)
     .refine zc ?_;exact ⟨d,h,zm [.dead,1]⟩
    .rintro F h;obtain ⟨G,e,h⟩:=bs h;refine rl y<|u<|mv y<|u<|slS (a:=1) (b:=(length c:Int)) ti y y (KK y e) y e<|A ?_;cases h;exact ⟨_,y,zm [.dead,1]⟩
   .rintro r' rfl env st hp;cases h;exact ⟨_,y,hp⟩
  .refine zp ?_;cases h;exact ⟨y,_,y,zm [.dead,1]⟩
 .rintro H rfl;refine A ?_;refine zA ?_;cases h;exact ⟨_,y,KZ [.dead,1]⟩
def ztZ(a:T1):Option (T1):=
  some a
def ztY(b:Int)(a:T1):zL (T1×Int) (T1) (T1):=
  some (.inl (a,(i64.wrap (b+1))))
def ztX(a:Int)(b:T1):zL (T1×Int) (T1) (T1):=
  some (.inl (b,(i64.wrap (a+1))))
def zh7(a:Int)(b:T1):zL (T1×Int) (T1) (T1):=
  some (.inl (b,(i64.wrap (a+1))))
def zjy(a:T1)(b:Int)(c:zs)(d:Bool):zL (T1×Int) (T1) (T1):=
  cond d ((W9 a c.C).bind λe=>zh7 b e) (zh7 b a)
def D1(e:za)(d:Int)(c:T1)(b:Int):zL (T1×Int) (T1) (T1):=
  (idx e.Methods d).bind λf=>cond (decide (b<(length f.Code:Int))) ((idx e.Methods d).bind λi=>(idx i.Code b).bind λa=>cond (a.Op == 50) ((zmW a.C).bind λj=>(W9 c j).bind λl=>zh7 b l) (cond (a.Op == 56) (zjy c b a (a.Op == 56)) (zjy c b a (a.Op == 57)))) (some (.inr (.inl c)))
def Bg(d:za)(c:T1)(a:Int):zL (T1×Int) (T1) (T1):=
  cond (decide (a<(length d.Methods:Int))) ((zk (λz=>D1 d a z.1 z.2) (c,0)).bind λo=>zB o (λb=>ztX a b) (λr=>some (.inr (.inr r)))) (some (.inr (.inl c)))
def zoY(a:Int)(c:za)(d:T1):zL (T1×Int) (T1) (T1):=
  (zk (λz=>Bg c z.1 z.2) (d,0)).bind λo=>zB o (λb=>ztY a b) (λr=>some (.inr (.inr r)))
def Be(b:za)(c:T1)(a:Int):zL (T1×Int) (T1) (T1):=
  cond (decide (a<(length b.Fields:Int))) ((idx b.Fields a).bind λd=>(W9 c d.Type_).bind λe=>some (.inl (e,(i64.wrap (a+1))))) (some (.inr (.inl c)))
def Bf(e:zq)(c:T1)(a:Int):zL (T1×Int) (T1) (T1):=
  cond (decide (a<(length e.L:Int))) ((idx e.L a).bind λd=>(zk (λz=>Be d z.1 z.2) (c,0)).bind λo=>zB o (λb=>zoY a d b) (λr=>some (.inr (.inr r)))) (some (.inr (.inl c)))
def zp3(d:zq)(a:T1):Option (T1):=
  (Xx 16 a ([[91,73]])).bind λc=>(zk (λz=>Bf d z.1 z.2) (c,0)).bind λo=>zB o (λb=>ztZ b) some
def Bb(b:zq)(c:T1)(a:Int):zL (T1×Int) (T1) (T1):=
  cond (decide (a<(length b.L:Int))) ((idx b.L a).bind λe=>(Xx 16 c [e.Name]).bind λd=>some (.inl (d,(i64.wrap (a+1))))) (some (.inr (.inl c)))
def O4(c:Option zq):Option (T1):=
  Zq c (none) (λa=>(zk (λz=>Bb a z.1 z.2) ([],0)).bind λo=>zB o (λb=>zp3 a b) some)
theorem zp4(x:Option zq){r:T1}(h:O4 x=some r):Xo prog 45 [Xy 1 Zw x] (tL r):=by
 refine zi func45 y kz y y ?_;unfold O4 at h
 rcases x with _ |d
 .replace h:=oeN h;refine A ?_;refine A ?_;refine ze<|A ?_;cases h
 .replace h:=oeS h;refine A ?_;refine A ?_;refine ze<|A ?_;obtain ⟨o,ho,h⟩:=bs h;refine lpB ho (λz=>[(0,.ipt 1 [[cL d.L]] 0 0),(3,.msl 0 0 (length z.1)),(4,iA z.2)]) (λz=>[sT z.1]) (λb=>[(0,.ipt 1 [[cL d.L]] 0 0),(3,.msl 0 0 (length b))]) (λb=>[sT b]) (pG f45 (λr=>tL r)) ⟨[.fresh 1],ce y y<|cv y (.nilown y)<|ce y y<|cn,y,⟨w,t⟩,y,k⟩ ?_ ?_
  .rintro ⟨v7,v8⟩ r h;refine ze<|A ?_;apply Xa h y<;>intro J h
   .refine zc<|ze<|zh ?_;obtain ⟨P,q5,v10,Q,h⟩:=bs2 h;refine A ?_;refine u<|apM 2 ti y ti y y (by decide) ti y y y y (roX (f:=Xf) (z:=[P.Name]) y y) (λ_=>y) y Q<|A ?_;refine A ?_;cases h;exact ⟨_,y,zm [2]⟩
   .refine zp ?_;cases h;exact ⟨y,_,y,zm [0]⟩
  .rintro v11 rfl;refine zl ?_;obtain ⟨v12,R,h⟩:=bs h;refine A ?_;refine u<|apM 2 ti y ti y y (by decide) ti y y y y (roX (f:=Xf) (z:=[[91,73]]) y y) (λ_=>y) y R<|A ?_;refine ze<|A ?_;obtain ⟨o,ho,h⟩:=bs h;refine lpB ho (λz=>[(0,.ipt 1 [[cL d.L]] 0 0),(3,.msl 0 0 (length z.1)),(5,iA z.2)]) (λz=>[sT z.1]) (λb=>[(3,.msl 0 0 (length b))]) (λb=>[sT b]) (pG f45 (λr=>tL r)) (Xb [2]) ?_ ?_
   .rintro ⟨v72,a⟩ r h;refine ze<|A ?_;apply Xa h y<;>intro B h
    .refine zc<|ze<|zh ?_;obtain ⟨c,q59,h⟩:=bs h;refine A ?_;refine ze<|A ?_;obtain ⟨o,ho,h⟩:=bs h;refine lpS ho (λz=>[(0,.ipt 1 [[cL d.L]] 0 0),(3,.msl 0 0 (length z.1)),(5,iA a),(6,.mpt 1 0 0),(7,iA z.2)]) (λz=>[sT z.1,some (6,[(zf c)])]) (λb=>[(0,.ipt 1 [[cL d.L]] 0 0),(3,.msl 0 0 (length b)),(5,iA a),(6,.mpt 1 0 0)]) (λb=>[sT b,some (6,[(zf c)])]) (pG f45 (λr=>tL r)) (Xb [0,1]) ?_ ?_ ?_
     .rintro ⟨K,M⟩ r h;refine ze<|A ?_;apply Xa h y<;>intro D h
      .refine zc<|ze<|zh ?_;obtain ⟨N,q64,v,O,h⟩:=bs2 h;refine A ?_;refine u<|sx [0] (zlB K N.Type_ O)<|zu (env0:=[(0,.ipt 1 [[cL d.L]] 0 0),(5,iA a),(6,.mpt 0 0 0),(7,iA M),(64,.msl 1 0 (length v))]) (st0:=[some (6,[(zf c)]),sT v]) (zm [1,2])<|A ?_;refine A ?_;cases h;exact ⟨_,y,zm [1,0]⟩
      .refine zp ?_;cases h;exact ⟨y,_,y,zm [0,1]⟩
     .rintro v83 rfl;refine zl<|A ?_;obtain ⟨o,ho,h⟩:=bs h;refine lpS ho (λz=>[(0,.ipt 1 [[cL d.L]] 0 0),(3,.msl 0 0 (length z.1)),(5,iA a),(6,.mpt 1 0 0),(8,iA z.2)]) (λz=>[sT z.1,some (6,[(zf c)])]) (λb=>[(0,.ipt 1 [[cL d.L]] 0 0),(3,.msl 0 0 (length b)),(5,iA a)]) (λb=>[sT b]) (pG f45 (λr=>tL r)) (Xb [0,1]) ?_ ?_ ?_
      .rintro ⟨S,e⟩ r h;refine ze<|A ?_;apply Xa h y<;>intro E h
       .refine zc<|ze<|zh<|A ?_;obtain ⟨o,ho,h⟩:=bs h;refine lpS ho (λz=>[(0,.ipt 1 [[cL d.L]] 0 0),(3,.msl 0 0 (length z.1)),(5,iA a),(6,.mpt 1 0 0),(8,iA e),(9,iA z.2)]) (λz=>[sT z.1,some (6,[(zf c)])]) (λb=>[(0,.ipt 1 [[cL d.L]] 0 0),(3,.msl 0 0 (length b)),(5,iA a),(6,.mpt 1 0 0),(8,iA e)]) (λb=>[sT b,some (6,[(zf c)])]) (pG f45 (λr=>tL r)) (Xb [0,1]) ?_ ?_ ?_
        .rintro ⟨i,j⟩ r h;refine ze ?_;obtain ⟨T,q98,h⟩:=bs h;refine A ?_;apply Xa h y<;>intro F h
         .refine zc ?_;refine Xz (X:=T1) (λz=>[(0,.ipt 1 [[cL d.L]] 0 0),(3,.msl 0 0 (length z)),(5,iA a),(6,.mpt 1 0 0),(8,iA e),(9,iA j)]) (λz=>[sT z,some (6,[(zf c)])]) (λz=>zh7 j z=some r) ?_ ?_
          .refine zh ?_;obtain ⟨U,V,l,W,h⟩:=bs2 h;refine A ?_;refine A ?_;refine zh<|A ?_;apply Xa h y<;>intro p h
           .obtain ⟨G,Y,m,H,h⟩:=bs2 h;refine A ?_;refine u<|sx [0] (zlB i G H)<|zu (env0:=[(0,.ipt 1 [[cL d.L]] 0 0),(5,iA a),(6,.mpt 0 0 0),(8,iA e),(9,iA j),(100,.msl 1 0 (length m))]) (st0:=[some (6,[(zf c)]),sT m]) (zm [1,3])<|A ?_;exact (⟨m,h,zm [1,0]⟩)
           .refine Xz (X:=Bool) (λz=>[(0,.ipt 1 [[cL d.L]] 0 0),(3,.msl 0 0 (length i)),(5,iA a),(6,.mpt 1 0 0),(8,iA e),(9,iA j),(10,.mpt 2 0 0),(101,bA z)]) (λz=>[sT i,some (6,[(zf c)]),some (4,[(zt l)])]) (λz=>zjy i j l z=some r) ?_ ?_
            .refine A ?_;apply Xa h y<;>intro q h
             .refine zc ?_;exact ⟨(l.Op == 56),h,zm [0,1,2]⟩
             .refine A ?_;exact (⟨(l.Op == 57),h,zm [0,1,2]⟩)
            .rintro Z h;apply Xa h y<;>intro s h
             .obtain ⟨n,I,h⟩:=bs h;refine A ?_;refine u<|sx [0] (zlB i l.C I)<|zu (env0:=[(0,.ipt 1 [[cL d.L]] 0 0),(5,iA a),(6,.mpt 0 0 0),(8,iA e),(9,iA j),(107,.msl 1 0 (length n))]) (st0:=[some (6,[(zf c)]),sT n]) (zm [1,3])<|A ?_;exact (⟨n,h,zm [1,0]⟩)
             .refine zc ?_;exact ⟨i,h,zm [0,1]⟩
          .rintro v128 h;refine A ?_;cases h;exact ⟨_,y,zm [0,1]⟩
         .refine zp ?_;cases h;exact ⟨y,_,y,zm [0,1]⟩
        .rintro v129 rfl;refine zl<|A ?_;cases h;exact ⟨_,y,zm [0,1]⟩
        .rintro r' rfl env st hp;cases h;exact ⟨_,y,hp⟩
       .refine zp ?_;cases h;exact ⟨y,_,y,zm [0]⟩
      .rintro v130 rfl;refine zl<|A ?_;cases h;exact ⟨_,y,zm [0]⟩
      .rintro r' rfl env st hp;cases h;exact ⟨_,y,hp⟩
     .rintro r' rfl env st hp;cases h;exact ⟨_,y,hp⟩
    .refine zp ?_;cases h;exact ⟨y,_,y,zm [0]⟩
   .rintro v131 rfl;refine zl<|A ?_;exact RT0
instance (a:Option zq):PF prog 45 [Xy 1 Zw a] (O4 a) (λr=>(tL r)):=⟨λ_=>zp4 a⟩
def zsL(a:T1):Option (T1):=
  some a
def zsK(a:Int)(b:T1):zL (T1×Int) (T1) (T1):=
  some (.inl (b,(i64.wrap (a+1))))
def Bk(d:zq)(a:Int)(c:T1)(b:Int):zL (T1×Int) (T1) (T1):=
  (idx d.L a).bind λe=>cond (decide (b<(length e.Methods:Int))) ((idx d.L a).bind λf=>(X2 f.Name [46]).bind λi=>(idx d.L a).bind λj=>(idx j.Methods b).bind λl=>(X2 i l.Name).bind λm=>(Xx 16 c [m]).bind λn=>some (.inl (n,(i64.wrap (b+1))))) (some (.inr (.inl c)))
def Bj(d:zq)(c:T1)(a:Int):zL (T1×Int) (T1) (T1):=
  cond (decide (a<(length d.L:Int))) ((zk (λz=>Bk d a z.1 z.2) (c,0)).bind λo=>zB o (λb=>zsK a b) (λr=>some (.inr (.inr r)))) (some (.inr (.inl c)))
def O9(a:Option zq):Option (T1):=
  Zq a (none) (λc=>(zk (λz=>Bj c z.1 z.2) ([],0)).bind λo=>zB o (λb=>zsL b) some)
theorem zn2(q:Option zq){r:T1}(h:O9 q=some r):Xo prog 46 [Xy 1 Zw q] (tL r):=by
 refine zi func46 y kz y y ?_;unfold O9 at h
 rcases q with _ |a
 .replace h:=oeN h;refine A ?_;refine A ?_;refine ze<|A ?_;cases h
 .replace h:=oeS h;refine A ?_;refine A ?_;refine ze<|A ?_;obtain ⟨o,ho,h⟩:=bs h;refine lpB ho (λz=>[(0,.ipt 1 [[cL a.L]] 0 0),(3,.msl 0 0 (length z.1)),(4,iA z.2)]) (λz=>[sT z.1]) (λb=>[(3,.msl 0 0 (length b))]) (λb=>[sT b]) (pG f46 (λr=>tL r)) ⟨[.fresh 1],ce y y<|cv y (.nilown y)<|ce y y<|cn,y,⟨w,t⟩,y,k⟩ ?_ ?_
  .rintro ⟨G,c⟩ r h;refine ze<|A ?_;apply Xa h y<;>intro s h
   .refine zc<|ze<|zh<|A ?_;obtain ⟨o,ho,h⟩:=bs h;refine lpS ho (λz=>[(0,.ipt 1 [[cL a.L]] 0 0),(3,.msl 0 0 (length z.1)),(4,iA c),(5,iA z.2)]) (λz=>[sT z.1]) (λb=>[(0,.ipt 1 [[cL a.L]] 0 0),(3,.msl 0 0 (length b)),(4,iA c)]) (λb=>[sT b]) (pG f46 (λr=>tL r)) (Xb [0]) ?_ ?_ ?_
    .rintro ⟨x,l⟩ r h;refine ze ?_;obtain ⟨H,I,h⟩:=bs h;refine A ?_;apply Xa h y<;>intro v h
     .refine zc<|ze<|zh ?_;obtain ⟨B,d,C,m,n,e,D,i,h⟩:=bs4 h;obtain ⟨p,E,j,F,h⟩:=bs2 h;refine XC [(0,.ipt 1 [[cL a.L]] 0 0),(3,.msl 0 0 (length j)),(4,iA c),(5,iA l)] [sT j] [23,24] [22,21,20,19,18,17,16,15,14,13,12,11,10,9,8,7,6,5,4,3,2,1,0] [(50,sA p),(49,sA D.Name),(48,.ipt 10 (map zd n.Methods) (Int.toNat l) 0),(47,.ipt 10 (map zd n.Methods) (Int.toNat l) 0),(46,iA l),(45,.isl 10 (map zd n.Methods)),(44,.ipt 6 (map zf a.L) (Int.toNat c) 5),(43,.ipt 6 (map zf a.L) (Int.toNat c) 0),(42,iA c),(41,cL a.L),(40,.ipt 1 [[cL a.L]] 0 0),(39,.ipt 1 [[cL a.L]] 0 0),(38,.ipt 1 [[cL a.L]] 0 0),(37,sA C),(36,sA B.Name),(35,.ipt 6 (map zf a.L) (Int.toNat c) 0),(34,.ipt 6 (map zf a.L) (Int.toNat c) 0),(33,iA c),(32,cL a.L),(31,.ipt 1 [[cL a.L]] 0 0),(30,.ipt 1 [[cL a.L]] 0 0),(29,.ipt 1 [[cL a.L]] 0 0),(28,.msl 0 0 (length x))] 2 (ZQ ⟨(pb y (GO ti y y E w)),(pb y (ldI ti y (zQ i).2.2 y w)),(pb y (fa ti y y y w)),(pb y (ixI ti y ti y y y i w)),pe,(pb y (ldI ti y (zQ e).2.2 y w)),(pb y (fa ti y y y w)),(pb y (ixI ti y ti y y y e w)),pe,(pb y (ld ti y y w)),(pb y (fa ti y y y w)),pe,pe,(pb y (GO ti y y m w)),(pb y (ldI ti y (zQ d).2.2 y w)),(pb y (fa ti y y y w)),(pb y (ixI ti y ti y y y d w)),pe,(pb y (ld ti y y w)),(pb y (fa ti y y y w)),pe,pe,pe,t⟩ ⟨(λ_ _=>⟨_,y,y,bl 1 ti y ti y (by decide) (by decide) y y y<|⟨(.msl 1 0 1),[],[(51,.msl 1 0 1)],y,y,kz,y,ZQ ⟨pe,(pb y (ldI ti y (zQ i).2.2 y w)),(pb y (fa ti y y y w)),(pb y (ixI ti y ti y y y i w)),pe,(pb y (ldI ti y (zQ e).2.2 y w)),(pb y (fa ti y y y w)),(pb y (ixI ti y ti y y y e w)),pe,(pb y (ld ti y y w)),(pb y (fa ti y y y w)),pe,pe,(pb y (GO ti y y m w)),(pb y (ldI ti y (zQ d).2.2 y w)),(pb y (fa ti y y y w)),(pb y (ixI ti y ti y y y d w)),pe,(pb y (ld ti y y w)),(pb y (fa ti y y y w)),pe,pe,pe,t⟩ ⟨nv,(λ_ _=>⟨_,y,y,apM 2 ti y ti y y (by decide) ti y y y y (roX (f:=Xf) (z:=[p]) y y) (λ_=>y) y F<|⟨(.msl 2 0 (length j)),[25],[(3,.msl 2 0 (length j)),(52,.msl 2 0 (length j))],y,y,kz,y,Ue ⟨pe,pe,(pb y (ldI ti y (zQ i).2.2 y w)),(pb y (fa ti y y y w)),(pb y (ixI ti y ti y y y i w)),pe,(pb y (ldI ti y (zQ e).2.2 y w)),(pb y (fa ti y y y w)),(pb y (ixI ti y ti y y y e w)),pe,(pb y (ld ti y y w)),(pb y (fa ti y y y w)),pe,pe,(pb y (GO ti y y m w)),(pb y (ldI ti y (zQ d).2.2 y w)),(pb y (fa ti y y y w)),(pb y (ixI ti y ti y y y d w)),pe,(pb y (ld ti y y w)),(pb y (fa ti y y y w)),pe,pe,pe,t⟩ (zm [2])⟩⟩),t⟩⟩⟩),nw,t⟩) ?_;refine A ?_;cases h;exact ⟨_,y,zm [0]⟩
     .refine zp ?_;cases h;exact ⟨y,_,y,zm [0]⟩
    .rintro J rfl;refine zl<|A ?_;cases h;exact ⟨_,y,zm [0]⟩
    .rintro r' rfl env st hp;cases h;exact ⟨_,y,hp⟩
   .refine zp ?_;cases h;exact ⟨y,_,y,zm [0]⟩
  .rintro K rfl;refine zl<|A ?_;exact RT0
instance (a:Option zq):PF prog 46 [Xy 1 Zw a] (O9 a) (λr=>(tL r)):=⟨λ_=>zn2 a⟩
def zr7(a:T1):Option (T1):=
  some a
def zr6(a:Int)(b:T1):zL (T1×Int) (T1) (T1):=
  some (.inl (b,(i64.wrap (a+1))))
def ziW(a:Int)(b:T1):zL (T1×Int) (T1) (T1):=
  some (.inl (b,(i64.wrap (a+1))))
def Bi(d:zq)(b:Int)(c:T1)(a:Int):zL (T1×Int) (T1) (T1):=
  (idx d.L b).bind λe=>cond (decide (a<(length e.Fields:Int))) ((idx d.L b).bind λf=>(idx f.Fields a).bind λi=>cond i.Static ((idx d.L b).bind λj=>(X2 j.Name [46]).bind λl=>(idx d.L b).bind λm=>(idx m.Fields a).bind λn=>(X2 l n.Name).bind λo=>(Xx 16 c [o]).bind λp=>ziW a p) (ziW a c)) (some (.inr (.inl c)))
def Bn(d:zq)(c:T1)(a:Int):zL (T1×Int) (T1) (T1):=
  cond (decide (a<(length d.L:Int))) ((zk (λz=>Bi d a z.1 z.2) (c,0)).bind λo=>zB o (λb=>zr6 a b) (λr=>some (.inr (.inr r)))) (some (.inr (.inl c)))
def O8(a:Option zq):Option (T1):=
  Zq a (none) (λc=>(zk (λz=>Bn c z.1 z.2) ([],0)).bind λo=>zB o (λb=>zr7 b) some)
theorem zn3(s:Option zq){r:T1}(h:O8 s=some r):Xo prog 47 [Xy 1 Zw s] (tL r):=by
 refine zi func47 y kz y y ?_;unfold O8 at h
 rcases s with _ |a
 .replace h:=oeN h;refine A ?_;refine A ?_;refine ze<|A ?_;cases h
 .replace h:=oeS h;refine A ?_;refine A ?_;refine ze<|A ?_;obtain ⟨o,ho,h⟩:=bs h;refine lpB ho (λz=>[(0,.ipt 1 [[cL a.L]] 0 0),(3,.msl 0 0 (length z.1)),(4,iA z.2)]) (λz=>[sT z.1]) (λb=>[(3,.msl 0 0 (length b))]) (λb=>[sT b]) (pG f47 (λr=>tL r)) ⟨[.fresh 1],ce y y<|cv y (.nilown y)<|ce y y<|cn,y,⟨w,t⟩,y,k⟩ ?_ ?_
  .rintro ⟨H,c⟩ r h;refine ze<|A ?_;apply Xa h y<;>intro v h
   .refine zc<|ze<|zh<|A ?_;obtain ⟨o,ho,h⟩:=bs h;refine lpS ho (λz=>[(0,.ipt 1 [[cL a.L]] 0 0),(3,.msl 0 0 (length z.1)),(4,iA c),(5,iA z.2)]) (λz=>[sT z.1]) (λb=>[(0,.ipt 1 [[cL a.L]] 0 0),(3,.msl 0 0 (length b)),(4,iA c)]) (λb=>[sT b]) (pG f47 (λr=>tL r)) (Xb [0]) ?_ ?_ ?_
    .rintro ⟨p,d⟩ r h;refine ze ?_;obtain ⟨I,J,h⟩:=bs h;refine A ?_;apply Xa h y<;>intro x h
     .refine zc ?_;refine Xz (X:=T1) (λz=>[(0,.ipt 1 [[cL a.L]] 0 0),(3,.msl 0 0 (length z)),(4,iA c),(5,iA d)]) (λz=>[sT z]) (λz=>ziW d z=some r) ?_ ?_
      .refine zh ?_;obtain ⟨K,M,N,O,h⟩:=bs2 h;refine A ?_;apply Xa h y<;>intro B h
       .obtain ⟨C,e,D,m,n,i,E,j,h⟩:=bs4 h;obtain ⟨q,F,l,G,h⟩:=bs2 h;refine XC [(0,.ipt 1 [[cL a.L]] 0 0),(3,.msl 0 0 (length l)),(4,iA c),(5,iA d)] [sT l] [23,24] [22,21,20,19,18,17,16,15,14,13,12,11,10,9,8,7,6,5,4,3,2,1,0] [(62,sA q),(61,sA E.Name),(60,.ipt 3 (map zv n.Fields) (Int.toNat d) 0),(59,.ipt 3 (map zv n.Fields) (Int.toNat d) 0),(58,iA d),(57,.isl 3 (map zv n.Fields)),(56,.ipt 6 (map zf a.L) (Int.toNat c) 4),(55,.ipt 6 (map zf a.L) (Int.toNat c) 0),(54,iA c),(53,cL a.L),(52,.ipt 1 [[cL a.L]] 0 0),(51,.ipt 1 [[cL a.L]] 0 0),(50,.ipt 1 [[cL a.L]] 0 0),(49,sA D),(48,sA C.Name),(47,.ipt 6 (map zf a.L) (Int.toNat c) 0),(46,.ipt 6 (map zf a.L) (Int.toNat c) 0),(45,iA c),(44,cL a.L),(43,.ipt 1 [[cL a.L]] 0 0),(42,.ipt 1 [[cL a.L]] 0 0),(41,.ipt 1 [[cL a.L]] 0 0),(40,.msl 0 0 (length p))] 2 (ZQ ⟨(pb y (GO ti y y F w)),(pb y (ldI ti y (zQ j).2.2 y w)),(pb y (fa ti y y y w)),(pb y (ixI ti y ti y y y j w)),pe,(pb y (ldI ti y (zQ i).2.2 y w)),(pb y (fa ti y y y w)),(pb y (ixI ti y ti y y y i w)),pe,(pb y (ld ti y y w)),(pb y (fa ti y y y w)),pe,pe,(pb y (GO ti y y m w)),(pb y (ldI ti y (zQ e).2.2 y w)),(pb y (fa ti y y y w)),(pb y (ixI ti y ti y y y e w)),pe,(pb y (ld ti y y w)),(pb y (fa ti y y y w)),pe,pe,pe,t⟩ ⟨(λ_ _=>⟨_,y,y,bl 1 ti y ti y (by decide) (by decide) y y y<|⟨(.msl 1 0 1),[],[(63,.msl 1 0 1)],y,y,kz,y,ZQ ⟨pe,(pb y (ldI ti y (zQ j).2.2 y w)),(pb y (fa ti y y y w)),(pb y (ixI ti y ti y y y j w)),pe,(pb y (ldI ti y (zQ i).2.2 y w)),(pb y (fa ti y y y w)),(pb y (ixI ti y ti y y y i w)),pe,(pb y (ld ti y y w)),(pb y (fa ti y y y w)),pe,pe,(pb y (GO ti y y m w)),(pb y (ldI ti y (zQ e).2.2 y w)),(pb y (fa ti y y y w)),(pb y (ixI ti y ti y y y e w)),pe,(pb y (ld ti y y w)),(pb y (fa ti y y y w)),pe,pe,pe,t⟩ ⟨nv,(λ_ _=>⟨_,y,y,apM 2 ti y ti y y (by decide) ti y y y y (roX (f:=Xf) (z:=[q]) y y) (λ_=>y) y G<|⟨(.msl 2 0 (length l)),[25],[(3,.msl 2 0 (length l)),(64,.msl 2 0 (length l))],y,y,kz,y,Ue ⟨pe,pe,(pb y (ldI ti y (zQ j).2.2 y w)),(pb y (fa ti y y y w)),(pb y (ixI ti y ti y y y j w)),pe,(pb y (ldI ti y (zQ i).2.2 y w)),(pb y (fa ti y y y w)),(pb y (ixI ti y ti y y y i w)),pe,(pb y (ld ti y y w)),(pb y (fa ti y y y w)),pe,pe,(pb y (GO ti y y m w)),(pb y (ldI ti y (zQ e).2.2 y w)),(pb y (fa ti y y y w)),(pb y (ixI ti y ti y y y e w)),pe,(pb y (ld ti y y w)),(pb y (fa ti y y y w)),pe,pe,pe,t⟩ (zm [2])⟩⟩),t⟩⟩⟩),nw,t⟩) ?_;exact ⟨l,h,zm [0]⟩
       .refine zc ?_;exact ⟨p,h,zm [0]⟩
      .rintro P h;refine A ?_;cases h;exact ⟨_,y,zm [0]⟩
     .refine zp ?_;cases h;exact ⟨y,_,y,zm [0]⟩
    .rintro Q rfl;refine zl<|A ?_;cases h;exact ⟨_,y,zm [0]⟩
    .rintro r' rfl env st hp;cases h;exact ⟨_,y,hp⟩
   .refine zp ?_;cases h;exact ⟨y,_,y,zm [0]⟩
  .rintro R rfl;refine zl<|A ?_;exact RT0
instance (a:Option zq):PF prog 47 [Xy 1 Zw a] (O8 a) (λr=>(tL r)):=⟨λ_=>zn3 a⟩
def zn1(a:T1)(b:List zg):Option (T1×(List zg)):=
  some (a,b)
def ztV(a:Int)(b:T1)(c:List zg):zL (T1×(List zg)×Int) (T1×(List zg)) (T1×(List zg)):=
  some (.inl (b,c,(i64.wrap (a-1))))
def zjx(a:Int)(b:T1)(c:List zg):zL (T1×(List zg)×Int) (T1×(List zg)) (T1×(List zg)):=
  some (.inl (b,c,(i64.wrap (a+1))))
def D2(n:T1)(e:Int)(b:za)(c:T1)(d:List zg)(a:Int):zL (T1×(List zg)×Int) (T1×(List zg)) (T1×(List zg)):=
  cond (decide (a<(length b.Fields:Int))) ((idx b.Fields a).bind λf=>cond (!f.Static) ((idx n e).bind λi=>(idx b.Fields a).bind λj=>(Xx 16 c [i]).bind λl=>(Xx 40 d [j]).bind λm=>zjx a l m) (zjx a c d)) (some (.inr (.inl (c,d))))
def zh6(e:List za)(f:T1)(c:T1)(d:List zg)(a:Int):zL (T1×(List zg)×Int) (T1×(List zg)) (T1×(List zg)):=
  cond (decide (0≤a)) ((idx f a).bind λi=>(zS e i).bind λj=>(idx e j).bind λl=>(zk (λz=>D2 f a l z.1 z.2.1 z.2.2) (c,d,0)).bind λo=>zB o (λb=>ztV a b.1 b.2) (λr=>some (.inr (.inr r)))) (some (.inr (.inl (c,d))))
def zoX(a:List za)(d:T0):Option (T1×(List zg)):=
  (KU a d).bind λc=>(zk (λz=>zh6 a c z.1 z.2.1 z.2.2) ([],[],(i64.wrap (((length c):Int)-1)))).bind λo=>zB o (λb=>zn1 b.1 b.2) some
theorem ztW(e:List za)(s:T0){r:T1×(List zg)}(h:zoX e s=some r):SC prog 222 [.ipt 1 [[cL e]] 0 0,sA s] [] (.tup [.msl 0 0 (length r.1),.msl 1 0 (length r.2)]) [.many 1 (map Xf r.1),.many 3 (map zv r.2)]:=by
 refine ⟨⟨Xw (sz:=1) (λ_=>y),Xw (sz:=3) (λ_=>y),t⟩,zR func222 y kz y ?_⟩;refine A ?_;refine A ?_;refine A ?_;obtain ⟨a,G,h⟩:=bs h;refine A ?_;refine u<|sx [] (GL e s G)<|zu (env0:=[(0,.ipt 1 [[cL e]] 0 0),(6,nS),(7,nS),(14,.msl 0 0 (length a))]) (st0:=[sT a]) (zm [0])<|A ?_;refine ze<|A ?_;obtain ⟨o,ho,h⟩:=bs h;refine lpB ho (λz=>[(0,.ipt 1 [[cL e]] 0 0),(6,.msl 0 0 (length z.1)),(7,.msl 1 0 (length z.2.1)),(8,.msl 2 0 (length a)),(9,iA z.2.2)]) (λz=>[sT z.1,some (3,map zv z.2.1),sT a]) (λb=>[(6,.msl 0 0 (length b.1)),(7,.msl 1 0 (length b.2))]) (λb=>[sT b.1,some (3,map zv b.2)]) (pF f222 (λr=>.tup [.msl 0 0 (length r.1),.msl 1 0 (length r.2)]) λr=>[sT r.1,some (3,map zv r.2)]) ⟨[.fresh 1,.fresh 3,0],ce y y<|cv y (.nilown y)<|cv y (.nilown y)<|cv y (.msl y)<|ce y y<|cn,y,⟨w,w,⟨_,y,XY (λ_=>y)⟩,t⟩,y,k⟩ ?_ ?_
 .rintro ⟨C,D,i⟩ r h;refine ze<|A ?_;apply Xa h y<;>intro v h
  .refine zc<|ze<|zh ?_;obtain ⟨H,I,J,K,j,L,h⟩:=bs3 h;refine rdA [(0,_),(6,_),(7,_),(8,_),(9,_),(10,_)] [sT C,some (3,map zv D),sT a] [] [0,1,2,3,4,5,6,7,8,9,10,11,12,13] [(10,_),(34,_),(33,_),(32,_),(31,_),(30,_),(29,_),(28,_),(27,_),(26,_),(25,_),(24,_),(23,_),(22,_)] 0 (Xl (z:=Xb [0,1,2])) ?_;refine A ?_;obtain ⟨o,ho,h⟩:=bs h;refine lpS ho (λz=>[(0,.ipt 1 [[cL e]] 0 0),(6,.msl 0 0 (length z.1)),(7,.msl 1 0 (length z.2.1)),(8,.msl 2 0 (length a)),(9,iA i),(10,.isl 3 (map zv j.Fields)),(11,iA z.2.2)]) (λz=>[sT z.1,some (3,map zv z.2.1),sT a]) (λb=>[(0,.ipt 1 [[cL e]] 0 0),(6,.msl 0 0 (length b.1)),(7,.msl 1 0 (length b.2)),(8,.msl 2 0 (length a)),(9,iA i)]) (λb=>[sT b.1,some (3,map zv b.2),sT a]) (pF f222 (λr=>.tup [.msl 0 0 (length r.1),.msl 1 0 (length r.2)]) λr=>[sT r.1,some (3,map zv r.2)]) (Xb [0,1,2]) ?_ ?_ ?_
   .rintro ⟨E,F,l⟩ r h;refine ze<|A ?_;apply Xa h y<;>intro x h
    .refine zc ?_;refine Xz (X:=T1×(List zg)) (λz=>[(0,.ipt 1 [[cL e]] 0 0),(6,.msl 0 0 (length z.1)),(7,.msl 1 0 (length z.2)),(8,.msl 2 0 (length a)),(9,iA i),(10,.isl 3 (map zv j.Fields)),(11,iA l)]) (λz=>[sT z.1,some (3,map zv z.2),sT a]) (λz=>zjx l z.1 z.2=some r) ?_ ?_
     .refine zh ?_;obtain ⟨M,N,h⟩:=bs h;refine A ?_;apply Xa h y<;>intro B h
      .obtain ⟨m,O,n,P,c,p,d,q,h⟩:=bs4 h;refine XC [(0,.ipt 1 [[cL e]] 0 0),(6,.msl 0 0 (length c)),(7,.msl 1 0 (length d)),(8,.msl 2 0 (length a)),(9,iA i),(10,.isl 3 (map zv j.Fields)),(11,iA l)] [sT c,some (3,map zv d),sT a] [5,6,12,13] [0,1,2,3,4,7,8,9,10,11] [(58,_),(57,_),(56,_),(55,_),(54,_),(51,_),(50,_),(49,_),(48,_),(47,_)] 4 (Xi (z:=by exact ⟨(λ_ _=>⟨_,y,y,bl 3 ti y ti y (by decide) (by decide) y y y<|⟨(.msl 3 0 1),[],[(52,_)],y,y,y,y,Xi (z:=by exact ⟨nv,(λ_ _=>⟨_,y,y,apM 4 ti y ti y y (by decide) ti y y y y (roX (f:=Xf) (z:=[m]) y y) (λ_=>y) y p<|⟨(.msl 4 0 (length c)),[],[(53,_)],y,y,y,y,Xi (z:=by exact ⟨nv,nv,(λ_ _=>⟨_,y,y,bl 5 ti y ti y (by decide) (by decide) y y y<|⟨(.msl 5 0 1),[],[(59,_)],y,y,y,y,Xi (z:=by exact ⟨nv,nv,nv,(λ_ _=>⟨_,y,y,apM 6 ti y ti y y (by decide) ti y y y y (roX (f:=zv) (z:=[n]) y y) (λ_=>y) y q<|⟨(.msl 6 0 (length d)),[14,15],[(7,_),(6,_),(60,_)],y,y,y,y,Xl (z:=Xb [4,6,2])⟩⟩),t⟩)⟩⟩),nw,t⟩)⟩⟩),(λ_ _=>⟨_,y,y,bl 4 ti y ti y (by decide) (by decide) y y y<|⟨(.msl 4 0 1),[],[(59,_)],y,y,y,y,Xi (z:=by exact ⟨nv,(λ_ _=>⟨_,y,y,apM 5 ti y ti y y (by decide) ti y y y y (roX (f:=Xf) (z:=[m]) y y) (λ_=>y) y p<|⟨(.msl 5 0 (length c)),[],[(53,_)],y,y,y,y,Xi (z:=by exact ⟨nv,nv,nv,(λ_ _=>⟨_,y,y,apM 6 ti y ti y y (by decide) ti y y y y (roX (f:=zv) (z:=[n]) y y) (λ_=>y) y q<|⟨(.msl 6 0 (length d)),[14,15],[(7,_),(6,_),(60,_)],y,y,y,y,Xl (z:=Xb [5,6,2])⟩⟩),t⟩)⟩⟩),nv,nw,t⟩)⟩⟩),nw,t⟩)⟩⟩),nw,(λ_ _=>⟨_,y,y,bl 3 ti y ti y (by decide) (by decide) y y y<|⟨(.msl 3 0 1),[],[(59,_)],y,y,y,y,Xi (z:=by exact ⟨(λ_ _=>⟨_,y,y,bl 4 ti y ti y (by decide) (by decide) y y y<|⟨(.msl 4 0 1),[],[(52,_)],y,y,y,y,Xi (z:=by exact ⟨nv,(λ_ _=>⟨_,y,y,apM 5 ti y ti y y (by decide) ti y y y y (roX (f:=Xf) (z:=[m]) y y) (λ_=>y) y p<|⟨(.msl 5 0 (length c)),[],[(53,_)],y,y,y,y,Xi (z:=by exact ⟨nv,nv,nv,(λ_ _=>⟨_,y,y,apM 6 ti y ti y y (by decide) ti y y y y (roX (f:=zv) (z:=[n]) y y) (λ_=>y) y q<|⟨(.msl 6 0 (length d)),[14,15],[(7,_),(6,_),(60,_)],y,y,y,y,Xl (z:=Xb [5,6,2])⟩⟩),t⟩)⟩⟩),nv,nw,t⟩)⟩⟩),nw,nv,nw,t⟩)⟩⟩),nw,t⟩)) ?_;exact ⟨⟨c,d⟩,h,zm [0,1,2]⟩
      .refine zc ?_;exact ⟨⟨E,F⟩,h,zm [0,1,2]⟩
     .rintro ⟨Q,R⟩ h;refine A ?_;cases h;exact ⟨_,y,zm [0,1,2]⟩
    .refine zp ?_;cases h;exact ⟨y,_,y,zm [0,1,2]⟩
   .rintro ⟨S,T⟩ rfl;refine zl<|A ?_;cases h;exact ⟨_,y,zm [0,1,2]⟩
   .rintro r' rfl env st hp;cases h;exact ⟨_,y,hp⟩
  .refine zp ?_;cases h;exact ⟨y,_,y,zm [0,1]⟩
 .rintro ⟨U,V⟩ rfl;refine zl<|A ?_;exact RT2
def zrW(a:T1):Option (T1):=
  some a
def Bp(c:T1×(List zg))(b:T1)(a:Int):zL (T1×Int) (T1) (T1):=
  cond (decide (a<((length c.2):Int))) ((idx c.1 a).bind λd=>(X2 d [46]).bind λe=>(idx c.2 a).bind λf=>(X2 e f.Name).bind λi=>(Xx 16 b [i]).bind λj=>some (.inl (j,(i64.wrap (a+1))))) (some (.inr (.inl b)))
def zko(a:List za)(c:T0):Option (T1):=
  (zoX a c).bind λd=>(zk (λz=>Bp d z.1 z.2) ([],0)).bind λo=>zB o (λb=>zrW b) some
instance (d:List za)(e:T0):PF prog 132 [.ipt 1 [[cL d]] 0 0,sA e] (zko d e) (λr=>(tL r)):=⟨λr h=>by
 refine zi func132 y kz y y<|A ?_;obtain ⟨a,n,h⟩:=bs h;refine A ?_;refine u<|sx [] (ztW d e n)<|A ?_;refine A ?_;refine ze<|A ?_;obtain ⟨o,ho,h⟩:=bs h;refine lpB ho (λz=>[(5,.msl 0 0 (length a.1)),(6,.msl 1 0 (length a.2)),(7,.msl 2 0 (length z.1)),(8,iA z.2)]) (λz=>[sT a.1,some (3,map zv a.2),sT z.1]) (λb=>[(7,.msl 0 0 (length b))]) (λb=>[sT b]) (pG f132 (λr=>tL r)) ⟨[0,1,.fresh 1],cv y (.msl y)<|cv y (.msl y)<|cv y (.nilown y)<|ce y y<|cn,y,⟨⟨_,y,XY (λ_=>y)⟩,⟨_,y,XY (λ_=>y)⟩,w,t⟩,y,k⟩ ?_ ?_
 .rintro ⟨p,i⟩ r h;refine ze<|A ?_;apply Xa h y<;>intro j h
  .refine zc<|ze<|zh ?_;obtain ⟨q,E,s,v,x,B,l,C,h⟩:=bs4 h;obtain ⟨c,m,h⟩:=bs h;refine XC [(5,.msl 0 0 (length a.1)),(6,.msl 1 0 (length a.2)),(7,.msl 2 0 (length c)),(8,iA i)] [sT a.1,some (3,map zv a.2),sT c] [12,13] [0,1,2,3,4,5,6,7,8,9,10,11] [(32,_),(31,_),(30,_),(29,_),(28,_),(27,_),(26,_),(25,_),(24,_),(23,_),(22,_),(21,_)] 2 (Xi (z:=by exact ⟨(λ_ _=>⟨_,y,y,bl 3 ti y ti y (by decide) (by decide) y y y<|⟨(.msl 3 0 1),[],[(33,_)],y,y,y,y,Xi (z:=by exact ⟨nv,(λ_ _=>⟨_,y,y,apM 4 ti y ti y y (by decide) ti y y y y (roX (f:=Xf) (z:=[l]) y y) (λ_=>y) y m<|⟨(.msl 4 0 (length c)),[14],[(7,_),(34,_)],y,y,y,y,Xl (z:=Xb [0,1,4])⟩⟩),t⟩)⟩⟩),nw,t⟩)) ?_;refine A ?_;cases h;exact ⟨_,y,zm [0,1,2]⟩
  .refine zp ?_;cases h;exact ⟨y,_,y,zm [2]⟩
 .rintro D rfl;refine zl<|A ?_
  exact RT0⟩
def zuM:Option (Int):=
  some (-1)
def zmA(b:T1)(c:T0)(a:Int):zL (Int) (Unit) (Int):=
  cond (decide (a<(length b:Int))) ((idx b a).bind λd=>cond (d == c) (some (.inr (.inr a))) (some (.inl (i64.wrap (a+1))))) (some (.inr (.inl ())))
def Hj(a:T1)(c:T0):Option (Int):=
  (zk (λz=>zmA a c z) 0).bind λo=>zB o (λb=>zuM) some
theorem zmB(a:T1)(c:T0){r:Int}(h:Hj a c=some r):Xo prog 54 [tL a,sA c] (iA r):=by
 refine zi func54 y kz y y<|A ?_;refine ze<|A ?_;obtain ⟨o,ho,h⟩:=bs h;refine lpB ho (λz=>[(0,tL a),(1,sA c),(5,iA z)]) (λz=>[]) (λb=>[]) (λb=>[]) (pG f54 iA) (Xb []) ?_ ?_
 .rintro f r h;refine ze<|A ?_;apply Xa h y<;>intro d h
  .refine zc<|ze<|zh ?_;obtain ⟨i,j,h⟩:=bs h;refine A ?_;apply Xa h y<;>intro e h
   .refine A ?_;refine zA ?_;cases h;exact ⟨_,y,_,y,Xc []⟩
   .refine zc<|A ?_;cases h;exact ⟨_,y,zm []⟩
  .refine zp ?_;cases h;exact ⟨y,_,y,zm []⟩
 .rintro ⟨⟩ rfl;refine zl<|A ?_;exact RT0
instance (a:T1)(b:T0):PF prog 54 [tL a,sA b] (Hj a b) iA:=⟨λ_=>zmB a b⟩
def zrn(a:T1):Option (T1):=
  some a
def zr5(a:Int)(b:T1):zL (T1×Int) (T1) (T1):=
  some (.inl (b,(i64.wrap (a-1))))
def ziu(a:Int)(b:T1):zL (T1×Int) (T1) (T1):=
  some (.inl (b,(i64.wrap (a+1))))
def Bo(b:za)(c:T1)(a:Int):zL (T1×Int) (T1) (T1):=
  cond (decide (a<(length b.Methods:Int))) ((idx b.Methods a).bind λd=>(cond (!d.Static) ((idx b.Methods a).bind λe=>(Hj c e.Name).bind λf=>some (decide (f<0))) (some false)).bind λi=>cond i ((idx b.Methods a).bind λj=>(Xx 16 c [j.Name]).bind λl=>ziu a l) (ziu a c)) (some (.inr (.inl c)))
def zgV(d:List za)(j:T1)(c:T1)(a:Int):zL (T1×Int) (T1) (T1):=
  cond (decide (0≤a)) ((idx j a).bind λe=>(zS d e).bind λf=>(idx d f).bind λi=>(zk (λz=>Bo i z.1 z.2) (c,0)).bind λo=>zB o (λb=>zr5 a b) (λr=>some (.inr (.inr r)))) (some (.inr (.inl c)))
def zkq(a:List za)(c:T0):Option (T1):=
  (zS a c).bind λd=>(cond (decide (d<0)) (some true) ((idx a d).bind λf=>some f.Interface)).bind λi=>cond i (some []) ((KU a c).bind λe=>(zk (λz=>zgV a e z.1 z.2) ([],(i64.wrap (((length e):Int)-1)))).bind λo=>zB o (λb=>zrn b) some)
instance (e:List za)(q:T0):PF prog 133 [.ipt 1 [[cL e]] 0 0,sA q] (zkq e q) (λr=>(tL r)):=⟨λr h=>by
 refine zi func133 y kz y y<|A ?_;obtain ⟨Y,Z,h⟩:=bs h;refine A ?_;refine ze ?_;obtain ⟨v5,q4,h⟩:=bs h;refine A ?_;apply Xa h y<;>intro C h
 .refine A ?_;exact RT0
 .refine zc<|A ?_;obtain ⟨d,K,h⟩:=bs h;refine A ?_;refine u<|sx [] (GL e q K)<|zu (env0:=[(0,.ipt 1 [[cL e]] 0 0),(6,nS),(28,.msl 0 0 (length d))]) (st0:=[sT d]) (zm [0])<|A ?_;refine ze<|A ?_;obtain ⟨o,ho,h⟩:=bs h;refine lpB ho (λz=>[(0,.ipt 1 [[cL e]] 0 0),(6,.msl 0 0 (length z.1)),(7,.msl 1 0 (length d)),(8,iA z.2)]) (λz=>[sT z.1,sT d]) (λb=>[(6,.msl 0 0 (length b))]) (λb=>[sT b]) (pG f133 (λr=>tL r)) ⟨[.fresh 1,0],ce y y<|cv y (.nilown y)<|cv y (.msl y)<|ce y y<|cn,y,⟨w,⟨_,y,XY (λ_=>y)⟩,t⟩,y,k⟩ ?_ ?_
  .rintro ⟨D,i⟩ r h;refine ze<|A ?_;apply Xa h y<;>intro s h
   .refine zc<|ze<|zh ?_;obtain ⟨L,M,N,O,l,P,h⟩:=bs3 h;refine rdA [(0,_),(6,_),(7,_),(8,_),(9,_)] [sT D,sT d] [] [0,1,2,3,4,5,6,7,8,9,10,11,12,13] [(9,_),(48,_),(47,_),(46,_),(45,_),(44,_),(43,_),(42,_),(41,_),(40,_),(39,_),(38,_),(37,_),(36,_)] 0 (Xl (z:=Xb [0,1])) ?_;refine A ?_;obtain ⟨o,ho,h⟩:=bs h;refine lpS ho (λz=>[(0,.ipt 1 [[cL e]] 0 0),(6,.msl 0 0 (length z.1)),(7,.msl 1 0 (length d)),(8,iA i),(9,.isl 10 (map zd l.Methods)),(10,iA z.2)]) (λz=>[sT z.1,sT d]) (λb=>[(0,.ipt 1 [[cL e]] 0 0),(6,.msl 0 0 (length b)),(7,.msl 1 0 (length d)),(8,iA i)]) (λb=>[sT b,sT d]) (pG f133 (λr=>tL r)) (Xb [0,1]) ?_ ?_ ?_
    .rintro ⟨m,n⟩ r h;refine ze<|A ?_;apply Xa h y<;>intro v h
     .refine zc ?_;refine Xz (X:=T1) (λz=>[(0,.ipt 1 [[cL e]] 0 0),(6,.msl 0 0 (length z)),(7,.msl 1 0 (length d)),(8,iA i),(9,.isl 10 (map zd l.Methods)),(10,iA n)]) (λz=>[sT z,sT d]) (λz=>ziu n z=some r) ?_ ?_
      .refine zh ?_;obtain ⟨Q,R,E,c,h⟩:=bs2 h;refine A ?_;refine Zi (x:=E) (j:=6) 8 y y y y y gpn (λa=>by replace c:=bT a c;obtain ⟨F,p,c⟩:=bs c;obtain ⟨S,G,c⟩:=bs c;obtain rfl:=sm c;exact g y a<|mv y<|g y a<|mv y<|g y a<|mv y<|g y a<|ixI ti y ti y y y p<|g y a<|fa ti y y y<|g y a<|ldI ti y (zQ p).2.2 y<|g y a<|pcs (zmB m F.Name G) y y (.cons (XM y (λ_=>y)) (.cons (si y) .nil)) XA<|g y a<|lss ti y y<|zw (eg [62,63,64,65,66,67,68,69] 8 y y y y)) (λhb=>(sm (bF hb c)).symm)<|zw ?_;apply Xa h y<;>intro B h
       .obtain ⟨H,T,I,J,h⟩:=bs2 h;refine A ?_;refine u<|apM 3 ti y ti y y (by decide) ti y y y y (roX (f:=Xf) (z:=[H.Name]) y y) (λ_=>y) y J<|A ?_;exact (⟨I,h,zm [3,1]⟩)
       .refine zc ?_;exact ⟨m,h,zm [0,1]⟩
      .rintro U h;refine A ?_;cases h;exact ⟨_,y,zm [0,1]⟩
     .refine zp ?_;cases h;exact ⟨y,_,y,zm [0,1]⟩
    .rintro V rfl;refine zl<|A ?_;cases h;exact ⟨_,y,zm [0,1]⟩
    .rintro r' rfl env st hp;cases h;exact ⟨_,y,hp⟩
   .refine zp ?_;cases h;exact ⟨y,_,y,zm [0]⟩
  .rintro W rfl;refine zl<|A ?_
   exact RT0⟩

end
end Go.Proofs.YthmnlfenkhmmhaaGreat
