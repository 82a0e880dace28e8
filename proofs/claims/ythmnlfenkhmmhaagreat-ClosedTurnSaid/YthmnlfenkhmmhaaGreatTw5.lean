/- ClosedTurn: for every input the law returns true, and each argument reads as it read before. No further condition. Part 5 of 8. -/
import Derived.Test.YthmnlfenkhmmhaaGreatTw4
namespace Go.Proofs.YthmnlfenkhmmhaaGreat
noncomputable section
open List (length map)
open IntKind (i64)
open Go.Proofs.Tryz
set_option linter.unusedSimpArgs false
set_option linter.unusedVariables false
set_option maxRecDepth 100000
set_option maxHeartbeats 4000000
set_option linter.unusedSectionVars false
variable [Flo]
def Bf(c:List za)(f:T0)(i:zb)(j:T1)(l:T1)(b:Bool)(m:Int)(n:T1)(o:T1):Option (Bool):=
  (Bk c f i j l b m).bind λa=>cond a.2 ((D9 c n a.1.Locals).bind λd=>cond d ((D9 c o a.1.Stack).bind λe=>some (b||(!e))) (some (b||(!false)))) (some (b||(!false)))
theorem zfR(a:List za)(b:T0)(c:zb)(d:T1)(e:T1)(f:Bool)(n:Int)(o:T1)(p:T1){r:Bool}(h:Bf a b c d e f n o p=some r):SC prog 208 [.mpt 0 0 0,iA n,tL o,tL p] (tR a b c d e f []) (.tup []) (tR a b c d e r []):=by
 refine ⟨⟨t,t⟩,zZ func208 y kz y ?_⟩;obtain ⟨i,s,h⟩:=bs h;refine A ?_;refine u<|sx [0] (zfB a b c d e f n s)<|zx (env0:=[(0,.mpt 0 0 0),(2,tL o),(3,tL p),(13,.tup [.agg (zA i.1),bA i.2])]) (st0:=(sR a b c d e f [])) (zl [0])<|A ?_
 rcases bb i.2 with j |j
 .replace h:=bT j h;obtain ⟨q,v,h⟩:=bs h
  rcases bb q with l |l
  .replace h:=bT l h;obtain ⟨m,x,h⟩:=bs h;refine XA [] (sR a b c d e (f||(!m)) []) [22] [0,1,2,3,4,5,6,7,8,9,10,11,12,13,14,15,16,17,18,19,20,21] [(37,_),(36,_),(35,_),(34,_),(33,_),(32,_),(31,_),(30,_),(29,_),(28,_),(27,_),(26,_),(25,_),(24,_),(23,_),(22,_),(21,_),(20,_),(19,_),(18,_),(17,_),(16,_)] 1 (Xj (z:=by exact ⟨(λ_ _=>⟨_,y,y,sc [0] (args:=[.mpt 0 0 0,bA m]) (zq a b c d e f m y) y y y y ⟨(.mpt y),(rnI y),t⟩ ⟨⟨_,y,(Un y)⟩,t⟩<|⟨(.tup []),[],[(38,_)],y,y,y,y,Xk (z:=Xd [0])⟩⟩),t⟩)) ?_;cases h;exact ⟨_,y,Xb [0]⟩
  .replace h:=bF l h;refine XA [] (sR a b c d e (f||(!false)) []) [22] [0,1,2,3,4,5,6,7,8,9,10,11,12,13,14,15,16,17,18,19,20,21] [(37,_),(36,_),(35,_),(34,_),(33,_),(32,_),(31,_),(30,_),(29,_),(28,_),(27,_),(26,_),(25,_),(24,_),(23,_),(22,_),(21,_),(20,_),(19,_),(18,_),(17,_),(16,_)] 1 (Xj (z:=by exact ⟨(λ_ _=>⟨_,y,y,sc [0] (args:=[.mpt 0 0 0,bA false]) (zq a b c d e f false y) y y y y ⟨(.mpt y),(rnI y),t⟩ ⟨⟨_,y,(Un y)⟩,t⟩<|⟨(.tup []),[],[(38,_)],y,y,y,y,Xk (z:=Xd [0])⟩⟩),t⟩)) ?_;cases h;exact ⟨_,y,Xb [0]⟩
 .replace h:=bF j h;refine XA [] (sR a b c d e (f||(!false)) []) [22] [21,20,19,18,17,16,15,14,13,12,11,10,9,8,7,6,5,4,3,2,1,0] [(37,bA false),(36,.lit undef),(35,.lit undef),(34,.lit undef),(33,.lit undef),(32,.lit undef),(31,.lit undef),(30,.lit undef),(29,.lit undef),(28,bA false),(27,bA false),(26,.lit undef),(25,.lit undef),(24,.lit undef),(23,.lit undef),(22,.lit undef),(21,.lit undef),(20,.lit undef),(19,.lit undef),(18,bA i.2),(17,bA i.2),(16,.mpt 0 0 0)] 1 (zHu ⟨(λ_ _=>⟨_,y,y,sc [0] (args:=[.mpt 0 0 0,bA false]) (zq a b c d e f false y) y y y y ⟨(.mpt y),(rnI y),t⟩ ⟨⟨_,y,(Un y)⟩,t⟩<|⟨(.tup []),[],[(38,.tup [])],y,y,kz,y,Hp (zl [0])⟩⟩),t⟩) ?_;cases h;exact ⟨_,y,Xb [0]⟩
def D7(a:GK):Option (T1×T1):=
  (Xx 16 ([]:T1) a.locals).bind λb=>(Xx 16 ([]:T1) a.stack).bind λc=>some (b,c)
theorem zix(c:GK){r:T1×T1}(h:D7 c=some r):SC prog 209 [.agg (zy2 c)] [] (.agg [.msl 0 0 (length r.1),.msl 1 0 (length r.2)]) [.many 1 (map Xe r.1),.many 1 (map Xe r.2)]:=by
 refine ⟨⟨Xw (sz:=1) (λ_=>y),Xw (sz:=1) (λ_=>y),t⟩,zZ func209 y kz y ?_⟩;unfold D7 at h;refine A ?_;obtain ⟨a,d,h⟩:=bs h;obtain ⟨b,e,h⟩:=bs h;refine rdA [(2,.mpt 0 0 0)] [some (2,[[.msl 1 0 (length a),.msl 2 0 (length b)]]),sT a,sT b] [2,5,7] [0,1,3,4] [(7,_),(6,_),(4,_),(3,_)] 3 (Xj (z:=by exact ⟨(λ_ _=>⟨_,y,y,apN (f:=Xe) 2 ti y ti y y (by decide) ti y y y roI (λ_=>y) y d<|⟨(.msl 2 0 (length a)),[],[(5,_)],y,y,y,y,Xj (z:=by exact ⟨nv,(λ_ _=>⟨_,y,y,apN (f:=Xe) 3 ti y ti y y (by decide) ti y y y roI (λ_=>y) y e<|⟨(.msl 3 0 (length b)),[6],[(9,_),(8,_)],y,y,y,y,Xj (z:=by exact ⟨nv,nv,(λ_ _=>⟨_,y,y,sto ti y y y<|⟨.any,[],[],y,y,y,t,Xk (z:=Xd [1,2,3])⟩⟩),t⟩)⟩⟩),nw,t⟩)⟩⟩),nw,nw,t⟩)) ?_;refine zy ?_;cases h;exact ⟨_,y,Ho [1,2]⟩
def zfS(c:List za)(f:T0)(i:zb)(j:T1)(l:T1)(b:Bool)(m:Int)(n:T1)(o:T1):Option (Bool):=
  (Bk c f i j l b m).bind λa=>cond a.2 ((D9 c n a.1.Locals).bind λd=>cond d ((D9 c o a.1.Stack).bind λe=>some (b||(!e))) (some (b||(!false)))) (some (b||(!false)))
theorem zmh(a:List za)(c:T0)(d:zb)(e:T1)(f:T1)(i:Bool)(q:Int)(s:T1)(j:T1){r:Bool}(h:zfS a c d e f i q s j=some r):SC prog 208 [.mpt 0 0 0,iA q,tL s,.msl 1 0 (length j)] (tR a c d e f i [.many 1 (map Xe j)]) (.tup []) (tR a c d e f r [.many 1 (map Xe j)]):=by
 refine ⟨⟨t,Xw (sz:=1) (λ_=>y),t⟩,zZ func208 y kz y ?_⟩;obtain ⟨l,v,h⟩:=bs h;refine A ?_;refine u<|sx [0] (zfB a c d e f i q v)<|zx (env0:=[(0,.mpt 0 0 0),(2,tL s),(3,.msl 1 0 (length j)),(13,.tup [.agg (zA l.1),bA l.2])]) (st0:=(sR a c d e f i [sT j])) (zl [0,1])<|A ?_
 rcases bb l.2 with n |n
 .replace h:=bT n h;obtain ⟨p,B,h⟩:=bs h
  rcases bb p with m |m
  .replace h:=bT m h;obtain ⟨o,x,h⟩:=bs h;refine XA [] (sR a c d e f (i||(!o)) [sT j]) [22] [0,1,2,3,4,5,6,7,8,9,10,11,12,13,14,15,16,17,18,19,20,21] [(37,_),(36,_),(35,_),(34,_),(33,_),(32,_),(31,_),(30,_),(29,_),(28,_),(27,_),(26,_),(25,_),(24,_),(23,_),(22,_),(21,_),(20,_),(19,_),(18,_),(17,_),(16,_)] 1 (Xj ⟨peC,peC,peC,peC,peC,peC,peC,peC,peC,peC,peC,peC,peC,peC,peC,peC,peC,peC,peC,peC,(by exact λ_=>pag (b:=p) y y y y m y (pcs (zkn a j l.1.Stack x) y y (.cons (si y) (.cons (X9 y (λ_=>y)) (.cons (si y) .nil))) XD<|w)),peC,t⟩ (by exact ⟨(λ_ _=>⟨_,y,y,sc [0] (args:=[.mpt 0 0 0,bA o]) (zq a c d e f i o y) y y y y ⟨(.mpt y),(rnI y),t⟩ ⟨⟨_,y,(Un y)⟩,t⟩<|⟨(.tup []),[],[(38,_)],y,y,y,y,Xk (z:=Xd [0,1])⟩⟩),t⟩)) ?_;cases h;exact ⟨_,y,Xb [0,1]⟩
  .replace h:=bF m h;refine XA [] (sR a c d e f (i||(!false)) [sT j]) [22] [0,1,2,3,4,5,6,7,8,9,10,11,12,13,14,15,16,17,18,19,20,21] [(37,_),(36,_),(35,_),(34,_),(33,_),(32,_),(31,_),(30,_),(29,_),(28,_),(27,_),(26,_),(25,_),(24,_),(23,_),(22,_),(21,_),(20,_),(19,_),(18,_),(17,_),(16,_)] 1 (Xj (z:=by exact ⟨(λ_ _=>⟨_,y,y,sc [0] (args:=[.mpt 0 0 0,bA false]) (zq a c d e f i false y) y y y y ⟨(.mpt y),(rnI y),t⟩ ⟨⟨_,y,(Un y)⟩,t⟩<|⟨(.tup []),[],[(38,_)],y,y,y,y,Xk (z:=Xd [0,1])⟩⟩),t⟩)) ?_;cases h;exact ⟨_,y,Xb [0,1]⟩
 .replace h:=bF n h;refine XA [] (sR a c d e f (i||(!false)) [sT j]) [22] [21,20,19,18,17,16,15,14,13,12,11,10,9,8,7,6,5,4,3,2,1,0] [(37,bA false),(36,.lit undef),(35,.lit undef),(34,.lit undef),(33,.lit undef),(32,.lit undef),(31,.lit undef),(30,.lit undef),(29,.lit undef),(28,bA false),(27,bA false),(26,.lit undef),(25,.lit undef),(24,.lit undef),(23,.lit undef),(22,.lit undef),(21,.lit undef),(20,.lit undef),(19,.lit undef),(18,bA l.2),(17,bA l.2),(16,.mpt 0 0 0)] 1 (zHu ⟨(λ_ _=>⟨_,y,y,sc [0] (args:=[.mpt 0 0 0,bA false]) (zq a c d e f i false y) y y y y ⟨(.mpt y),(rnI y),t⟩ ⟨⟨_,y,(Un y)⟩,t⟩<|⟨(.tup []),[],[(38,.tup [])],y,y,kz,y,Hp (zl [0,1])⟩⟩),t⟩) ?_;cases h;exact ⟨_,y,Xb [0,1]⟩
def znF(a:Bool):Option (Bool):=
  some a
def zfC(a:Int)(b:Bool):zL (Bool×Int) (Bool) (Bool):=
  some (.inl (b,(i64.wrap (a+1))))
def zdZ(f:List za)(m:T0)(n:zb)(i:T1)(o:T1)(j:Int)(b:Bool)(c:Int)(a:zT)(d:T0):zL (Bool×Int) (Bool) (Bool):=
  (zgD f d [84,104,114,111,119,110]).bind λe=>cond ((decide (a.From≤j))&&(decide (j<a.To))) ((zfS f m n i o (b||(!e)) a.At i [d]).bind λl=>zfC c l) (zfC c (b||(!e)))
def EX(e:List za)(f:T0)(d:zb)(i:T1)(j:T1)(l:Int)(c:Bool)(a:Int):zL (Bool×Int) (Bool) (Bool):=
  cond (decide (a<(length d.Traps:Int))) ((idx d.Traps a).bind λb=>cond (b.C == []) (zdZ e f d i j l c a b [84,104,114,111,119,110]) (zdZ e f d i j l c a b b.C)) (some (.inr (.inl c)))
def Wd(a:List za)(c:T0)(d:zb)(e:T1)(f:T1)(i:Bool)(j:Int):Option (Bool):=
  (zp (λz=>EX a c d e f j z.1 z.2) (i,0)).bind λo=>zH o (λb=>znF b) some
theorem zjp(a:List za)(d:T0)(e:zb)(c:T1)(f:T1)(x:Bool)(m:Int){r:Bool}(h:Wd a d e c f x m=some r):SC prog 210 [.mpt 0 0 0,iA m] (tR a d e c f x []) (.tup []) (tR a d e c f r []):=by
 refine ⟨⟨t,t⟩,zZ func210 y kz y ?_⟩;refine A ?_;obtain ⟨o,ho,h⟩:=bs h;refine lpB ho (λz=>[(0,.mpt 0 0 0),(1,iA m),(4,iA z.2)]) (λz=>(sR a d e c f z.1 [])) (λb=>[]) (λb=>(sR a d e c f b [])) (λr env st=>Ua prog f210 1 (.tup []) (sR a d e c f r []) env st) (Xd [0]) ?_ ?_
 .rintro ⟨i,j⟩ r h;refine ze<|A ?_;apply Xa h y<;>intro B h
  .refine zd ?_;refine Xz (X:=Bool) (λz=>[(0,.mpt 0 0 0),(1,iA m),(4,iA j)]) (λz=>(sR a d e c f z [])) (λz=>zfC j z=some r) ?_ ?_
   .refine zh ?_;obtain ⟨l,H,h⟩:=bs h;refine A ?_;refine A ?_;refine Xz (X:=T0) (λz=>[(0,.mpt 0 0 0),(1,iA m),(4,iA j),(5,.mpt 1 0 0),(6,sA z)]) (λz=>(sR a d e c f i [some (4,[(zY l)])])) (λz=>zdZ a d e c f m i j l z=some r) ?_ ?_
    .refine A ?_;apply Xa h y<;>intro s h
     .refine A ?_;exact (⟨[84,104,114,111,119,110],h,zl [0,1]⟩)
     .refine zd ?_;exact ⟨l.C,h,zl [0,1]⟩
    .rintro p h;obtain ⟨n,D,h⟩:=bs h;refine rg y<|u<|mv y<|u<|mv y<|u<|nc y y<|u<|fa ti y y y<|u<|ld ti y y<|u<|mv y<|u<|pc (zkq a p [84,104,114,111,119,110] D) y y y<|u<|sx [0] (zq a d e c f i n y)<|zx (env0:=[(0,.mpt 0 0 0),(1,iA m),(4,iA j),(5,.mpt 1 0 0),(6,sA p)]) (st0:=(sR a d e c f (i||(!n)) [some (4,[(zY l)])])) (zl [0,1])<|zo ?_;refine A ?_;apply Xa h y<;>intro v h
     .obtain ⟨q,E,h⟩:=bs h;refine XA [(0,_),(1,_),(4,_)] (sR a d e c f q []) [9,10] [0,1,2,3,4,5,6,7,8] [(55,_),(54,_),(53,_),(52,_),(51,_),(50,_),(49,_),(48,_),(47,_)] 2 (Xj (z:=by exact ⟨(λ_ _=>⟨_,y,y,bl 2 ti y ti y (by decide) (by decide) y y y<|⟨(.msl 2 0 1),[],[(56,_)],y,y,y,y,Xj (z:=by exact ⟨nv,(λ_ _=>⟨_,y,y,sx [0,2] (zmh a d e c f (i||(!n)) l.At c [p] E)<|⟨(.tup []),[],[(57,_)],y,y,y,y,Xk (z:=Xd [0])⟩⟩),t⟩)⟩⟩),nw,t⟩)) ?_;exact ⟨q,h,zl [0]⟩
     .refine zd ?_;exact ⟨(i||(!n)),h,zl [0]⟩
   .rintro F h;refine A ?_;cases h;exact ⟨_,y,zl [0]⟩
  .refine zs ?_;cases h;exact ⟨y,_,y,zl [0]⟩
 .rintro G rfl;refine zm ?_;cases h;exact ⟨_,y,Xb [0]⟩
def U8(e:List za)(f:T0)(i:zb)(j:T1)(a:T1)(b:Bool):Option (T0×T1×Bool):=
  cond ((length a:Int) == 0) (some ([78],a,true)) ((idx a (i64.wrap ((length a:Int)-1))).bind λc=>(XJ a 0 (i64.wrap ((length a:Int)-1))).bind λd=>some (c,d,b))
theorem GN(c:List za)(d:T0)(e:zb)(f:T1)(i:T1)(j:Bool){r:T0×T1×Bool}(h:U8 c d e f i j=some r):SC prog 345 [.mpt 0 0 0] (tR c d e f i j []) (sA r.1) (tR c d e f r.2.1 r.2.2 []):=by
 refine ⟨⟨t,t⟩,zZ func345 y kz y ?_⟩;refine A ?_;refine A ?_;refine ze<|A ?_;apply Xa h y<;>intro l h
 .refine A ?_;refine A ?_;exact RT1
 .refine zd ?_;obtain ⟨n,o,h⟩:=bs h;refine A ?_;obtain ⟨p,m,h⟩:=bs h;refine A ?_;refine u<|slI (a:=0) (b:=(i64.wrap ((length i:Int)-1))) ti y ti y y y (DA y m) m<|A ?_;refine A ?_;exact RT1
def zoh(a:T1)(b:Bool):Option (T1×Bool):=
  some (a,b)
def H7(e:List za)(j:T0)(l:zb)(m:T1)(n:T1)(c:T1)(d:Bool)(a:Int):zL (T1×Bool×Int) (T1×Bool) (T1×Bool):=
  cond (decide (0≤a)) ((idx n a).bind λf=>(U8 e j l m c d).bind λb=>(H3 e b.1 f).bind λi=>some (.inl (b.2.1,(b.2.2||(!i)),(i64.wrap (a-1))))) (some (.inr (.inl (c,d))))
def z6(c:List za)(d:T0)(e:zb)(f:T1)(i:T1)(j:Bool)(a:T1):Option (T1×Bool):=
  (zp (λz=>H7 c d e f a z.1 z.2.1 z.2.2) (i,j,(i64.wrap ((length a:Int)-1)))).bind λo=>zH o (λb=>zoh b.1 b.2) some
theorem z8(a:List za)(c:T0)(d:zb)(e:T1)(l:T1)(m:Bool)(j:T1){r:T1×Bool}(h:z6 a c d e l m j=some r):SC prog 292 [.mpt 0 0 0,tL j] (tR a c d e l m []) (.tup []) (tR a c d e r.1 r.2 []):=by
 refine ⟨⟨t,t⟩,zZ func292 y kz y ?_⟩;refine A ?_;obtain ⟨o,ho,h⟩:=bs h;refine lpB ho (λz=>[(0,.mpt 0 0 0),(1,tL j),(4,iA z.2.2)]) (λz=>(sR a c d e z.1 z.2.1 [])) (λb=>[]) (λb=>(sR a c d e b.1 b.2 [])) (λr env st=>Ua prog f292 1 (.tup []) (sR a c d e r.1 r.2 []) env st) (Xd [0]) ?_ ?_
 .rintro ⟨n,p,v⟩ r h;refine ze<|A ?_;apply Xa h y<;>intro q h
  .refine zd<|ze<|zh ?_;obtain ⟨x,D,f,s,i,E,h⟩:=bs3 h;refine XA [(0,_),(1,_),(4,_)] (sR a c d e f.2.1 (f.2.2||(!i)) []) [6,12] [0,1,2,3,4,5,7,8,9,10] [(22,_),(21,_),(20,_),(19,_),(17,_),(16,_),(15,_),(14,_),(13,_),(12,_)] 2 (Xj (z:=by exact ⟨(λ_ _=>⟨_,y,y,sx [0] (GN a c d e n p s)<|⟨(sA f.1),[11],[(23,_),(18,_)],y,y,y,y,Xj (z:=by exact ⟨nv,(λ_ _=>⟨_,y,y,sx [0] (zq a c d e f.2.1 f.2.2 i y)<|⟨(.tup []),[],[(24,_)],y,y,y,y,Xk (z:=Xd [0])⟩⟩),t⟩)⟩⟩),nw,t⟩)) ?_;refine A ?_;cases h;exact ⟨_,y,zl [0]⟩
  .refine zs ?_;cases h;exact ⟨y,_,y,zl [0]⟩
 .rintro ⟨B,C⟩ rfl;refine zm ?_;cases h;exact ⟨_,y,Xb [0]⟩
def zW(i:List za)(j:T0)(b:zb)(l:T1)(c:T1)(d:Bool)(e:T0):Option (T1×Bool):=
  (Xx 16 ([]:T1) c).bind λf=>(Xx 16 f [e]).bind λa=>some (a,(d||(!(decide ((length a:Int)≤b.Stack)))))
theorem zU(b:List za)(c:T0)(a:zb)(d:T1)(l:T1)(e:Bool)(j:T0){r:T1×Bool}(h:zW b c a d l e j=some r):SC prog 293 [.mpt 0 0 0,sA j] (tR b c a d l e []) (.tup []) (tR b c a d r.1 r.2 []):=by
 refine ⟨⟨t,t⟩,zZ func293 y kz y ?_⟩;obtain ⟨o,m,i,n,h⟩:=bs2 h;refine A ?_;refine u<|apN (f:=Xe) 1 ti y ti y y (by decide) ti y y y roI (λ_=>y) y m<|A ?_;refine u<|apM 3 ti y ti y y (by decide) ti y y y y (roX (f:=Xe) (z:=[j]) y y) (λ_=>y) y n<|A ?_;refine Wz (env0:=[(0,.mpt 0 0 0)]) (st0:=(sR b c a d i e [])) (zl [0]) ?_;refine XA [] (sR b c a d i (e||(!(decide ((length i:Int)≤a.Stack)))) []) [13] [0,1,2,3,4,5,6,7,8,9,10,11,12] [(29,_),(28,_),(27,_),(26,_),(25,_),(24,_),(23,_),(22,_),(21,_),(20,_),(19,_),(18,_),(17,_)] 1 (Xj (z:=by exact ⟨(λ_ _=>⟨_,y,y,sx [0] (zq b c a d i e (decide ((length i:Int)≤a.Stack)) y)<|⟨(.tup []),[],[(30,_)],y,y,y,y,Xk (z:=Xd [0])⟩⟩),t⟩)) ?_;cases h;exact ⟨_,y,Xb [0]⟩
def Hh(b:List za)(c:T0)(d:zb)(e:T1)(f:T1)(i:Bool):Option (T0×T1×Bool):=
  (U8 b c d e f i).bind λa=>some (a.1,a.2.1,(a.2.2||(!(!(a.1 == [73])))))
theorem Bg(b:List za)(c:T0)(d:zb)(e:T1)(f:T1)(i:Bool){r:T0×T1×Bool}(h:Hh b c d e f i=some r):SC prog 346 [.mpt 0 0 0] (tR b c d e f i []) (sA r.1) (tR b c d e r.2.1 r.2.2 []):=by
 refine ⟨⟨t,t⟩,zZ func346 y kz y ?_⟩;refine A ?_;obtain ⟨a,j,h⟩:=bs h;refine rg y<|u<|mv y<|u<|sx [0] (GN b c d e f i j)<|zx (env0:=[(0,.mpt 0 0 0),(5,sA a.1)]) (st0:=(sR b c d e a.2.1 a.2.2 [])) (zl [0])<|A ?_;refine A ?_;refine u<|sx [0] (zq b c d e a.2.1 a.2.2 (!(a.1 == [73])) y)<|zx (env0:=[(3,sA a.1)]) (st0:=(sR b c d e a.2.1 (a.2.2||(!(!(a.1 == [73])))) [])) (zl [0])<|zo ?_;refine A ?_;exact RT1
def Wa(e:List za)(f:T0)(i:zb)(b:T1)(j:zr)(a:T1)(c:Bool):Option (T1×Bool):=
  (Bf e f i b a c j.A b a).bind λd=>some (a,d)
def Be(a:List za)(b:T0)(c:zb)(d:T1)(f:T1)(i:Bool)(e:zr):Option (T1×Bool):=
  cond (decide (e.Op≤26)) ((z6 a b c d f i ([[73]])).bind λn=>Wa a b c d e n.1 n.2) (cond (decide (e.Op≤32)) ((z6 a b c d f i ([[73],[73]])).bind λo=>Wa a b c d e o.1 o.2) (cond (decide (e.Op≤34)) ((Hh a b c d f i).bind λj=>Wa a b c d e j.2.1 j.2.2) ((Hh a b c d f i).bind λl=>(Hh a b c d l.2.1 l.2.2).bind λm=>Wa a b c d e m.2.1 m.2.2)))
theorem zoi(b:List za)(c:T0)(d:zb)(a:T1)(f:T1)(i:Bool)(e:zr){r:T1×Bool}(h:Be b c d a f i e=some r):SC prog 294 [.mpt 0 0 0,.agg (zn e)] (tR b c d a f i []) (.tup []) (tR b c d a r.1 r.2 []):=by
 refine ⟨⟨t,t⟩,zZ func294 y kz y ?_⟩;refine A ?_;refine Xz (X:=T1×Bool) (λz=>[(0,.mpt 0 0 0),(3,.mpt 1 0 0)]) (λz=>(sR b c d a z.1 z.2 [some (4,[(zn e)])])) (λz=>Wa b c d a e z.1 z.2=some r) ?_ ?_
 .refine zh<|A ?_;apply Xa h y<;>intro q h
  .obtain ⟨o,C,h⟩:=bs h;refine A ?_;exact zx (env0:=[(0,.mpt 0 0 0),(3,.mpt 1 0 0),(12,.mpt 0 0 0),(13,tL ([[73]]))]) (st0:=(sR b c d a f i [some (4,[(zn e)])])) (zl [0,1])<|u<|sx [0] (z8 b c d a f i ([[73]]) C)<|zx (env0:=[(0,.mpt 0 0 0),(3,.mpt 1 0 0)]) (st0:=(sR b c d a o.1 o.2 [some (4,[(zn e)])])) (zl [0,1])<|zo (⟨⟨o.1,o.2⟩,h,zl [0,1]⟩)
  .refine A ?_;apply Xa h y<;>intro s h
   .obtain ⟨p,D,h⟩:=bs h;refine A ?_;exact zx (env0:=[(0,.mpt 0 0 0),(3,.mpt 1 0 0),(19,.mpt 0 0 0),(20,tL ([[73],[73]]))]) (st0:=(sR b c d a f i [some (4,[(zn e)])])) (zl [0,1])<|u<|sx [0] (z8 b c d a f i ([[73],[73]]) D)<|zx (env0:=[(0,.mpt 0 0 0),(3,.mpt 1 0 0)]) (st0:=(sR b c d a p.1 p.2 [some (4,[(zn e)])])) (zl [0,1])<|zo (⟨⟨p.1,p.2⟩,h,zl [0,1]⟩)
   .refine A ?_;apply Xa h y<;>intro v h
    .obtain ⟨j,E,h⟩:=bs h;exact rl y<|u<|mv y<|u<|sx [0] (Bg b c d a f i E)<|zx (env0:=[(0,.mpt 0 0 0),(3,.mpt 1 0 0)]) (st0:=(sR b c d a j.2.1 j.2.2 [some (4,[(zn e)])])) (zl [0,1])<|zo (⟨⟨j.2.1,j.2.2⟩,h,zl [0,1]⟩)
    .obtain ⟨l,F,h⟩:=bs h;refine rg y<|u<|mv y<|u<|sx [0] (Bg b c d a f i F)<|zx (env0:=[(0,.mpt 0 0 0),(3,.mpt 1 0 0)]) (st0:=(sR b c d a l.2.1 l.2.2 [some (4,[(zn e)])])) (zl [0,1])<|zo ?_;obtain ⟨m,G,h⟩:=bs h;exact rl y<|u<|mv y<|u<|sx [0] (Bg b c d a l.2.1 l.2.2 G)<|zx (env0:=[(0,.mpt 0 0 0),(3,.mpt 1 0 0)]) (st0:=(sR b c d a m.2.1 m.2.2 [some (4,[(zn e)])])) (zl [0,1])<|zo (⟨⟨m.2.1,m.2.2⟩,h,zl [0,1]⟩)
 .rintro ⟨n,x⟩ h;obtain ⟨B,H,h⟩:=bs h;refine XA [] (sR b c d a n B []) [13] [0,1,2,3,4,5,6,7,8,9,10,11,12] [(40,_),(39,_),(38,_),(37,_),(36,_),(35,_),(34,_),(33,_),(32,_),(31,_),(30,_),(29,_),(28,_)] 1 (Xj (z:=by exact ⟨(λ_ _=>⟨_,y,y,sx [0] (zfR b c d a n x e.A a n H)<|⟨(.tup []),[],[(41,_)],y,y,y,y,Xk (z:=Xd [0])⟩⟩),t⟩)) ?_;cases h;exact ⟨_,y,Xb [0]⟩
def zpM:Option (T0×zj×Bool):=
  some ([],(zj.mk [] [] false),false)
def Es(e:List za)(m:T0)(d:T1)(a:Int):zL (Int) (Unit) (T0×zj×Bool):=
  cond (decide (a<((length d):Int))) ((idx d a).bind λf=>(zX e f).bind λi=>(idx e i).bind λb=>(IP b m).bind λc=>cond (decide (0≤c)) ((idx d a).bind λj=>(idx b.Fields c).bind λl=>some (.inr (.inr (j,l,true)))) (some (.inl (i64.wrap (a+1))))) (some (.inr (.inl ())))
def zg9(a:List za)(c:T0)(d:T0):Option (T0×zj×Bool):=
  (GO a c).bind λe=>(zp (λz=>Es a d e z) 0).bind λo=>zH o (λb=>zpM) some
instance (a:List za)(e:T0)(d:T0):PF prog 229 [.ipt 1 [[cL a]] 0 0,sA e,sA d] (zg9 a e d) (λr=>(.tup [sA r.1,.agg (zv r.2.1),bA r.2.2])):=⟨λr h=>by
 refine zi func229 y kz y y<|A ?_;obtain ⟨c,m,h⟩:=bs h;refine A ?_;refine u<|sx [] (H6 a e m)<|zx (env0:=[(0,.ipt 1 [[cL a]] 0 0),(2,sA d),(7,.mpt 0 0 0),(15,.msl 1 0 (length c))]) (st0:=[some (3,[[sA [],sA [],bA false]]),sT c]) (zl [0,1])<|A ?_;refine ze<|A ?_;obtain ⟨o,ho,h⟩:=bs h;refine lpB ho (λz=>[(0,.ipt 1 [[cL a]] 0 0),(2,sA d),(7,.mpt 0 0 0),(9,.msl 1 0 (length c)),(10,iA z)]) (λz=>[some (3,[[sA [],sA [],bA false]]),sT c]) (λb=>[(7,.mpt 0 0 0)]) (λb=>[some (3,[[sA [],sA [],bA false]])]) (pG f229 (λr=>.tup [sA r.1,.agg (zv r.2.1),bA r.2.2])) (Xd [0,1]) ?_ ?_
 .rintro n r h;refine ze<|A ?_;apply Xa h y<;>intro f h
  .refine zd<|ze<|zh ?_;obtain ⟨p,q,s,v,j,x,h⟩:=bs3 h;refine rdA [(0,_),(2,_),(7,_),(9,_),(10,_),(11,_)] [some (3,[[sA [],sA [],bA false]]),sT c,some (6,[(zf j)])] [12,13] [0,1,2,3,4,5,6,7,8,9,10,11] [(33,_),(32,_),(31,_),(30,_),(29,_),(28,_),(27,_),(26,_),(25,_),(24,_),(23,_),(22,_)] 2 (Xj (z:=by exact ⟨(λ_ _=>⟨_,y,y,al 2 ti y<|⟨(.mpt 2 0 0),[],[(11,_)],y,y,y,y,Xj (z:=by exact ⟨nv,(λ_ _=>⟨_,y,y,sto ti y y y<|⟨.any,[],[],y,y,y,t,Xk (z:=Xd [0,1,2])⟩⟩),t⟩)⟩⟩),nw,t⟩)) ?_;obtain ⟨B,C,h⟩:=bs h;refine A ?_;refine A ?_;apply Xa h y<;>intro i h
   .obtain ⟨D,E,l,F,h⟩:=bs2 h;refine rdA [(6,_),(7,_),(8,_)] [some (3,[(zv l)])] [10] [0,1,2,3,4,5,6,7,8,9] [(6,_),(47,_),(46,_),(45,_),(44,_),(43,_),(42,_),(41,_),(40,_),(39,_)] 1 (Xj (z:=by exact ⟨(λ_ _=>⟨_,y,y,sto ti y y y<|⟨.any,[11],[(8,_)],y,y,y,t,Xk (z:=Xd [0])⟩⟩),t⟩)) ?_;refine zy ?_;cases h;exact ⟨_,y,_,y,Xb []⟩
   .refine zd<|A ?_;cases h;exact ⟨_,y,zl [0,1]⟩
  .refine zs ?_;cases h;exact ⟨y,_,y,zl [0]⟩
 .rintro ⟨⟩ rfl;refine zm<|A ?_
  exact RT0⟩
def Bp(f:List za)(i:T0)(j:zb)(l:T1)(d:zr)(e:T0×zj×Bool)(a:T1)(b:Bool):Option (T1×Bool):=
  cond ((d.Op == 38)||(d.Op == 40)) ((zW f i j l a b e.2.1.Type_).bind λc=>some (c.1,c.2)) (some (a,b))
def H4(f:List za)(i:T0)(j:zb)(l:T1)(a:zr)(b:T0×zj×Bool)(c:T1)(d:Bool):Option (T1×Bool):=
  cond ((a.Op == 38)||(a.Op == 39)) ((z6 f i j l c d [a.C]).bind λe=>Bp f i j l a b e.1 e.2) (Bp f i j l a b c d)
def Bl(c:List za)(f:T0)(i:zb)(j:T1)(d:T1)(e:Bool)(a:zr):Option (T1×Bool):=
  (zX c a.C).bind λn=>cond (decide (n<0)) (some (d,true)) (cond (a.Op == 37) ((idx c n).bind λo=>(zW c f i j d (e||(!(!o.Interface))) a.C).bind λl=>some (l.1,l.2)) ((zg9 c a.C a.M).bind λb=>cond (e||(!(b.2.2&&(b.2.1.Static == ((a.Op == 40)||(a.Op == 41)))))) (some (d,(e||(!(b.2.2&&(b.2.1.Static == ((a.Op == 40)||(a.Op == 41)))))))) (cond ((a.Op == 39)||(a.Op == 41)) ((z6 c f i j d (e||(!(b.2.2&&(b.2.1.Static == ((a.Op == 40)||(a.Op == 41)))))) [b.2.1.Type_]).bind λm=>H4 c f i j a b m.1 m.2) (H4 c f i j a b d (e||(!(b.2.2&&(b.2.1.Static == ((a.Op == 40)||(a.Op == 41))))))))))
theorem znC(c:List za)(d:T0)(e:zb)(f:T1)(i:T1)(j:Bool)(b:zr){r:T1×Bool}(h:Bl c d e f i j b=some r):SC prog 295 [.mpt 0 0 0,.agg (zn b)] (tR c d e f i j []) (.tup []) (tR c d e f r.1 r.2 []):=by
 refine ⟨⟨t,t⟩,zZ func295 y kz y ?_⟩;refine A ?_;obtain ⟨M,N,h⟩:=bs h;refine rdA [(0,_),(3,_),(4,_)] (sR c d e f i j [some (4,[(zn b)])]) [] [0,1,2,3,4,5,6,7] [(4,_),(14,_),(13,_),(12,_),(11,_),(10,_),(9,_),(8,_)] 0 (Xk (z:=Xd [0,1])) ?_;refine ze<|A ?_;apply Xa h y<;>intro D h
 .refine A ?_;exact RT1
 .refine zd<|ze<|A ?_;apply Xa h y<;>intro E h
  .obtain ⟨s,O,h⟩:=bs h;refine A ?_;refine u<|sx [0] (zq c d e f i j (!s.Interface) y)<|zx (env0:=[(0,.mpt 0 0 0),(3,.mpt 1 0 0)]) (st0:=(sR c d e f i (j||(!(!s.Interface))) [some (4,[(zn b)])])) (zl [0,1])<|zo ?_;obtain ⟨p,L,h⟩:=bs h;refine A ?_;refine u<|sx [0] (zU c d e f i (j||(!(!s.Interface))) b.C L)<|zx (env0:=[]) (st0:=(sR c d e f p.1 p.2 [])) (zl [0])<|zo ?_;exact RT1
  .refine zd ?_;obtain ⟨a,P,h⟩:=bs h;refine rdA [(0,_),(3,_),(6,_),(7,_)] (sR c d e f i j [some (4,[(zn b)]),some (3,[(zv a.2.1)])]) [13,15] [0,1,2,3,4,5,6,7,8,9,10,11,12] [(53,_),(52,_),(51,_),(41,_),(50,_),(49,_),(48,_),(47,_),(46,_),(45,_),(44,_),(43,_),(42,_)] 2 (Xj (z:=by exact ⟨(λ_ _=>⟨_,y,y,al 2 ti y<|⟨(.mpt 2 0 0),[14],[(5,_),(6,_)],y,y,y,y,Xj (z:=by exact ⟨nv,(λ_ _=>⟨_,y,y,sto ti y y y<|⟨.any,[16],[(7,_)],y,y,y,t,Xk (z:=Xd [0,1,2])⟩⟩),t⟩)⟩⟩),nw,t⟩)) ?_;refine A ?_;refine u<|sx [0] (zq c d e f i j (a.2.2&&(a.2.1.Static == ((b.Op == 40)||(b.Op == 41)))) y)<|zx (env0:=[(0,.mpt 0 0 0),(3,.mpt 1 0 0),(6,.mpt 2 0 0)]) (st0:=(sR c d e f i (j||(!(a.2.2&&(a.2.1.Static == ((b.Op == 40)||(b.Op == 41)))))) [some (4,[(zn b)]),some (3,[(zv a.2.1)])])) (zl [0,1,2])<|zo ?_;refine ze<|A ?_;apply Xa h y<;>intro F h
   .exact RT1
   .refine zd ?_;refine Xz (X:=T1×Bool) (λz=>[(0,.mpt 0 0 0),(3,.mpt 1 0 0),(6,.mpt 2 0 0)]) (λz=>(sR c d e f z.1 z.2 [some (4,[(zn b)]),some (3,[(zv a.2.1)])])) (λz=>H4 c d e f b a z.1 z.2=some r) ?_ ?_
    .refine A ?_;apply Xa h y<;>intro v h
     .obtain ⟨l,G,h⟩:=bs h;refine A ?_;exact zx (env0:=[(0,.mpt 0 0 0),(3,.mpt 1 0 0),(6,.mpt 2 0 0),(82,.mpt 0 0 0),(85,.isl 1 (map Xe [a.2.1.Type_]))]) (st0:=(sR c d e f i (j||(!(a.2.2&&(a.2.1.Static == ((b.Op == 40)||(b.Op == 41)))))) [some (4,[(zn b)]),some (3,[(zv a.2.1)])])) (zl [0,1,2])<|u<|sx [0] (z8 c d e f i (j||(!(a.2.2&&(a.2.1.Static == ((b.Op == 40)||(b.Op == 41)))))) [a.2.1.Type_] G)<|zx (env0:=[(0,.mpt 0 0 0),(3,.mpt 1 0 0),(6,.mpt 2 0 0)]) (st0:=(sR c d e f l.1 l.2 [some (4,[(zn b)]),some (3,[(zv a.2.1)])])) (zl [0,1,2])<|zo (⟨⟨l.1,l.2⟩,h,zl [0,1,2]⟩)
     .refine zd ?_;exact ⟨⟨i,(j||(!(a.2.2&&(a.2.1.Static == ((b.Op == 40)||(b.Op == 41))))))⟩,h,zl [0,1,2]⟩
    .rintro ⟨n,o⟩ h;refine Xz (X:=T1×Bool) (λz=>[(0,.mpt 0 0 0),(3,.mpt 1 0 0),(6,.mpt 2 0 0)]) (λz=>(sR c d e f z.1 z.2 [some (4,[(zn b)]),some (3,[(zv a.2.1)])])) (λz=>Bp c d e f b a z.1 z.2=some r) ?_ ?_
     .refine A ?_;apply Xa h y<;>intro x h
      .obtain ⟨m,H,h⟩:=bs h;refine A ?_;exact zx (env0:=[(0,.mpt 0 0 0),(3,.mpt 1 0 0),(6,.mpt 2 0 0),(95,.mpt 0 0 0),(98,.isl 1 (map Xe [b.C]))]) (st0:=(sR c d e f n o [some (4,[(zn b)]),some (3,[(zv a.2.1)])])) (zl [0,1,2])<|u<|sx [0] (z8 c d e f n o [b.C] H)<|zx (env0:=[(0,.mpt 0 0 0),(3,.mpt 1 0 0),(6,.mpt 2 0 0)]) (st0:=(sR c d e f m.1 m.2 [some (4,[(zn b)]),some (3,[(zv a.2.1)])])) (zl [0,1,2])<|zo (⟨⟨m.1,m.2⟩,h,zl [0,1,2]⟩)
      .refine zd ?_;exact ⟨⟨n,o⟩,h,zl [0,1,2]⟩
     .rintro ⟨I,J⟩ h;refine A ?_;apply Xa h y<;>intro B h
      .obtain ⟨q,K,h⟩:=bs h;refine A ?_;refine u<|sx [0] (zU c d e f I J a.2.1.Type_ K)<|zx (env0:=[]) (st0:=(sR c d e f q.1 q.2 [])) (zl [0])<|zo ?_;cases h;exact ⟨_,y,Xb [0]⟩
      .refine zd ?_;cases h;exact ⟨_,y,Xb [0]⟩
def zqm:Option (T0×zb×Bool):=
  some ([],(zb.mk [] [] [] false false 0 0 [] [] []),false)
def Ew(e:List za)(m:T0)(d:T1)(a:Int):zL (Int) (Unit) (T0×zb×Bool):=
  cond (decide (a<((length d):Int))) ((idx d a).bind λf=>(zX e f).bind λi=>(idx e i).bind λb=>(Gj b m).bind λc=>cond (decide (0≤c)) ((idx d a).bind λj=>(idx b.Methods c).bind λl=>some (.inr (.inr (j,l,true)))) (some (.inl (i64.wrap (a+1))))) (some (.inr (.inl ())))
def zhE(a:List za)(c:T0)(e:T0):Option (T0×zb×Bool):=
  (zX a c).bind λd=>(cond (decide (d<0)) (some true) ((idx a d).bind λf=>some (!f.Interface))).bind λi=>cond i (some ([],(zb.mk [] [] [] false false 0 0 [] [] []),false)) ((O0 a c).bind λj=>(Xx 16 [c] j).bind λl=>(zp (λz=>Ew a e l z) 0).bind λo=>zH o (λb=>zqm) some)
instance (a:List za)(c:T0)(d:T0):PF prog 231 [.ipt 1 [[cL a]] 0 0,sA c,sA d] (zhE a c d) (λr=>(.tup [sA r.1,.agg (zc r.2.1),bA r.2.2])):=⟨λr h=>by
 refine zi func231 y kz y y<|A ?_;obtain ⟨K,L,h⟩:=bs h;refine A ?_;refine ze ?_;obtain ⟨M,N,h⟩:=bs h;refine A ?_;apply Xa h y<;>intro m h
 .refine A ?_;exact RT0
 .refine zd ?_;obtain ⟨O,q,e,s,h⟩:=bs2 h;refine A ?_;refine u<|sx [] (zit a c q)<|u<|apM (l:=[c]) (f:=Xe) 3 ti y ti y y (by decide) ti y y y y (roM y) (λ_=>y) y s<|A ?_;refine ze<|A ?_;obtain ⟨o,ho,h⟩:=bs h;refine lpB ho (λz=>[(0,.ipt 1 [[cL a]] 0 0),(2,sA d),(7,.mpt 0 0 0),(10,.msl 1 0 (length e)),(11,iA z)]) (λz=>[some (10,[[sA [],nS,sA [],bA false,bA false,iA 0,iA 0,nS,nS,nS]]),sT e]) (λb=>[(7,.mpt 0 0 0)]) (λb=>[some (10,[[sA [],nS,sA [],bA false,bA false,iA 0,iA 0,nS,nS,nS]])]) (pG f231 (λr=>.tup [sA r.1,.agg (zc r.2.1),bA r.2.2])) (Xd [0,3]) ?_ ?_
  .rintro v r h;refine ze<|A ?_;apply Xa h y<;>intro i h
   .refine zd<|ze<|zh ?_;obtain ⟨x,B,C,D,n,E,h⟩:=bs3 h;refine rdA [(0,_),(2,_),(7,_),(10,_),(11,_),(12,_)] [some (10,[[sA [],nS,sA [],bA false,bA false,iA 0,iA 0,nS,nS,nS]]),sT e,some (6,[(zf n)])] [12,13] [0,1,2,3,4,5,6,7,8,9,10,11] [(54,_),(53,_),(52,_),(51,_),(50,_),(49,_),(48,_),(47,_),(46,_),(45,_),(44,_),(43,_)] 2 (Xj (z:=by exact ⟨(λ_ _=>⟨_,y,y,al 2 ti y<|⟨(.mpt 2 0 0),[],[(12,_)],y,y,y,y,Xj (z:=by exact ⟨nv,(λ_ _=>⟨_,y,y,sto ti y y y<|⟨.any,[],[],y,y,y,t,Xk (z:=Xd [0,1,2])⟩⟩),t⟩)⟩⟩),nw,t⟩)) ?_;obtain ⟨F,G,h⟩:=bs h;refine A ?_;refine A ?_;apply Xa h y<;>intro j h
    .obtain ⟨H,I,p,J,h⟩:=bs2 h;refine rdA [(6,_),(7,_),(8,_)] [some (10,[(zc p)])] [10] [0,1,2,3,4,5,6,7,8,9] [(6,_),(68,_),(67,_),(66,_),(65,_),(64,_),(63,_),(62,_),(61,_),(60,_)] 1 (Xj (z:=by exact ⟨(λ_ _=>⟨_,y,y,sto ti y y y<|⟨.any,[11],[(8,_)],y,y,y,t,Xk (z:=Xd [0])⟩⟩),t⟩)) ?_;refine zy ?_;cases h;exact ⟨_,y,_,y,Xb []⟩
    .refine zd<|A ?_;cases h;exact ⟨_,y,zl [0,1]⟩
   .refine zs ?_;cases h;exact ⟨y,_,y,zl [0]⟩
  .rintro ⟨⟩ rfl;refine zm<|A ?_
   exact RT0⟩
def zo3:Option (T0×zb×Bool):=
  some ([],(zb.mk [] [] [] false false 0 0 [] [] []),false)
def EE(e:List za)(f:T0)(d:T1)(a:Int):zL (Int) (Unit) (T0×zb×Bool):=
  cond (decide (a<((length d):Int))) ((idx d a).bind λi=>(zX e i).bind λj=>(idx e j).bind λb=>(Gj b f).bind λc=>cond ((decide (0≤c))&&(!(f == [36,105,110,105,116]))) ((idx d a).bind λl=>(idx b.Methods c).bind λm=>some (.inr (.inr (l,m,true)))) (some (.inl (i64.wrap (a+1))))) (some (.inr (.inl ())))
def O4(a:List za)(c:T0)(d:T0):Option (T0×zb×Bool):=
  (GO a c).bind λe=>(zp (λz=>EE a d e z) 0).bind λo=>zH o (λb=>zo3) some
instance (a:List za)(e:T0)(d:T0):PF prog 125 [.ipt 1 [[cL a]] 0 0,sA e,sA d] (O4 a e d) (λr=>(.tup [sA r.1,.agg (zc r.2.1),bA r.2.2])):=⟨λr h=>by
 refine zi func125 y kz y y<|A ?_;obtain ⟨c,m,h⟩:=bs h;refine A ?_;refine u<|sx [] (H6 a e m)<|zx (env0:=[(0,.ipt 1 [[cL a]] 0 0),(2,sA d),(7,.mpt 0 0 0),(15,.msl 1 0 (length c))]) (st0:=[some (10,[[sA [],nS,sA [],bA false,bA false,iA 0,iA 0,nS,nS,nS]]),sT c]) (zl [0,1])<|A ?_;refine ze<|A ?_;obtain ⟨o,ho,h⟩:=bs h;refine lpB ho (λz=>[(0,.ipt 1 [[cL a]] 0 0),(2,sA d),(7,.mpt 0 0 0),(9,.msl 1 0 (length c)),(10,iA z)]) (λz=>[some (10,[[sA [],nS,sA [],bA false,bA false,iA 0,iA 0,nS,nS,nS]]),sT c]) (λb=>[(7,.mpt 0 0 0)]) (λb=>[some (10,[[sA [],nS,sA [],bA false,bA false,iA 0,iA 0,nS,nS,nS]])]) (pG f125 (λr=>.tup [sA r.1,.agg (zc r.2.1),bA r.2.2])) (Xd [0,1]) ?_ ?_
 .rintro n r h;refine ze<|A ?_;apply Xa h y<;>intro f h
  .refine zd<|ze<|zh ?_;obtain ⟨p,q,s,v,j,x,h⟩:=bs3 h;refine rdA [(0,_),(2,_),(7,_),(9,_),(10,_),(11,_)] [some (10,[[sA [],nS,sA [],bA false,bA false,iA 0,iA 0,nS,nS,nS]]),sT c,some (6,[(zf j)])] [12,13] [0,1,2,3,4,5,6,7,8,9,10,11] [(33,_),(32,_),(31,_),(30,_),(29,_),(28,_),(27,_),(26,_),(25,_),(24,_),(23,_),(22,_)] 2 (Xj (z:=by exact ⟨(λ_ _=>⟨_,y,y,al 2 ti y<|⟨(.mpt 2 0 0),[],[(11,_)],y,y,y,y,Xj (z:=by exact ⟨nv,(λ_ _=>⟨_,y,y,sto ti y y y<|⟨.any,[],[],y,y,y,t,Xk (z:=Xd [0,1,2])⟩⟩),t⟩)⟩⟩),nw,t⟩)) ?_;obtain ⟨B,C,h⟩:=bs h;refine A ?_;refine A ?_;apply Xa h y<;>intro i h
   .obtain ⟨D,E,l,F,h⟩:=bs2 h;refine rdA [(6,_),(7,_),(8,_)] [some (10,[(zc l)])] [10] [0,1,2,3,4,5,6,7,8,9] [(6,_),(51,_),(50,_),(49,_),(48,_),(47,_),(46,_),(45,_),(44,_),(43,_)] 1 (Xj (z:=by exact ⟨(λ_ _=>⟨_,y,y,sto ti y y y<|⟨.any,[11],[(8,_)],y,y,y,t,Xk (z:=Xd [0])⟩⟩),t⟩)) ?_;refine zy ?_;cases h;exact ⟨_,y,_,y,Xb []⟩
   .refine zd<|A ?_;cases h;exact ⟨_,y,zl [0,1]⟩
  .refine zs ?_;cases h;exact ⟨y,_,y,zl [0]⟩
 .rintro ⟨⟩ rfl;refine zm<|A ?_
  exact RT0⟩
def Wb(e:List za)(f:T0)(i:zb)(j:T1)(a:zb)(b:T1)(c:Bool):Option (T1×Bool):=
  cond (!(a.Ret == [86])) ((zW e f i j b c a.Ret).bind λd=>some (d.1,d.2)) (some (b,c))
def H8(b:List za)(c:T0)(f:zb)(i:T1)(o:T1)(m:Bool)(n:zr)(d:zb)(p:T0)(j:Bool):Option (T1×Bool):=
  cond (m||(!j)) (some (o,(m||(!j)))) ((z6 b c f i o (m||(!j)) d.Params).bind λe=>cond (!(n.Op == 42)) ((U8 b c f i e.1 e.2).bind λa=>(H3 b a.1 n.C).bind λl=>cond (n.Op == 44) ((GO b c).bind λq=>(DJ q p).bind λs=>cond s ((H3 b a.1 c).bind λv=>Wb b c f i d a.2.1 ((a.2.2||(!l))||(!v))) (Wb b c f i d a.2.1 ((a.2.2||(!l))||(!false)))) (Wb b c f i d a.2.1 (a.2.2||(!l)))) (Wb b c f i d e.1 e.2))
def Eu(c:List za)(e:T0)(f:zb)(i:T1)(j:T1)(l:Bool)(a:zr):Option (T1×Bool):=
  cond (a.Op == 45) ((zhE c a.C a.M).bind λd=>H8 c e f i j l a d.2.1 d.1 d.2.2) ((O4 c a.C a.M).bind λb=>H8 c e f i j l a b.2.1 b.1 ((b.2.2&&(b.2.1.Static == (a.Op == 42)))&&(!b.2.1.Abstract)))
theorem zog(b:List za)(c:T0)(d:zb)(e:T1)(o:T1)(p:Bool)(j:zr){r:T1×Bool}(h:Eu b c d e o p j=some r):SC prog 296 [.mpt 0 0 0,.agg (zn j)] (tR b c d e o p []) (.tup []) (tR b c d e r.1 r.2 []):=by
 refine ⟨⟨t,t⟩,zZ func296 y kz y ?_⟩;refine A ?_;refine A ?_;refine A ?_;refine Xz (X:=zb×T0×Bool) (λz=>[(0,.mpt 0 0 0),(3,.mpt 1 0 0),(4,.mpt 2 0 0),(5,sA z.2.1),(6,bA z.2.2)]) (λz=>(sR b c d e o p [some (4,[(zn j)]),some (10,[(zc z.1)])])) (λz=>H8 b c d e o p j z.1 z.2.1 z.2.2=some r) ?_ ?_
 .refine A ?_;apply Xa h y<;>intro H h
  .obtain ⟨C,S,h⟩:=bs h;refine XA [(0,_),(3,_),(4,_),(5,_),(6,_)] (sR b c d e o p [some (4,[(zn j)]),some (10,[(zc C.2.1)])]) [14] [0,1,2,3,4,5,6,7,8,9,10,11,12,13] [(5,_),(23,_),(22,_),(21,_),(11,_),(20,_),(19,_),(18,_),(17,_),(16,_),(15,_),(14,_),(13,_),(12,_)] 1 (Xj (z:=by exact ⟨(λ_ _=>⟨_,y,y,sto ti y y y<|⟨.any,[15],[(6,_)],y,y,y,t,Xk (z:=Xd [0,1,2])⟩⟩),t⟩)) ?_;exact ⟨⟨C.2.1,C.1,C.2.2⟩,h,zl [0,1,2]⟩
  .obtain ⟨x,T,h⟩:=bs h;refine rdA [(0,_),(3,_),(4,_),(5,_),(6,_)] (sR b c d e o p [some (4,[(zn j)]),some (10,[(zc x.2.1)])]) [14] [0,1,2,3,4,5,6,7,8,9,10,11,12,13] [(5,_),(36,_),(35,_),(34,_),(24,_),(33,_),(32,_),(31,_),(30,_),(29,_),(28,_),(27,_),(26,_),(25,_)] 1 (Xj (z:=by exact ⟨(λ_ _=>⟨_,y,y,sto ti y y y<|⟨.any,[15],[(6,_)],y,y,y,t,Xk (z:=Xd [0,1,2])⟩⟩),t⟩)) ?_;refine A ?_;exact (⟨⟨x.2.1,x.1,((x.2.2&&(x.2.1.Static == (j.Op == 42)))&&(!x.2.1.Abstract))⟩,h,zl [0,1,2]⟩)
 .rintro ⟨f,l,B⟩ h;refine A ?_;refine u<|sx [0] (zq b c d e o p B y)<|zx (env0:=[(0,.mpt 0 0 0),(3,.mpt 1 0 0),(4,.mpt 2 0 0),(5,sA l)]) (st0:=(sR b c d e o (p||(!B)) [some (4,[(zn j)]),some (10,[(zc f)])])) (zl [0,1,2])<|zo ?_;refine ze<|A ?_;apply Xa h y<;>intro I h
  .exact RT1
  .refine zd ?_;obtain ⟨m,O,h⟩:=bs h;refine A ?_;refine u<|sx [0] (z8 b c d e o (p||(!B)) f.Params O)<|zx (env0:=[(0,.mpt 0 0 0),(3,.mpt 1 0 0),(4,.mpt 2 0 0),(5,sA l)]) (st0:=(sR b c d e m.1 m.2 [some (4,[(zn j)]),some (10,[(zc f)])])) (zl [0,1,2])<|zo ?_;refine Xz (X:=T1×Bool) (λz=>[(0,.mpt 0 0 0),(4,.mpt 1 0 0)]) (λz=>(sR b c d e z.1 z.2 [some (10,[(zc f)])])) (λz=>Wb b c d e f z.1 z.2=some r) ?_ ?_
   .refine A ?_;apply Xa h y<;>intro J h
    .obtain ⟨a,P,h⟩:=bs h;refine rg y<|u<|mv y<|u<|sx [0] (GN b c d e m.1 m.2 P)<|zx (env0:=[(0,.mpt 0 0 0),(3,.mpt 1 0 0),(4,.mpt 2 0 0),(5,sA l),(66,sA a.1)]) (st0:=(sR b c d e a.2.1 a.2.2 [some (4,[(zn j)]),some (10,[(zc f)])])) (zl [0,1,2])<|A ?_;obtain ⟨i,Q,h⟩:=bs h;refine rdA [(0,_),(3,_),(4,_),(5,_),(7,_)] (sR b c d e a.2.1 (a.2.2||(!i)) [some (4,[(zn j)]),some (10,[(zc f)])]) [9] [0,1,2,3,4,5,6,7,8] [(75,_),(74,_),(73,_),(72,_),(71,_),(70,_),(69,_),(68,_),(67,_)] 1 (Xj (z:=by exact ⟨(λ_ _=>⟨_,y,y,sx [0] (zq b c d e a.2.1 a.2.2 i y)<|⟨(.tup []),[],[(76,_)],y,y,y,y,Xk (z:=Xd [0,1,2])⟩⟩),t⟩)) ?_;refine A ?_;apply Xa h y<;>intro F h
     .obtain ⟨n,D,K,s,h⟩:=bs2 h
      rcases bb K with q |q
      .replace h:=bT q h;obtain ⟨v,R,h⟩:=bs h;refine XA [(0,.mpt 0 0 0),(4,.mpt 1 0 0)] (sR b c d e a.2.1 ((a.2.2||(!i))||(!v)) [some (10,[(zc f)])]) [9,24] [0,1,2,3,4,5,6,7,8,10] [(90,_),(88,_),(87,_),(86,_),(85,_),(84,_),(83,_),(82,_),(81,_),(80,_)] 2 (Xj (z:=by exact ⟨(λ_ _=>⟨_,y,y,sx [] (H6 b c D)<|⟨(.msl 3 0 (length n)),[11,12,13,14,15,16,17,18,19,20,21,22,23],[(103,_),(102,_),(101,_),(100,_),(99,_),(98,_),(97,_),(96,_),(95,_),(94,_),(93,_),(92,_),(91,_),(89,_)],y,y,y,y,Xj ⟨(by exact pb y (pcs (DK n l s) y y (.cons (X9 y (λ_=>y)) (.cons (si y) .nil)) XD<|w)),peC,peC,peC,peC,peC,peC,peC,peC,peC,peC,peC,peC,peC,peC,peC,peC,peC,peC,peC,peC,peC,peC,t⟩ (by exact ⟨nv,(λ_ _=>⟨_,y,y,sc [0] (args:=[.mpt 0 0 0,bA v]) (zq b c d e a.2.1 (a.2.2||(!i)) v y) y y y y ⟨(.mpt y),(rnI y),t⟩ ⟨⟨_,y,(Un y)⟩,t⟩<|⟨(.tup []),[],[(104,_)],y,y,y,y,Xk ⟨(by exact pb y (pcs (DK n l s) y y (.cons (X9 y (λ_=>y)) (.cons (si y) .nil)) XD<|w)),peC,peC,peC,peC,peC,peC,peC,peC,peC,peC,peC,peC,peC,peC,peC,peC,peC,peC,peC,peC,peC,peC,t⟩ (Xd [0,2])⟩⟩),t⟩)⟩⟩),nw,t⟩)) ?_;exact ⟨⟨a.2.1,((a.2.2||(!i))||(!v))⟩,h,zl [0,1]⟩
      .replace h:=bF q h;refine XA [(0,.mpt 0 0 0),(4,.mpt 1 0 0)] (sR b c d e a.2.1 ((a.2.2||(!i))||(!false)) [some (10,[(zc f)])]) [9,24] [0,1,2,3,4,5,6,7,8,10] [(90,_),(88,_),(87,_),(86,_),(85,_),(84,_),(83,_),(82,_),(81,_),(80,_)] 2 (Xj (z:=by exact ⟨(λ_ _=>⟨_,y,y,sx [] (H6 b c D)<|⟨(.msl 3 0 (length n)),[11,12,13,14,15,16,17,18,19,20,21,22,23],[(103,_),(102,_),(101,_),(100,_),(99,_),(98,_),(97,_),(96,_),(95,_),(94,_),(93,_),(92,_),(91,_),(89,_)],y,y,y,y,Xj ⟨(by exact pb y (pcs (DK n l s) y y (.cons (X9 y (λ_=>y)) (.cons (si y) .nil)) XD<|w)),peC,peC,peC,peC,peC,peC,peC,peC,peC,peC,peC,peC,peC,peC,peC,peC,peC,peC,peC,peC,peC,peC,t⟩ (by exact ⟨nv,(λ_ _=>⟨_,y,y,sc [0] (args:=[.mpt 0 0 0,bA false]) (zq b c d e a.2.1 (a.2.2||(!i)) false y) y y y y ⟨(.mpt y),(rnI y),t⟩ ⟨⟨_,y,(Un y)⟩,t⟩<|⟨(.tup []),[],[(104,_)],y,y,y,y,Xk ⟨(by exact pb y (pcs (DK n l s) y y (.cons (X9 y (λ_=>y)) (.cons (si y) .nil)) XD<|w)),peC,peC,peC,peC,peC,peC,peC,peC,peC,peC,peC,peC,peC,peC,peC,peC,peC,peC,peC,peC,peC,peC,t⟩ (Xd [0,2])⟩⟩),t⟩)⟩⟩),nw,t⟩)) ?_;exact ⟨⟨a.2.1,((a.2.2||(!i))||(!false))⟩,h,zl [0,1]⟩
     .refine zd ?_;exact ⟨⟨a.2.1,(a.2.2||(!i))⟩,h,zl [0,2]⟩
    .refine zd ?_;exact ⟨⟨m.1,m.2⟩,h,zl [0,2]⟩
   .rintro ⟨L,M⟩ h;refine A ?_;apply Xa h y<;>intro G h
    .obtain ⟨E,N,h⟩:=bs h;refine A ?_;refine u<|sx [0] (zU b c d e L M f.Ret N)<|zx (env0:=[]) (st0:=(sR b c d e E.1 E.2 [])) (zl [0])<|zo ?_;cases h;exact ⟨_,y,Xb [0]⟩
    .refine zd ?_;cases h;exact ⟨_,y,Xb [0]⟩
def zn5(a:T0):Option (T0):=
  (Wo [91] a).bind λb=>(Gd b).bind λc=>cond (!c) (some []) ((Wo [91] a).bind λd=>some d)
instance (a:T0):PF prog 129 [sA a] (zn5 a) sA:=⟨λr h=>by
 refine zi func129 y kz y y<|A ?_;refine ze ?_;obtain ⟨c,d,e,f,h⟩:=bs2 h;refine A ?_;apply Xa h y<;>intro b h
 .refine A ?_;exact RT0
 .refine zd ?_;obtain ⟨i,j,h⟩:=bs h;refine A ?_
  exact RT0⟩
def zpF(a:T0):Option (T0×Bool):=
  (Gd a).bind λb=>(cond (!b) (some true) ((idx a 0).bind λc=>some (!((c.toNat:Int) == 91)))).bind λd=>cond d (some ([],false)) ((XJ a 1 (length a:Int)).bind λe=>some (e,true))
instance (c:T0):PF prog 370 [sA c] (zpF c) (λr=>(.tup [sA r.1,bA r.2])):=⟨λr h=>by
 refine zi func370 y kz y y<|A ?_;refine ze ?_;obtain ⟨f,i,j,l,h⟩:=bs2 h;refine A ?_;apply Xa h y<;>intro d h
 .refine A ?_;exact RT0
 .refine zd ?_;obtain ⟨m,e,h⟩:=bs h;refine rg y<|u<|mv y<|u<|slS (a:=1) (b:=(length c:Int)) ti y y (K5 y e) y e<|A ?_
  exact RT0⟩
def zfz(c:List za)(d:T0)(e:zb)(f:T1)(i:T1)(j:Bool):Option (T0×T1×Bool):=
  (U8 c d e f i j).bind λa=>cond (a.1 == [78]) (some ([78],a.2.1,a.2.2)) ((zpF a.1).bind λb=>some (b.1,a.2.1,(a.2.2||(!(b.2&&(!(b.1 == [73])))))))
theorem zjm(a:List za)(b:T0)(c:zb)(d:T1)(i:T1)(j:Bool){r:T0×T1×Bool}(h:zfz a b c d i j=some r):SC prog 347 [.mpt 0 0 0] (tR a b c d i j []) (sA r.1) (tR a b c d r.2.1 r.2.2 []):=by
 refine ⟨⟨t,t⟩,zZ func347 y kz y ?_⟩;refine A ?_;obtain ⟨e,m,h⟩:=bs h;refine rg y<|u<|mv y<|u<|sx [0] (GN a b c d i j m)<|zx (env0:=[(0,.mpt 0 0 0),(7,sA e.1)]) (st0:=(sR a b c d e.2.1 e.2.2 [])) (zl [0])<|A ?_;refine ze<|A ?_;apply Xa h y<;>intro l h
 .refine A ?_;exact RT1
 .refine zd ?_;obtain ⟨f,n,h⟩:=bs h;refine A ?_;refine A ?_;refine u<|sx [0] (zq a b c d e.2.1 e.2.2 (f.2&&(!(f.1 == [73]))) y)<|zx (env0:=[(4,sA f.1)]) (st0:=(sR a b c d e.2.1 (e.2.2||(!(f.2&&(!(f.1 == [73]))))) [])) (zl [0])<|zo ?_;refine A ?_;exact RT1
def Hi(a:List za)(b:T0)(c:zb)(d:T1)(e:T1)(f:Bool)(i:zr):Option (T1×Bool):=
  cond (i.Op == 49) ((z6 a b c d e f ([[73]])).bind λG=>(zW a b c d G.1 G.2 [91,73]).bind λH=>some (H.1,H.2)) (cond (i.Op == 50) ((zn5 i.C).bind λl=>(cond (!(l == [])) ((zO a l).bind λI=>some I) (some false)).bind λJ=>(z6 a b c d e (f||(!J)) ([[73]])).bind λn=>(zW a b c d n.1 n.2 l).bind λo=>some (o.1,o.2)) (cond (i.Op == 51) ((U8 a b c d e f).bind λj=>(cond (j.1 == [78]) (some true) ((cond (decide (1<(length j.1:Int))) ((idx j.1 0).bind λK=>some ((K.toNat:Int) == 91)) (some false)).bind λL=>some L)).bind λM=>(zW a b c d j.2.1 (j.2.2||(!M)) [73]).bind λp=>some (p.1,p.2)) (cond (i.Op == 52) ((z6 a b c d e f ([[91,73],[73]])).bind λq=>(zW a b c d q.1 q.2 [73]).bind λs=>some (s.1,s.2)) (cond (i.Op == 53) ((z6 a b c d e f ([[91,73],[73],[73]])).bind λv=>some (v.1,v.2)) (cond (i.Op == 54) ((z6 a b c d e f ([[73]])).bind λx=>(zfz a b c d x.1 x.2).bind λm=>(zW a b c d m.2.1 m.2.2 m.1).bind λB=>some (B.1,B.2)) (cond (i.Op == 55) ((Hh a b c d e f).bind λD=>(z6 a b c d D.2.1 D.2.2 ([[73]])).bind λE=>(zfz a b c d E.1 E.2).bind λF=>some (F.2.1,F.2.2)) (some (e,f))))))))
theorem zmY(a:List za)(b:T0)(c:zb)(d:T1)(e:T1)(f:Bool)(M:zr){r:T1×Bool}(h:Hi a b c d e f M=some r):SC prog 297 [.mpt 0 0 0,.agg (zn M)] (tR a b c d e f []) (.tup []) (tR a b c d r.1 r.2 []):=by
 refine ⟨⟨t,t⟩,zZ func297 y kz y ?_⟩;refine A ?_;refine A ?_;refine zh<|A ?_;apply Xa h y<;>intro N h
 .obtain ⟨x,q2,h⟩:=bs h;refine A ?_;refine zx (env0:=[(0,.mpt 0 0 0),(10,.mpt 0 0 0),(11,tL ([[73]]))]) (st0:=(sR a b c d e f [])) (zl [0])<|u<|sx [0] (z8 a b c d e f ([[73]]) q2)<|zx (env0:=[(0,.mpt 0 0 0)]) (st0:=(sR a b c d x.1 x.2 [])) (zl [0])<|zo ?_;obtain ⟨O,q3,h⟩:=bs h;refine rl y<|u<|mv y<|u<|sx [0] (zU a b c d x.1 x.2 [91,73] q3)<|zx (env0:=[]) (st0:=(sR a b c d O.1 O.2 [])) (zl [0])<|zo ?_;cases h;exact ⟨_,y,Xb [0]⟩
 .refine A ?_;apply Xa h y<;>intro P h
  .obtain ⟨m,q5,h⟩:=bs h;refine A ?_;obtain ⟨n,q8,h⟩:=bs h;refine A ?_;refine u<|sx [0] (zq a b c d e f n y)<|zx (env0:=[(0,.mpt 0 0 0),(4,sA m)]) (st0:=(sR a b c d e (f||(!n)) [])) (zl [0])<|zo ?_;obtain ⟨o,q9,h⟩:=bs h;refine A ?_;refine zx (env0:=[(0,.mpt 0 0 0),(4,sA m),(32,.mpt 0 0 0),(33,tL ([[73]]))]) (st0:=(sR a b c d e (f||(!n)) [])) (zl [0])<|u<|sx [0] (z8 a b c d e (f||(!n)) ([[73]]) q9)<|zx (env0:=[(0,.mpt 0 0 0),(4,sA m)]) (st0:=(sR a b c d o.1 o.2 [])) (zl [0])<|zo ?_;obtain ⟨B,Q,h⟩:=bs h;refine A ?_;refine u<|sx [0] (zU a b c d o.1 o.2 m Q)<|zx (env0:=[]) (st0:=(sR a b c d B.1 B.2 [])) (zl [0])<|zo ?_;cases h;exact ⟨_,y,Xb [0]⟩
  .refine A ?_;apply Xa h y<;>intro H h
   .obtain ⟨i,R,h⟩:=bs h;refine rg y<|u<|mv y<|u<|sx [0] (GN a b c d e f R)<|zx (env0:=[(0,.mpt 0 0 0),(41,sA i.1)]) (st0:=(sR a b c d i.2.1 i.2.2 [])) (zl [0])<|A ?_;obtain ⟨v,q17,h⟩:=bs h;refine A ?_;refine u<|sx [0] (zq a b c d i.2.1 i.2.2 v y)<|zx (env0:=[(0,.mpt 0 0 0)]) (st0:=(sR a b c d i.2.1 (i.2.2||(!v)) [])) (zl [0])<|zo ?_;obtain ⟨C,S,h⟩:=bs h;refine rl y<|u<|mv y<|u<|sx [0] (zU a b c d i.2.1 (i.2.2||(!v)) [73] S)<|zx (env0:=[]) (st0:=(sR a b c d C.1 C.2 [])) (zl [0])<|zo ?_;cases h;exact ⟨_,y,Xb [0]⟩
   .refine A ?_;apply Xa h y<;>intro I h
    .obtain ⟨p,T,h⟩:=bs h;refine A ?_;refine zx (env0:=[(0,.mpt 0 0 0),(60,.mpt 0 0 0),(61,tL ([[91,73],[73]]))]) (st0:=(sR a b c d e f [])) (zl [0])<|u<|sx [0] (z8 a b c d e f ([[91,73],[73]]) T)<|zx (env0:=[(0,.mpt 0 0 0)]) (st0:=(sR a b c d p.1 p.2 [])) (zl [0])<|zo ?_;obtain ⟨D,U,h⟩:=bs h;refine rl y<|u<|mv y<|u<|sx [0] (zU a b c d p.1 p.2 [73] U)<|zx (env0:=[]) (st0:=(sR a b c d D.1 D.2 [])) (zl [0])<|zo ?_;cases h;exact ⟨_,y,Xb [0]⟩
    .refine A ?_;apply Xa h y<;>intro J h
     .obtain ⟨E,V,h⟩:=bs h;refine A ?_;refine zx (env0:=[(67,.mpt 0 0 0),(68,tL ([[91,73],[73],[73]]))]) (st0:=(sR a b c d e f [])) (zl [0])<|u<|sx [0] (z8 a b c d e f ([[91,73],[73],[73]]) V)<|zx (env0:=[]) (st0:=(sR a b c d E.1 E.2 [])) (zl [0])<|zo ?_;cases h;exact ⟨_,y,Xb [0]⟩
     .refine A ?_;apply Xa h y<;>intro K h
      .obtain ⟨q,W,h⟩:=bs h;refine A ?_;refine zx (env0:=[(0,.mpt 0 0 0),(72,.mpt 0 0 0),(73,tL ([[73]]))]) (st0:=(sR a b c d e f [])) (zl [0])<|u<|sx [0] (z8 a b c d e f ([[73]]) W)<|zx (env0:=[(0,.mpt 0 0 0)]) (st0:=(sR a b c d q.1 q.2 [])) (zl [0])<|zo ?_;obtain ⟨j,X,F,Y,h⟩:=bs2 h;refine rl y<|u<|mv y<|u<|mv y<|u<|sx [0] (zjm a b c d q.1 q.2 X)<|zx (env0:=[(75,.mpt 0 0 0),(77,sA j.1)]) (st0:=(sR a b c d j.2.1 j.2.2 [])) (zl [0])<|u<|sx [0] (zU a b c d j.2.1 j.2.2 j.1 Y)<|zx (env0:=[]) (st0:=(sR a b c d F.1 F.2 [])) (zl [0])<|zo ?_;cases h;exact ⟨_,y,Xb [0]⟩
      .refine A ?_;apply Xa h y<;>intro L h
       .obtain ⟨l,Z,h⟩:=bs h;refine rg y<|u<|mv y<|u<|sx [0] (Bg a b c d e f Z)<|zx (env0:=[(0,.mpt 0 0 0)]) (st0:=(sR a b c d l.2.1 l.2.2 [])) (zl [0])<|zo ?_;obtain ⟨s,q30,h⟩:=bs h;refine A ?_;refine zx (env0:=[(0,.mpt 0 0 0),(83,.mpt 0 0 0),(84,tL ([[73]]))]) (st0:=(sR a b c d l.2.1 l.2.2 [])) (zl [0])<|u<|sx [0] (z8 a b c d l.2.1 l.2.2 ([[73]]) q30)<|zx (env0:=[(0,.mpt 0 0 0)]) (st0:=(sR a b c d s.1 s.2 [])) (zl [0])<|zo ?_;obtain ⟨G,q31,h⟩:=bs h;refine rl y<|u<|mv y<|u<|sx [0] (zjm a b c d s.1 s.2 q31)<|zx (env0:=[]) (st0:=(sR a b c d G.2.1 G.2.2 [])) (zl [0])<|zo ?_;cases h;exact ⟨_,y,Xb [0]⟩
       .refine zd ?_;cases h;exact ⟨_,y,Xb [0]⟩
def Bo(f:List za)(i:T0)(j:zb)(b:T1)(d:T1)(l:zr)(a:Bool):Option (T1×T1×Bool):=
  cond (!a) ((idx b l.A).bind λe=>(zW f i j b d a e).bind λc=>some (b,c.1,c.2)) (some (b,d,a))
def zdY(f:List za)(i:T0)(j:zb)(b:T1)(c:T1)(d:Bool)(e:Bool):Option (T1×T1×Bool):=
  cond e ((z6 f i j b c d ([[73]])).bind λa=>some (b,a.1,a.2)) (some (b,c,d))
def z2(d:List za)(e:T0)(c:zb)(a:T1)(f:T1)(i:Bool)(b:zr):Option (T1×T1×Bool):=
  cond (b.Op == 1) ((zW d e c a f i [73]).bind λK=>some (a,K.1,K.2)) (cond (b.Op == 2) ((zW d e c a f i [78]).bind λL=>some (a,L.1,L.2)) (cond (b.Op == 3) (cond (decide (b.A<(length a:Int))) ((idx a (if (i64.wrap ((length a:Int)-1))<b.A then (i64.wrap ((length a:Int)-1)) else b.A)).bind λM=>Bo d e c a f b (i||(!(!(M == [84]))))) (Bo d e c a f b (i||(!false)))) (cond (b.Op == 4) ((U8 d e c a f i).bind λl=>cond (!(l.2.2||(!(decide (b.A<(length a:Int)))))) ((D7 (GK.mk a l.2.1)).bind λn=>(idx n.1 b.A).bind λR=>some ((List.set n.1 (Int.toNat b.A) l.1),n.2,(l.2.2||(!(decide (b.A<(length a:Int))))))) (some (a,l.2.1,(l.2.2||(!(decide (b.A<(length a:Int)))))))) (cond (b.Op == 5) ((U8 d e c a f i).bind λs=>some (a,s.2.1,s.2.2)) (cond (b.Op == 6) ((U8 d e c a f i).bind λm=>(zW d e c a m.2.1 m.2.2 m.1).bind λv=>(zW d e c a v.1 v.2 m.1).bind λx=>some (a,x.1,x.2)) (cond (b.Op == 7) ((U8 d e c a f i).bind λo=>(U8 d e c a o.2.1 o.2.2).bind λp=>(zW d e c a p.2.1 p.2.2 o.1).bind λB=>(zW d e c a B.1 B.2 p.1).bind λD=>some (a,D.1,D.2)) (cond (b.Op == 46) (some (a,f,(i||(!(c.Ret == [86]))))) (cond (b.Op == 47) ((z6 d e c a f i ([[73]])).bind λE=>some (a,E.1,(E.2||(!(c.Ret == [73]))))) (cond (b.Op == 48) ((Hh d e c a f i).bind λj=>cond (!(c.Ret == [86])) (cond (!(c.Ret == [73])) ((H3 d j.1 c.Ret).bind λN=>some (a,j.2.1,(j.2.2||(!N)))) (some (a,j.2.1,(j.2.2||(!false))))) (some (a,j.2.1,(j.2.2||(!false))))) (cond (b.Op == 56) ((Hh d e c a f i).bind λF=>(zO d b.C).bind λO=>(zW d e c a F.2.1 (F.2.2||(!O)) b.C).bind λG=>some (a,G.1,G.2)) (cond (b.Op == 57) ((Hh d e c a f i).bind λH=>(zO d b.C).bind λP=>(zW d e c a H.2.1 (H.2.2||(!P)) [73]).bind λI=>some (a,I.1,I.2)) (cond (b.Op == 58) ((U8 d e c a f i).bind λq=>(H3 d q.1 [84,104,114,111,119,110]).bind λQ=>some (a,q.2.1,(q.2.2||(!Q)))) (cond (b.Op == 59) ((zW d e c a f i [73]).bind λJ=>some (a,J.1,J.2)) (cond (b.Op == 60) (zdY d e c a f i (b.Op == 60)) (zdY d e c a f i (b.Op == 61))))))))))))))))
theorem znE(d:List za)(e:T0)(a:zb)(c:T1)(f:T1)(i:Bool)(m:zr){r:T1×T1×Bool}(h:z2 d e a c f i m=some r):SC prog 298 [.mpt 0 0 0,.agg (zn m)] (tR d e a c f i []) (.tup []) (tR d e a r.1 r.2.1 r.2.2 []):=by
 refine ⟨⟨t,t⟩,zZ func298 y kz y ?_⟩;refine A ?_;refine A ?_;refine zh<|A ?_;apply Xa h y<;>intro hc1 h
 .obtain ⟨v8,q2,h⟩:=bs h;refine rl y<|u<|mv y<|u<|sx [0] (zU d e a c f i [73] q2)<|zx (env0:=[]) (st0:=(sR d e a c v8.1 v8.2 [])) (zl [0])<|zo ?_;cases h;exact ⟨_,y,Xb [0]⟩
 .refine A ?_;apply Xa h y<;>intro hc3 h
  .obtain ⟨v9,q4,h⟩:=bs h;refine rl y<|u<|mv y<|u<|sx [0] (zU d e a c f i [78] q4)<|zx (env0:=[]) (st0:=(sR d e a c v9.1 v9.2 [])) (zl [0])<|zo ?_;cases h;exact ⟨_,y,Xb [0]⟩
  .refine A ?_;apply Xa h y<;>intro hc5 h
   .refine Xz (X:=Bool) (λz=>[(0,.mpt 0 0 0),(3,.mpt 1 0 0)]) (λz=>(sR d e a c f z [some (4,[(zn m)])])) (λz=>Bo d e a c f m z=some r) ?_ ?_
    .rcases bb (decide (m.A<(length c:Int))) with B |B
     .replace h:=bT B h;obtain ⟨I,q7,h⟩:=bs h;exact rdQ [30] [0,1,2,3,4,5,6,7,8,9,10,11,12,13,14,15,16,17,18,19,20,21,22,23,24,25,26,27,28,29] [(50,_),(49,_),(48,_),(47,_),(46,_),(45,_),(44,_),(43,_),(42,_),(41,_),(40,_),(39,_),(38,_),(37,_),(36,_),(35,_),(34,_),(33,_),(32,_),(31,_),(30,_),(29,_),(28,_),(27,_),(26,_),(25,_),(24,_),(23,_),(22,_),(21,_)] 1 (Xj ⟨peC,peC,peC,peC,peC,peC,peC,peC,peC,peC,peC,peC,peC,peC,peC,peC,peC,peC,peC,peC,peC,peC,peC,peC,peC,(by exact λ_=>pag (b:=(decide (m.A<(length c:Int)))) y y y y B y (mnI y y<|w)),peC,peC,peC,peC,t⟩ (by exact ⟨(λ_ _=>⟨_,y,y,sc [0] (args:=[.mpt 0 0 0,bA (!(I == [84]))]) (zq d e a c f i (!(I == [84])) y) y y y y ⟨(.mpt y),(rnI y),t⟩ ⟨⟨_,y,(Un y)⟩,t⟩<|⟨(.tup []),[],[(51,_)],y,y,y,y,Xk ⟨peC,peC,peC,peC,peC,peC,peC,peC,peC,peC,peC,peC,peC,peC,peC,peC,peC,peC,peC,peC,peC,peC,peC,peC,peC,(by exact λ_=>pag (b:=(decide (m.A<(length c:Int)))) y y y y B y (mnI y y<|w)),peC,peC,peC,peC,t⟩ (by exact ⟨(i||(!(!(I == [84])))),h,Xd [0,1]⟩)⟩⟩),t⟩))
     .replace h:=bF B h;exact rdQ [30] [0,1,2,3,4,5,6,7,8,9,10,11,12,13,14,15,16,17,18,19,20,21,22,23,24,25,26,27,28,29] [(50,_),(49,_),(48,_),(47,_),(46,_),(45,_),(44,_),(43,_),(42,_),(41,_),(40,_),(39,_),(38,_),(37,_),(36,_),(35,_),(34,_),(33,_),(32,_),(31,_),(30,_),(29,_),(28,_),(27,_),(26,_),(25,_),(24,_),(23,_),(22,_),(21,_)] 1 (Xj (z:=by exact ⟨(λ_ _=>⟨_,y,y,sc [0] (args:=[.mpt 0 0 0,bA false]) (zq d e a c f i false y) y y y y ⟨(.mpt y),(rnI y),t⟩ ⟨⟨_,y,(Un y)⟩,t⟩<|⟨(.tup []),[],[(51,_)],y,y,y,y,Xk (z:=by exact ⟨(i||(!false)),h,Xd [0,1]⟩)⟩⟩),t⟩))
    .rintro v11 h;refine A ?_;apply Xa h y<;>intro hc8 h
     .obtain ⟨v12,q9,M,q10,h⟩:=bs2 h;refine XA [] (sR d e a c M.1 M.2 []) [10] [0,1,2,3,4,5,6,7,8,9] [(66,_),(65,_),(64,_),(63,_),(62,_),(61,_),(60,_),(59,_),(58,_),(57,_)] 1 (Xj (z:=by exact ⟨(λ_ _=>⟨_,y,y,sx [0] (zU d e a c f v11 v12 q10)<|⟨(.tup []),[],[(67,_)],y,y,y,y,Xk (z:=Xd [0])⟩⟩),t⟩)) ?_;cases h;exact ⟨_,y,Xb [0]⟩
     .refine zd ?_;cases h;exact ⟨_,y,Xb [0]⟩
   .refine A ?_;apply Xa h y<;>intro V h
    .obtain ⟨l,q12,h⟩:=bs h;refine rg y<|u<|mv y<|u<|sx [0] (GN d e a c f i q12)<|zx (env0:=[(0,.mpt 0 0 0),(3,.mpt 1 0 0),(71,sA l.1)]) (st0:=(sR d e a c l.2.1 l.2.2 [some (4,[(zn m)])])) (zl [0,1])<|A ?_;refine rdA [(0,_),(3,_),(4,_)] (sR d e a c l.2.1 (l.2.2||(!(decide (m.A<(length c:Int))))) [some (4,[(zn m)])]) [10] [0,1,2,3,4,5,6,7,8,9] [(81,_),(80,_),(79,_),(78,_),(77,_),(76,_),(75,_),(74,_),(73,_),(72,_)] 1 (Xj (z:=by exact ⟨(λ_ _=>⟨_,y,y,sx [0] (zq d e a c l.2.1 l.2.2 (decide (m.A<(length c:Int))) y)<|⟨(.tup []),[],[(82,_)],y,y,y,y,Xk (z:=Xd [0,1])⟩⟩),t⟩)) ?_;refine A ?_;apply Xa h y<;>intro W h
     .obtain ⟨v,q14,h⟩:=bs h;refine A ?_;refine u<|sx [] (zix (GK.mk c l.2.1) q14)<|zx (env0:=[(0,.mpt 0 0 0),(3,.mpt 1 0 0),(4,sA l.1),(88,.mpt 0 0 0),(93,.agg [.msl 2 0 (length v.1),.msl 3 0 (length v.2)])]) (st0:=(sR d e a c l.2.1 (l.2.2||(!(decide (m.A<(length c:Int))))) [some (4,[(zn m)]),sT v.1,sT v.2])) (zl [0,1,2,3])<|A ?_;obtain ⟨v16,q15,h⟩:=bs h;refine XA [] (sR d e a (List.set v.1 (Int.toNat m.A) l.1) v.2 (l.2.2||(!(decide (m.A<(length c:Int))))) []) [9] [0,1,2,3,4,5,6,7,8] [(104,_),(103,_),(102,_),(101,_),(100,_),(99,_),(98,_),(97,_),(96,_)] 1 (Xj (z:=by exact ⟨(λ_ _=>⟨_,y,y,zGu (c':=l.1) ti y y (zz q15).2.2 y y y y y<|⟨.any,[],[],y,y,y,t,Xk (z:=by exact ⟨[0],cn,y,⟨⟨_,y,XG (Gp y (by exact ⟨zFi (by simp) y y (λ_=>y),K8 y y (λ_=>y),ci y,t⟩))⟩,t⟩,y,k⟩)⟩⟩),t⟩)) ?_;cases h;exact ⟨_,y,Xb [0]⟩
     .refine zd ?_;cases h;exact ⟨_,y,Xb [0]⟩
    .refine A ?_;apply Xa h y<;>intro Y h
     .obtain ⟨N,q17,h⟩:=bs h;refine rl y<|u<|mv y<|u<|sx [0] (GN d e a c f i q17)<|zx (env0:=[]) (st0:=(sR d e a c N.2.1 N.2.2 [])) (zl [0])<|zo ?_;cases h;exact ⟨_,y,Xb [0]⟩
     .refine A ?_;apply Xa h y<;>intro Z h
      .obtain ⟨n,q19,h⟩:=bs h;refine rg y<|u<|mv y<|u<|sx [0] (GN d e a c f i q19)<|zx (env0:=[(0,.mpt 0 0 0),(112,sA n.1)]) (st0:=(sR d e a c n.2.1 n.2.2 [])) (zl [0])<|A ?_;obtain ⟨G,q20,h⟩:=bs h;refine rg y<|u<|mv y<|u<|mv y<|u<|sx [0] (zU d e a c n.2.1 n.2.2 n.1 q20)<|zx (env0:=[(0,.mpt 0 0 0),(5,sA n.1)]) (st0:=(sR d e a c G.1 G.2 [])) (zl [0])<|zo ?_;obtain ⟨O,q21,h⟩:=bs h;refine rl y<|u<|mv y<|u<|mv y<|u<|sx [0] (zU d e a c G.1 G.2 n.1 q21)<|zx (env0:=[]) (st0:=(sR d e a c O.1 O.2 [])) (zl [0])<|zo ?_;cases h;exact ⟨_,y,Xb [0]⟩
      .refine A ?_;apply Xa h y<;>intro hc22 h
       .obtain ⟨q,q23,s,q24,h⟩:=bs2 h;refine rg y<|u<|mv y<|u<|sx [0] (GN d e a c f i q23)<|zx (env0:=[(0,.mpt 0 0 0),(122,sA q.1)]) (st0:=(sR d e a c q.2.1 q.2.2 [])) (zl [0])<|u<|mv y<|u<|sx [0] (GN d e a c q.2.1 q.2.2 q24)<|zx (env0:=[(0,.mpt 0 0 0),(122,sA q.1),(124,sA s.1)]) (st0:=(sR d e a c s.2.1 s.2.2 [])) (zl [0])<|A ?_;obtain ⟨H,q25,h⟩:=bs h;refine rg y<|u<|mv y<|u<|mv y<|u<|sx [0] (zU d e a c s.2.1 s.2.2 q.1 q25)<|zx (env0:=[(0,.mpt 0 0 0),(7,sA s.1)]) (st0:=(sR d e a c H.1 H.2 [])) (zl [0])<|zo ?_;obtain ⟨P,q26,h⟩:=bs h;refine rl y<|u<|mv y<|u<|mv y<|u<|sx [0] (zU d e a c H.1 H.2 s.1 q26)<|zx (env0:=[]) (st0:=(sR d e a c P.1 P.2 [])) (zl [0])<|zo ?_;cases h;exact ⟨_,y,Xb [0]⟩
       .refine A ?_;apply Xa h y<;>intro hc27 h
        .refine A ?_;refine u<|sx [0] (zq d e a c f i (a.Ret == [86]) y)<|zx (env0:=[]) (st0:=(sR d e a c f (i||(!(a.Ret == [86]))) [])) (zl [0])<|zo ?_;cases h;exact ⟨_,y,Xb [0]⟩
        .refine A ?_;apply Xa h y<;>intro hc28 h
         .obtain ⟨x,q29,h⟩:=bs h;refine A ?_;refine zx (env0:=[(0,.mpt 0 0 0),(143,.mpt 0 0 0),(144,tL ([[73]]))]) (st0:=(sR d e a c f i [])) (zl [0])<|u<|sx [0] (z8 d e a c f i ([[73]]) q29)<|zx (env0:=[(0,.mpt 0 0 0)]) (st0:=(sR d e a c x.1 x.2 [])) (zl [0])<|zo ?_;refine A ?_;refine u<|sx [0] (zq d e a c x.1 x.2 (a.Ret == [73]) y)<|zx (env0:=[]) (st0:=(sR d e a c x.1 (x.2||(!(a.Ret == [73]))) [])) (zl [0])<|zo ?_;cases h;exact ⟨_,y,Xb [0]⟩
         .refine A ?_;apply Xa h y<;>intro hc30 h
          .obtain ⟨j,q31,h⟩:=bs h;refine rg y<|u<|mv y<|u<|sx [0] (Bg d e a c f i q31)<|zx (env0:=[(0,.mpt 0 0 0),(157,sA j.1)]) (st0:=(sR d e a c j.2.1 j.2.2 [])) (zl [0])<|A ?_
           rcases bb (!(a.Ret == [86])) with E |E
           .replace h:=bT E h
            rcases bb (!(a.Ret == [73])) with F |F
            .replace h:=bT F h;obtain ⟨J,q34,h⟩:=bs h;refine XA [] (sR d e a c j.2.1 (j.2.2||(!J)) []) [28] [0,1,2,3,4,5,6,7,8,9,10,11,12,13,14,15,16,17,18,19,20,21,22,23,24,25,26,27] [(185,_),(184,_),(183,_),(182,_),(181,_),(180,_),(179,_),(178,_),(177,_),(176,_),(175,_),(174,_),(173,_),(172,_),(171,_),(170,_),(169,_),(168,_),(167,_),(166,_),(165,_),(164,_),(163,_),(162,_),(161,_),(160,_),(159,_),(158,_)] 1 (Xj (z:=by exact ⟨(λ_ _=>⟨_,y,y,sc [0] (args:=[.mpt 0 0 0,bA J]) (zq d e a c j.2.1 j.2.2 J y) y y y y ⟨(.mpt y),(rnI y),t⟩ ⟨⟨_,y,(Un y)⟩,t⟩<|⟨(.tup []),[],[(186,_)],y,y,y,y,Xk (z:=Xd [0])⟩⟩),t⟩)) ?_;cases h;exact ⟨_,y,Xb [0]⟩
            .replace h:=bF F h;refine XA [] (sR d e a c j.2.1 (j.2.2||(!false)) []) [28] [0,1,2,3,4,5,6,7,8,9,10,11,12,13,14,15,16,17,18,19,20,21,22,23,24,25,26,27] [(185,_),(184,_),(183,_),(182,_),(181,_),(180,_),(179,_),(178,_),(177,_),(176,_),(175,_),(174,_),(173,_),(172,_),(171,_),(170,_),(169,_),(168,_),(167,_),(166,_),(165,_),(164,_),(163,_),(162,_),(161,_),(160,_),(159,_),(158,_)] 1 (Xj (z:=by exact ⟨(λ_ _=>⟨_,y,y,sc [0] (args:=[.mpt 0 0 0,bA false]) (zq d e a c j.2.1 j.2.2 false y) y y y y ⟨(.mpt y),(rnI y),t⟩ ⟨⟨_,y,(Un y)⟩,t⟩<|⟨(.tup []),[],[(186,_)],y,y,y,y,Xk (z:=Xd [0])⟩⟩),t⟩)) ?_;cases h;exact ⟨_,y,Xb [0]⟩
           .replace h:=bF E h;refine XA [] (sR d e a c j.2.1 (j.2.2||(!false)) []) [28] [27,26,25,24,23,22,21,20,19,18,17,16,15,14,13,12,11,10,9,8,7,6,5,4,3,2,1,0] [(185,bA false),(184,.lit undef),(183,.lit undef),(182,.lit undef),(181,.lit undef),(180,.lit undef),(179,.lit undef),(178,.lit undef),(177,.lit undef),(176,.lit undef),(175,.lit undef),(174,.lit undef),(173,bA false),(172,bA false),(171,.lit undef),(170,.lit undef),(169,.lit undef),(168,.lit undef),(167,.lit undef),(166,.lit undef),(165,bA (!(a.Ret == [86]))),(164,bA (!(a.Ret == [86]))),(163,sA a.Ret),(162,.mpt 0 0 4),(161,.mpt 0 0 2),(160,.mpt 0 0 0),(159,.mpt 0 0 0),(158,.mpt 0 0 0)] 1 (X5 ⟨pe,pe,pe,pe,pe,pe,pe,pe,pe,pe,pe,pe,pe,pe,pe,pe,pe,pe,pe,pe,pe,(pb y (sne ti y y w)),(pb y (ld ti y y w)),(pb y (fa ti y y y w)),(pb y (fa ti y y y w)),pe,pe,pe,t⟩ ⟨(λ_ _=>⟨_,y,y,sc [0] (args:=[.mpt 0 0 0,bA false]) (zq d e a c j.2.1 j.2.2 false y) y y y y ⟨(.mpt y),(rnI y),t⟩ ⟨⟨_,y,(Un y)⟩,t⟩<|⟨(.tup []),[],[(186,.tup [])],y,y,kz,y,ZC ⟨pe,pe,pe,pe,pe,pe,pe,pe,pe,pe,pe,pe,pe,pe,pe,pe,pe,pe,pe,pe,pe,(pb y (sne ti y y w)),(pb y (ld ti y y w)),(pb y (fa ti y y y w)),(pb y (fa ti y y y w)),pe,pe,pe,t⟩ (zl [0])⟩⟩),t⟩) ?_;cases h;exact ⟨_,y,Xb [0]⟩
          .refine A ?_;apply Xa h y<;>intro hc35 h
           .obtain ⟨o,q36,h⟩:=bs h;refine rg y<|u<|mv y<|u<|sx [0] (Bg d e a c f i q36)<|zx (env0:=[(0,.mpt 0 0 0),(3,.mpt 1 0 0)]) (st0:=(sR d e a c o.2.1 o.2.2 [some (4,[(zn m)])])) (zl [0,1])<|zo ?_;obtain ⟨K,q37,h⟩:=bs h;refine rdA [(0,_),(3,_)] (sR d e a c o.2.1 (o.2.2||(!K)) [some (4,[(zn m)])]) [8] [0,1,2,3,4,5,6,7] [(198,_),(197,_),(196,_),(195,_),(194,_),(193,_),(192,_),(191,_)] 1 (Xj (z:=by exact ⟨(λ_ _=>⟨_,y,y,sx [0] (zq d e a c o.2.1 o.2.2 K y)<|⟨(.tup []),[],[(199,_)],y,y,y,y,Xk (z:=Xd [0,1])⟩⟩),t⟩)) ?_;obtain ⟨Q,q38,h⟩:=bs h;refine A ?_;refine u<|sx [0] (zU d e a c o.2.1 (o.2.2||(!K)) m.C q38)<|zx (env0:=[]) (st0:=(sR d e a c Q.1 Q.2 [])) (zl [0])<|zo ?_;cases h;exact ⟨_,y,Xb [0]⟩
           .refine A ?_;apply Xa h y<;>intro hc39 h
            .obtain ⟨p,q40,h⟩:=bs h;refine rg y<|u<|mv y<|u<|sx [0] (Bg d e a c f i q40)<|zx (env0:=[(0,.mpt 0 0 0),(3,.mpt 1 0 0)]) (st0:=(sR d e a c p.2.1 p.2.2 [some (4,[(zn m)])])) (zl [0,1])<|zo ?_;obtain ⟨L,q41,h⟩:=bs h;refine rdA [(0,_)] (sR d e a c p.2.1 (p.2.2||(!L)) []) [8] [0,1,2,3,4,5,6,7] [(215,_),(214,_),(213,_),(212,_),(211,_),(210,_),(209,_),(208,_)] 1 (Xj (z:=by exact ⟨(λ_ _=>⟨_,y,y,sx [0] (zq d e a c p.2.1 p.2.2 L y)<|⟨(.tup []),[],[(216,_)],y,y,y,y,Xk (z:=Xd [0])⟩⟩),t⟩)) ?_;obtain ⟨R,q42,h⟩:=bs h;refine rl y<|u<|mv y<|u<|sx [0] (zU d e a c p.2.1 (p.2.2||(!L)) [73] q42)<|zx (env0:=[]) (st0:=(sR d e a c R.1 R.2 [])) (zl [0])<|zo ?_;cases h;exact ⟨_,y,Xb [0]⟩
            .refine A ?_;apply Xa h y<;>intro hc43 h
             .obtain ⟨D,q44,S,q45,h⟩:=bs2 h;refine XA [] (sR d e a c D.2.1 (D.2.2||(!S)) []) [6,8] [0,1,2,3,4,5] [(226,_),(225,_),(224,_),(223,_),(222,_),(221,_)] 2 (Xj (z:=by exact ⟨(λ_ _=>⟨_,y,y,sx [0] (GN d e a c f i q44)<|⟨(sA D.1),[7],[(228,_),(227,_)],y,y,y,y,Xj (z:=by exact ⟨nv,(λ_ _=>⟨_,y,y,sx [0] (zq d e a c D.2.1 D.2.2 S y)<|⟨(.tup []),[],[(229,_)],y,y,y,y,Xk (z:=Xd [0])⟩⟩),t⟩)⟩⟩),nw,t⟩)) ?_;cases h;exact ⟨_,y,Xb [0]⟩
             .refine A ?_;apply Xa h y<;>intro hc46 h
              .obtain ⟨T,q47,h⟩:=bs h;refine rl y<|u<|mv y<|u<|sx [0] (zU d e a c f i [73] q47)<|zx (env0:=[]) (st0:=(sR d e a c T.1 T.2 [])) (zl [0])<|zo ?_;cases h;exact ⟨_,y,Xb [0]⟩
              .refine Xz (X:=Bool) (λz=>[(0,.mpt 0 0 0),(234,bA z)]) (λz=>(sR d e a c f i [])) (λz=>zdY d e a c f i z=some r) ?_ ?_
               .refine A ?_;apply Xa h y<;>intro hc48 h
                .refine zd ?_;exact ⟨(m.Op == 60),h,zl [0]⟩
                .refine A ?_;exact (⟨(m.Op == 61),h,zl [0]⟩)
               .rintro v37 h;apply Xa h y<;>intro hc49 h
                .obtain ⟨U,q50,h⟩:=bs h;refine A ?_;refine zx (env0:=[(237,.mpt 0 0 0),(238,tL ([[73]]))]) (st0:=(sR d e a c f i [])) (zl [0])<|u<|sx [0] (z8 d e a c f i ([[73]]) q50)<|zx (env0:=[]) (st0:=(sR d e a c U.1 U.2 [])) (zl [0])<|zo ?_;cases h;exact ⟨_,y,Xb [0]⟩
                .refine zd ?_;cases h;exact ⟨_,y,Xb [0]⟩
def zdX(e:List za)(f:T0)(i:zb)(b:T1)(c:T1)(d:Bool):Option (T1×T1×Bool):=
  (zW e f i b c d [73]).bind λa=>some (b,a.1,a.2)
def zk(c:List za)(d:T0)(e:zb)(b:T1)(f:T1)(i:Bool)(a:zr):Option (T1×T1×Bool):=
  cond ((decide (8≤a.Op))&&(decide (a.Op≤19))) ((z6 c d e b f i ([[73]])).bind λl=>cond (!(a.Op == 13)) ((z6 c d e b l.1 l.2 ([[73]])).bind λq=>zdX c d e b q.1 q.2) (zdX c d e b l.1 l.2)) (cond ((decide (21≤a.Op))&&(decide (a.Op≤36))) ((Be c d e b f i a).bind λm=>some (b,m.1,m.2)) (cond (a.Op == 20) ((Bf c d e b f i a.A b f).bind λs=>some (b,f,s)) (cond ((decide (37≤a.Op))&&(decide (a.Op≤41))) ((Bl c d e b f i a).bind λn=>some (b,n.1,n.2)) (cond ((decide (42≤a.Op))&&(decide (a.Op≤45))) ((Eu c d e b f i a).bind λo=>some (b,o.1,o.2)) (cond ((decide (49≤a.Op))&&(decide (a.Op≤55))) ((Hi c d e b f i a).bind λp=>some (b,p.1,p.2)) ((z2 c d e b f i a).bind λj=>some (j.1,j.2.1,j.2.2)))))))
theorem zjo(a:List za)(b:T0)(c:zb)(d:T1)(e:T1)(f:Bool)(i:zr){r:T1×T1×Bool}(h:zk a b c d e f i=some r):SC prog 211 [.mpt 0 0 0,.agg (zn i)] (tR a b c d e f []) (.tup []) (tR a b c r.1 r.2.1 r.2.2 []):=by
 refine ⟨⟨t,t⟩,zZ func211 y kz y ?_⟩;refine A ?_;refine zh<|A ?_;apply Xa h y<;>intro D h
 .obtain ⟨j,O,h⟩:=bs h;refine A ?_;refine zx (env0:=[(0,.mpt 0 0 0),(3,.mpt 1 0 0),(16,.mpt 0 0 0),(17,tL ([[73]]))]) (st0:=(sR a b c d e f [some (4,[(zn i)])])) (zl [0,1])<|u<|sx [0] (z8 a b c d e f ([[73]]) O)<|zx (env0:=[(0,.mpt 0 0 0),(3,.mpt 1 0 0)]) (st0:=(sR a b c d j.1 j.2 [some (4,[(zn i)])])) (zl [0,1])<|zo ?_;refine Xz (X:=T1×Bool) (λz=>[(0,.mpt 0 0 0)]) (λz=>(sR a b c d z.1 z.2 [])) (λz=>zdX a b c d z.1 z.2=some r) ?_ ?_
  .refine A ?_;apply Xa h y<;>intro E h
   .obtain ⟨m,P,h⟩:=bs h;refine A ?_;exact zx (env0:=[(0,.mpt 0 0 0),(22,.mpt 0 0 0),(23,tL ([[73]]))]) (st0:=(sR a b c d j.1 j.2 [])) (zl [0])<|u<|sx [0] (z8 a b c d j.1 j.2 ([[73]]) P)<|zx (env0:=[(0,.mpt 0 0 0)]) (st0:=(sR a b c d m.1 m.2 [])) (zl [0])<|zo (⟨⟨m.1,m.2⟩,h,zl [0]⟩)
   .refine zd ?_;exact ⟨⟨j.1,j.2⟩,h,zl [0]⟩
  .rintro ⟨F,G⟩ h;obtain ⟨n,Q,h⟩:=bs h;refine rl y<|u<|mv y<|u<|sx [0] (zU a b c d F G [73] Q)<|zx (env0:=[]) (st0:=(sR a b c d n.1 n.2 [])) (zl [0])<|zo ?_;cases h;exact ⟨_,y,Xb [0]⟩
 .refine A ?_;apply Xa h y<;>intro H h
  .obtain ⟨o,R,h⟩:=bs h;refine A ?_;refine u<|sx [0] (zoi a b c d e f i R)<|zx (env0:=[]) (st0:=(sR a b c d o.1 o.2 [])) (zl [0])<|zo ?_;cases h;exact ⟨_,y,Xb [0]⟩
  .refine A ?_;apply Xa h y<;>intro v h
   .obtain ⟨I,J,h⟩:=bs h;refine XA [] (sR a b c d e I []) [13] [0,1,2,3,4,5,6,7,8,9,10,11,12] [(55,_),(54,_),(53,_),(52,_),(51,_),(50,_),(49,_),(48,_),(47,_),(46,_),(45,_),(44,_),(43,_)] 1 (Xj (z:=by exact ⟨(λ_ _=>⟨_,y,y,sx [0] (zfR a b c d e f i.A d e J)<|⟨(.tup []),[],[(56,_)],y,y,y,y,Xk (z:=Xd [0])⟩⟩),t⟩)) ?_;cases h;exact ⟨_,y,Xb [0]⟩
   .refine A ?_;apply Xa h y<;>intro x h
    .obtain ⟨p,K,h⟩:=bs h;refine A ?_;refine u<|sx [0] (znC a b c d e f i K)<|zx (env0:=[]) (st0:=(sR a b c d p.1 p.2 [])) (zl [0])<|zo ?_;cases h;exact ⟨_,y,Xb [0]⟩
    .refine A ?_;apply Xa h y<;>intro B h
     .obtain ⟨q,L,h⟩:=bs h;refine A ?_;refine u<|sx [0] (zog a b c d e f i L)<|zx (env0:=[]) (st0:=(sR a b c d q.1 q.2 [])) (zl [0])<|zo ?_;cases h;exact ⟨_,y,Xb [0]⟩
     .refine A ?_;apply Xa h y<;>intro C h
      .obtain ⟨s,M,h⟩:=bs h;refine A ?_;refine u<|sx [0] (zmY a b c d e f i M)<|zx (env0:=[]) (st0:=(sR a b c d s.1 s.2 [])) (zl [0])<|zo ?_;cases h;exact ⟨_,y,Xb [0]⟩
      .obtain ⟨l,N,h⟩:=bs h;refine A ?_;refine u<|sx [0] (znE a b c d e f i N)<|zx (env0:=[]) (st0:=(sR a b c l.1 l.2.1 l.2.2 [])) (zl [0])<|zo ?_;cases h;exact ⟨_,y,Xb [0]⟩
def zjG(c:T1)(d:T1)(a:Bool)(b:Bool):Option (Bool):=
  some ((!a)&&(!b))
def zes(i:T0)(j:zB)(b:zb)(l:Bool)(c:Int)(m:zS×Bool)(n:Bool)(d:T1)(e:T1):zL (T1×T1×Bool×Bool×Int) (T1×T1×Bool×Bool) (Bool):=
  (Wd j.L i b d e (n||(!(m.2||l))) c).bind λo=>(idx b.Code c).bind λp=>(zk j.L i b d e o p).bind λa=>(idx b.Code c).bind λf=>some (.inl (a.1,a.2.1,a.2.2,(!(HN f.Op)),(i64.wrap (c+1))))
def E0(i:T0)(j:zB)(b:zb)(l:T1)(m:T1)(c:Bool)(d:Int)(a:zS×Bool)(e:Bool):zL (T1×T1×Bool×Bool×Int) (T1×T1×Bool×Bool) (Bool):=
  cond a.2 ((D7 (GK.mk a.1.Locals a.1.Stack)).bind λf=>zes i j b c d a e f.1 f.2) (zes i j b c d a e l m)
def Hj(j:T0)(l:zB)(c:zb)(a:T1)(b:T1)(d:Bool)(f:Bool)(e:Int):zL (T1×T1×Bool×Bool×Int) (T1×T1×Bool×Bool) (Bool):=
  cond ((decide (e<(length c.Code:Int)))&&(!d)) ((Bk l.L j c a b d e).bind λi=>cond (i.2&&f) ((Bf l.L j c a b d e a b).bind λm=>E0 j l c a b f e i m) (E0 j l c a b f e i d)) (some (.inr (.inl (a,b,d,f))))
def zkr(f:T0)(e:zB)(a:zb)(c:Bool):Option (Bool):=
  (cond (a.Ret == [86]) (some true) ((zO e.L a.Ret).bind λi=>some i)).bind λd=>(zfA e.L f a [] [] (c||(!d))).bind λj=>(zp (λz=>Hj f e a z.1 z.2.1 z.2.2.1 z.2.2.2.1 z.2.2.2.2) (j,[],(c||(!d)),true,0)).bind λo=>zH o (λb=>zjG b.1 b.2.1 b.2.2.1 b.2.2.2) some
def EC(f:zB)(b:zb)(c:Bool)(a:Int):zL (Bool×Int) (Bool) (Bool):=
  cond (decide (a<(length b.Params:Int))) ((idx b.Params a).bind λd=>(zO f.L d).bind λe=>some (.inl ((c||(!e)),(i64.wrap (a+1))))) (some (.inr (.inl c)))
def zhX(e:T0)(c:zB)(a:zb)(d:Bool):Option (Bool):=
  (zp (λz=>EC c a z.1 z.2) (d,0)).bind λo=>zH o (λb=>zkr e c a b) some
def zo4(a:Int)(b:Bool):zL (Bool×Int) (Bool) (Bool):=
  some (.inl (b,(i64.wrap (a+1))))
def ED(m:zB)(b:T1)(c:Bool)(a:Int):zL (Bool×Int) (Bool) (Bool):=
  cond (decide (a<((length b):Int))) ((idx b a).bind λd=>(cond (d == [84]) (some true) ((idx b a).bind λe=>some (e == [78]))).bind λf=>(cond f (some true) ((idx b a).bind λi=>(zO m.L i).bind λj=>some j)).bind λl=>some (.inl ((c||(!l)),(i64.wrap (a+1))))) (some (.inr (.inl c)))
def Bj(l:zB)(c:zb)(d:Bool)(a:Int):zL (Bool×Int) (Bool) (Bool):=
  cond (decide (a<(length c.Maps:Int))) ((idx c.Maps a).bind λe=>(idx c.Maps a).bind λf=>(Xx 16 ([]:T1) e.Locals).bind λi=>(Xx 16 i f.Stack).bind λj=>(zp (λz=>ED l j z.1 z.2) (d,0)).bind λo=>zH o (λb=>zo4 a b) (λr=>some (.inr (.inr r)))) (some (.inr (.inl d)))
def zgE(l:Option zB)(f:T0)(c:Int):Option (Bool):=
  Um l (none) (λa=>(zX a.L f).bind λd=>(cond ((decide (d<0))||(decide (c<0))) (some true) ((idx a.L d).bind λm=>some (decide ((length m.Methods:Int)≤c)))).bind λn=>(cond n (some true) ((idx a.L d).bind λp=>(idx p.Methods c).bind λq=>some q.Abstract)).bind λi=>cond i (some false) ((idx a.L d).bind λj=>(idx j.Methods c).bind λe=>(zp (λz=>Bj a e z.1 z.2) (false,0)).bind λo=>zH o (λb=>zhX f a e b) some))
instance (P:Option zB)(d:T0)(Y:Int):PF prog 119 [XB 1 U6 P,sA d,iA Y] (zgE P d Y) bA:=⟨λr h=>by
 refine zi func119 y kz y y ?_;unfold zgE at h
 rcases P with _ |c
 .replace h:=oeN h;cases h
 .replace h:=oeS h;refine A ?_;obtain ⟨v5,q1,h⟩:=bs h;refine rg y<|u<|mv y<|u<|mv y<|u<|pc (D6 c.L d q1) y y y<|u<|asg y<|zo ?_;refine ze ?_;obtain ⟨v7,q5,v10,q9,h⟩:=bs2 h;refine A ?_;apply Xa h y<;>intro Q h
  .refine A ?_;exact RT0
  .refine zd ?_;obtain ⟨v11,q11,a,q12,h⟩:=bs2 h;refine A ?_;refine ze<|A ?_;obtain ⟨o,ho,h⟩:=bs h;refine lpB ho (λz=>[(0,.ipt 1 [[cL c.L]] 0 0),(8,.mpt 0 0 0),(9,iA z.2)]) (λz=>[some (15,[(rK c.L d a (nS) (nS) (bA z.1))])]) (λb=>[(0,.ipt 1 [[cL c.L]] 0 0),(8,.mpt 0 0 0)]) (λb=>[some (15,[(rK c.L d a (nS) (nS) (bA b))])]) (pG f119 bA) (Xd [0]) ?_ ?_
   .rintro ⟨Z,m⟩ r h;refine ze<|A ?_;apply Xa h y<;>intro R h
    .refine zd<|ze<|zh ?_;obtain ⟨v38,B,v39,v,H,q39,n,q40,h⟩:=bs4 h;refine rdA [(0,.ipt 1 [[cL c.L]] 0 0),(8,.mpt 0 0 0),(9,iA m),(10,.msl 1 0 (length n))] [some (15,[(rK c.L d a (nS) (nS) (bA Z))]),sT n] [9,19] [18,17,16,15,14,13,12,11,10,8,7,6,5,4,3,2,1,0] [(96,tL v39.Stack),(95,.ipt 3 (map zA a.Maps) (Int.toNat m) 2),(94,.ipt 3 (map zA a.Maps) (Int.toNat m) 0),(93,iA m),(92,.isl 3 (map zA a.Maps)),(91,.mpt 0 0 10),(90,.mpt 0 0 2),(89,.mpt 0 0 0),(88,.mpt 0 0 0),(86,tL v38.Locals),(85,.ipt 3 (map zA a.Maps) (Int.toNat m) 1),(84,.ipt 3 (map zA a.Maps) (Int.toNat m) 0),(83,iA m),(82,.isl 3 (map zA a.Maps)),(81,.mpt 0 0 10),(80,.mpt 0 0 2),(79,.mpt 0 0 0),(78,.mpt 0 0 0)] 2 (X5 ⟨(pb y (ldI ti y (zz v).2.2 y w)),(pb y (fa ti y y y w)),(pb y (ixI ti y ti y y y v w)),pe,(pb y (ld ti y y w)),(pb y (fa ti y y y w)),(pb y (fa ti y y y w)),pe,pe,(pb y (ldI ti y (zz B).2.2 y w)),(pb y (fa ti y y y w)),(pb y (ixI ti y ti y y y B w)),pe,(pb y (ld ti y y w)),(pb y (fa ti y y y w)),(pb y (fa ti y y y w)),pe,pe,t⟩ ⟨(λ_ _=>⟨_,y,y,apN (f:=Xe) 1 ti y ti y y (by decide) ti y y y roI (λ_=>y) y q39<|⟨(.msl 1 0 (length H)),[],[(87,.msl 1 0 (length H))],y,y,kz,y,X5 ⟨(pb y (ldI ti y (zz v).2.2 y w)),(pb y (fa ti y y y w)),(pb y (ixI ti y ti y y y v w)),pe,(pb y (ld ti y y w)),(pb y (fa ti y y y w)),(pb y (fa ti y y y w)),pe,pe,pe,(pb y (fa ti y y y w)),(pb y (ixI ti y ti y y y B w)),pe,(pb y (ld ti y y w)),(pb y (fa ti y y y w)),(pb y (fa ti y y y w)),pe,pe,t⟩ ⟨nv,(λ_ _=>⟨_,y,y,apM 2 ti y ti y y (by decide) ti y y y y roI (λ_=>y) y q40<|⟨(.msl 2 0 (length n)),[20],[(10,.msl 2 0 (length n)),(97,.msl 2 0 (length n))],y,y,kz,y,ZC ⟨pe,pe,(pb y (fa ti y y y w)),(pb y (ixI ti y ti y y y v w)),pe,(pb y (ld ti y y w)),(pb y (fa ti y y y w)),(pb y (fa ti y y y w)),pe,pe,pe,(pb y (fa ti y y y w)),(pb y (ixI ti y ti y y y B w)),pe,(pb y (ld ti y y w)),(pb y (fa ti y y y w)),(pb y (fa ti y y y w)),pe,pe,t⟩ (zl [0,2])⟩⟩),t⟩⟩⟩),nw,t⟩) ?_;refine A ?_;obtain ⟨o,ho,h⟩:=bs h;refine lpS ho (λz=>[(0,.ipt 1 [[cL c.L]] 0 0),(8,.mpt 0 0 0),(9,iA m),(10,.msl 1 0 (length n)),(11,iA z.2)]) (λz=>[some (15,[(rK c.L d a (nS) (nS) (bA z.1))]),sT n]) (λb=>[(0,.ipt 1 [[cL c.L]] 0 0),(8,.mpt 0 0 0),(9,iA m)]) (λb=>[some (15,[(rK c.L d a (nS) (nS) (bA b))])]) (pG f119 bA) (Xd [0,1]) ?_ ?_ ?_
     .rintro ⟨I,v51⟩ r h;refine ze<|A ?_;apply Xa h y<;>intro S h
      .refine zd<|ze<|zh ?_;obtain ⟨v52,q51,v54,q54,J,q58,h⟩:=bs3 h;refine A ?_;refine u<|sx [0] (E1 c.L d a I J y)<|zx (env0:=[(0,.ipt 1 [[cL c.L]] 0 0),(8,.mpt 0 0 0),(9,iA m),(10,.msl 1 0 (length n)),(11,iA v51)]) (st0:=[some (15,[(rK c.L d a (nS) (nS) (bA (I||(!J))))]),sT n]) (zl [0,1])<|zo ?_;refine A ?_;cases h;exact ⟨_,y,zl [0,1]⟩
      .refine zs ?_;cases h;exact ⟨y,_,y,zl [0]⟩
     .rintro v58 rfl;refine zm<|A ?_;cases h;exact ⟨_,y,zl [0]⟩
     .rintro r' rfl env st hp;cases h;exact ⟨_,y,hp⟩
    .refine zs ?_;cases h;exact ⟨y,_,y,zl [0]⟩
   .rintro v59 rfl;refine zm<|ze<|A ?_;obtain ⟨o,ho,h⟩:=bs h;refine lpB ho (λz=>[(0,.ipt 1 [[cL c.L]] 0 0),(8,.mpt 0 0 0),(12,iA z.2)]) (λz=>[some (15,[(rK c.L d a (nS) (nS) (bA z.1))])]) (λb=>[(0,.ipt 1 [[cL c.L]] 0 0),(8,.mpt 0 0 0)]) (λb=>[some (15,[(rK c.L d a (nS) (nS) (bA b))])]) (pG f119 bA) (Xd [0]) ?_ ?_
    .rintro ⟨K,v65⟩ r h;refine ze<|A ?_;apply Xa h y<;>intro T h
     .refine zd<|ze<|zh ?_;obtain ⟨v66,q63,M,q64,h⟩:=bs2 h;refine A ?_;refine u<|sx [0] (E1 c.L d a K M y)<|zx (env0:=[(0,.ipt 1 [[cL c.L]] 0 0),(8,.mpt 0 0 0),(12,iA v65)]) (st0:=[some (15,[(rK c.L d a (nS) (nS) (bA (K||(!M))))])]) (zl [0])<|zo ?_;refine A ?_;cases h;exact ⟨_,y,zl [0]⟩
     .refine zs ?_;cases h;exact ⟨y,_,y,zl [0]⟩
    .rintro D rfl;refine zm ?_;obtain ⟨E,q67,h⟩:=bs h;refine A ?_;refine u<|sx [0] (E1 c.L d a D E y)<|zx (env0:=[(8,.mpt 0 0 0)]) (st0:=[some (15,[(rK c.L d a (nS) (nS) (bA (D||(!E))))])]) (zl [0])<|zo ?_;obtain ⟨v71,q68,h⟩:=bs h;refine rg y<|u<|mv y<|ph 1<|ph 1<|u<|sc [0,1,2] (zjn c.L d a [] [] (D||(!E)) q68) y y y y ⟨(.mpt y),t⟩ ⟨⟨_,y,(KA y ⟨(.nil0 y),(.nil0 y),(rnI y),t⟩)⟩,⟨y,mkI (λ_=>y)⟩,⟨y,mkI (λ_=>y)⟩,t⟩<|zo ?_;refine A ?_;refine ze<|A ?_;obtain ⟨o,ho,h⟩:=bs h;refine lpB ho (λz=>[(8,.mpt 0 0 0),(13,bA z.2.2.2.1),(14,iA z.2.2.2.2)]) (λz=>(sR c.L d a z.1 z.2.1 z.2.2.1 [])) (λb=>[(8,.mpt 0 0 0),(13,bA b.2.2.2)]) (λb=>(sR c.L d a b.1 b.2.1 b.2.2.1 [])) (pG f119 bA) (Xd [0]) ?_ ?_
     .rintro ⟨j,l,C,p,i⟩ r h;refine ze<|A ?_;apply Xa h y<;>intro U h
      .refine zd<|ze<|zh ?_;obtain ⟨e,q84,h⟩:=bs h;refine rg y<|u<|mv y<|u<|mv y<|u<|sx [0] (zfB c.L d a j l C i q84)<|zx (env0:=[(8,.mpt 0 0 0),(13,bA p),(14,iA i),(187,.tup [.agg (zA e.1),bA e.2])]) (st0:=(sR c.L d a j l C [])) (zl [0])<|A ?_;refine Xz (X:=Bool) (λz=>[(8,.mpt 0 0 0),(13,bA p),(14,iA i),(15,.mpt 1 0 0),(16,bA e.2)]) (λz=>(sR c.L d a j l z [some (3,[(zA e.1)])])) (λz=>E0 d c a j l p i e z=some r) ?_ ?_
       .refine A ?_;apply Xa h y<;>intro V h
        .obtain ⟨N,q87,h⟩:=bs h;refine XA [(8,_),(13,_),(14,_),(15,_),(16,_)] (sR c.L d a j l N [some (3,[(zA e.1)])]) [12] [0,1,2,3,4,5,6,7,8,9,10,11] [(205,_),(204,_),(203,_),(202,_),(201,_),(200,_),(199,_),(198,_),(197,_),(196,_),(195,_),(194,_)] 1 (Xj (z:=by exact ⟨(λ_ _=>⟨_,y,y,sx [0] (zfR c.L d a j l C i j l q87)<|⟨(.tup []),[],[(206,_)],y,y,y,y,Xk (z:=Xd [0,1])⟩⟩),t⟩)) ?_;exact ⟨N,h,zl [0,1]⟩
        .refine zd ?_;exact ⟨C,h,zl [0,1]⟩
       .rintro q h;refine A ?_;refine u<|sx [0] (zq c.L d a j l q (e.2||p) y)<|zx (env0:=[(8,.mpt 0 0 0),(14,iA i),(15,.mpt 1 0 0),(16,bA e.2)]) (st0:=(sR c.L d a j l (q||(!(e.2||p))) [some (3,[(zA e.1)])])) (zl [0,1])<|zo ?_;refine Xz (X:=T1×T1) (λz=>[(8,.mpt 0 0 0),(14,iA i)]) (λz=>(sR c.L d a z.1 z.2 (q||(!(e.2||p))) [])) (λz=>zes d c a p i e q z.1 z.2=some r) ?_ ?_
        .refine A ?_;apply Xa h y<;>intro W h
         .obtain ⟨s,q90,h⟩:=bs h;refine A ?_;refine u<|sx [] (zix (GK.mk e.1.Locals e.1.Stack) q90)<|zx (env0:=[(8,.mpt 0 0 0),(14,iA i),(214,.mpt 0 0 0),(220,.agg [.msl 1 0 (length s.1),.msl 2 0 (length s.2)])]) (st0:=(sR c.L d a j l (q||(!(e.2||p))) [sT s.1,sT s.2])) (zl [0,2,3])<|A ?_;exact (⟨⟨s.1,s.2⟩,h,zl [0]⟩)
         .refine zd ?_;exact ⟨⟨j,l⟩,h,zl [0]⟩
        .rintro ⟨F,G⟩ h;obtain ⟨O,q91,h⟩:=bs h;refine rg y<|u<|mv y<|u<|mv y<|u<|sx [0] (zjp c.L d a F G (q||(!(e.2||p))) i q91)<|zx (env0:=[(8,.mpt 0 0 0),(14,iA i)]) (st0:=(sR c.L d a F G O [])) (zl [0])<|zo ?_;obtain ⟨v99,q92,x,q93,h⟩:=bs2 h;refine A ?_;refine u<|sx [0] (zjo c.L d a F G O v99 q93)<|zx (env0:=[(8,.mpt 0 0 0),(14,iA i)]) (st0:=(sR c.L d a x.1 x.2.1 x.2.2 [])) (zl [0])<|zo ?_;obtain ⟨v101,q94,h⟩:=bs h;refine A ?_;refine A ?_;cases h;exact ⟨_,y,zl [0]⟩
      .refine zs ?_;cases h;exact ⟨y,_,y,zl [0]⟩
     .rintro ⟨v102,v103,v104,v105⟩ rfl;refine zm<|A ?_
      exact RT0⟩
def Bm(a:Bool):Option (Bool):=
  some a
def ziv(b:List za)(a:zr):Option (Bool):=
  (cond (!(a.C == [])) ((zO b a.C).bind λc=>some (!c)) (some false)).bind λd=>cond d (some false) (cond ((decide (38≤a.Op))&&(decide (a.Op≤41))) ((zg9 b a.C a.M).bind λe=>Bm e.2.2) (cond ((decide (42≤a.Op))&&(decide (a.Op≤44))) ((O4 b a.C a.M).bind λf=>cond f.2.2 ((zX b a.C).bind λi=>(idx b i).bind λj=>Bm (!j.Interface)) (Bm false)) (cond (a.Op == 45) ((zhE b a.C a.M).bind λl=>Bm l.2.2) (Bm true))))
instance (c:List za)(d:zr):PF prog 311 [.ipt 1 [[cL c]] 0 0,.agg (zn d)] (ziv c d) bA:=⟨λr h=>by
 refine zi func311 y kz y y<|A ?_;refine ze ?_;obtain ⟨x,B,h⟩:=bs h;refine A ?_;apply Xa h y<;>intro e h
 .refine A ?_;exact RT0
 .refine zd<|A ?_;refine Xz (X:=Bool) (λz=>[(5,bA z)]) (λz=>[]) (λz=>Bm z=some r) ?_ ?_
  .refine zh<|A ?_;apply Xa h y<;>intro f h
   .obtain ⟨j,C,h⟩:=bs h;refine A ?_;exact (⟨j.2.2,h,zl []⟩)
   .refine A ?_;apply Xa h y<;>intro i h
    .obtain ⟨l,o,h⟩:=bs h;refine A ?_
     rcases bb l.2.2 with a |a
     .replace h:=bT a h;obtain ⟨D,p,m,q,h⟩:=bs2 h;refine XA [(5,_)] [] [] [0,1,2,3,4,5,6,7,8,9,10,11,12,13,14,15] [(5,_),(68,_),(67,_),(66,_),(65,_),(64,_),(63,_),(62,_),(61,_),(60,_),(59,_),(58,_),(57,_),(56,_),(55,_),(54,_)] 0 (Xk (z:=Xd [])) ?_;exact ⟨(!m.Interface),h,zl []⟩
     .replace h:=bF a h;refine XA [(5,_)] [] [] [0,1,2,3,4,5,6,7,8,9,10,11,12,13,14,15] [(5,_),(68,_),(67,_),(66,_),(65,_),(64,_),(63,_),(62,_),(61,_),(60,_),(59,_),(58,_),(57,_),(56,_),(55,_),(54,_)] 0 (Xk (z:=Xd [])) ?_;exact ⟨false,h,zl []⟩
    .refine A ?_;apply Xa h y<;>intro b h
     .obtain ⟨n,s,h⟩:=bs h;refine A ?_;exact (⟨n.2.2,h,zl []⟩)
     .refine zd ?_;exact ⟨true,h,zl []⟩
  .rintro v h;refine A ?_
   exact RT0⟩
def zo6:Option (Bool):=
  some true
def zky(a:Int):zL (Int) (Unit) (Bool):=
  some (.inl (i64.wrap (a+1)))
def ET(e:List za)(b:zb)(a:Int):zL (Int) (Unit) (Bool):=
  cond (decide (a<(length b.Code:Int))) ((idx b.Code a).bind λc=>(ziv e c).bind λd=>cond (!d) (some (.inr (.inr false))) (some (.inl (i64.wrap (a+1))))) (some (.inr (.inl ())))
def zkx(d:List za)(a:Int)(c:zb):zL (Int) (Unit) (Bool):=
  (zp (λz=>ET d c z) 0).bind λo=>zH o (λb=>zky a) (λr=>some (.inr (.inr r)))
def EU(i:List za)(b:zb)(a:Int):zL (Int) (Unit) (Bool):=
  cond (decide (a<(length b.Traps:Int))) ((idx b.Traps a).bind λc=>(cond (!(c.C == [])) ((idx b.Traps a).bind λd=>(zX i d.C).bind λe=>some (decide (e<0))) (some false)).bind λf=>cond f (some (.inr (.inr false))) (some (.inl (i64.wrap (a+1))))) (some (.inr (.inl ())))
def zkw(c:List za)(d:Int)(a:zb):zL (Int) (Unit) (Bool):=
  (zp (λz=>EU c a z) 0).bind λo=>zH o (λb=>zkx c d a) (λr=>some (.inr (.inr r)))
def Eo(e:List za)(b:zb)(a:Int):zL (Int) (Unit) (Bool):=
  cond (decide (a<(length b.Params:Int))) ((idx b.Params a).bind λc=>(zO e c).bind λd=>cond (!d) (some (.inr (.inr false))) (some (.inl (i64.wrap (a+1))))) (some (.inr (.inl ())))
def ES(d:List za)(e:za)(c:Int):zL (Int) (Unit) (Bool):=
  cond (decide (c<(length e.Methods:Int))) ((idx e.Methods c).bind λa=>(cond (!(a.Ret == [86])) ((zO d a.Ret).bind λf=>some (!f)) (some false)).bind λi=>cond i (some (.inr (.inr false))) ((zp (λz=>Eo d a z) 0).bind λo=>zH o (λb=>zkw d c a) (λr=>some (.inr (.inr r))))) (some (.inr (.inl ())))
def zk1(a:List za)(c:za):Option (Bool):=
  (zp (λz=>ES a c z) 0).bind λo=>zH o (λb=>zo6) some
def Ep(c:List za)(b:za)(a:Int):zL (Int) (Unit) (Bool):=
  cond (decide (a<(length b.Fields:Int))) ((idx b.Fields a).bind λd=>(zO c d.Type_).bind λe=>cond (!e) (some (.inr (.inr false))) (some (.inl (i64.wrap (a+1))))) (some (.inr (.inl ())))
def ziw(a:List za)(c:za):Option (Bool):=
  (zp (λz=>Ep a c z) 0).bind λo=>zH o (λb=>zk1 a c) some
instance (a:List za)(c:za):PF prog 216 [.ipt 1 [[cL a]] 0 0,.agg (zf c)] (ziw a c) bA:=⟨λr h=>by
 refine zi func216 y kz y y<|A ?_;refine ze<|A ?_;obtain ⟨o,ho,h⟩:=bs h;refine lpB ho (λz=>[(0,.ipt 1 [[cL a]] 0 0),(3,.mpt 0 0 0),(5,iA z)]) (λz=>[some (6,[(zf c)])]) (λb=>[(0,.ipt 1 [[cL a]] 0 0),(3,.mpt 0 0 0)]) (λb=>[some (6,[(zf c)])]) (pG f216 bA) (Xd [0]) ?_ ?_
 .rintro S r h;refine ze<|A ?_;apply Xa h y<;>intro s h
  .refine zd<|ze<|zh ?_;obtain ⟨T,U,V,W,h⟩:=bs2 h;refine A ?_;apply Xa h y<;>intro v h
   .refine A ?_;refine zy ?_;cases h;exact ⟨_,y,_,y,Xb []⟩
   .refine zd<|A ?_;cases h;exact ⟨_,y,zl [0]⟩
  .refine zs ?_;cases h;exact ⟨y,_,y,zl [0]⟩
 .rintro ⟨⟩ rfl;refine zm<|ze<|A ?_;obtain ⟨o,ho,h⟩:=bs h;refine lpB ho (λz=>[(0,.ipt 1 [[cL a]] 0 0),(3,.mpt 0 0 0),(6,iA z)]) (λz=>[some (6,[(zf c)])]) (λb=>[]) (λb=>[]) (pG f216 bA) (Xd [0]) ?_ ?_
  .rintro d r h;refine ze<|A ?_;apply Xa h y<;>intro f h
   .refine zd<|ze<|zh ?_;obtain ⟨e,x,h⟩:=bs h;refine A ?_;refine ze ?_;obtain ⟨B,C,h⟩:=bs h;refine A ?_;apply Xa h y<;>intro i h
    .refine A ?_;refine zy ?_;cases h;exact ⟨_,y,_,y,Xb []⟩
    .refine zd<|ze<|A ?_;obtain ⟨o,ho,h⟩:=bs h;refine lpS ho (λz=>[(0,.ipt 1 [[cL a]] 0 0),(3,.mpt 0 0 0),(6,iA d),(7,.mpt 1 0 0),(8,iA z)]) (λz=>[some (6,[(zf c)]),some (10,[(zc e)])]) (λb=>[(0,.ipt 1 [[cL a]] 0 0),(3,.mpt 0 0 0),(6,iA d),(7,.mpt 1 0 0)]) (λb=>[some (6,[(zf c)]),some (10,[(zc e)])]) (pG f216 bA) (Xd [0,1]) ?_ ?_ ?_
     .rintro D r h;refine ze<|A ?_;apply Xa h y<;>intro j h
      .refine zd<|ze<|zh ?_;obtain ⟨E,F,G,H,h⟩:=bs2 h;refine A ?_;apply Xa h y<;>intro l h
       .refine A ?_;refine zy ?_;cases h;exact ⟨_,y,_,y,Xb []⟩
       .refine zd<|A ?_;cases h;exact ⟨_,y,zl [0,1]⟩
      .refine zs ?_;cases h;exact ⟨y,_,y,zl [0,1]⟩
     .rintro ⟨⟩ rfl;refine zm<|ze<|A ?_;obtain ⟨o,ho,h⟩:=bs h;refine lpS ho (λz=>[(0,.ipt 1 [[cL a]] 0 0),(3,.mpt 0 0 0),(6,iA d),(7,.mpt 1 0 0),(9,iA z)]) (λz=>[some (6,[(zf c)]),some (10,[(zc e)])]) (λb=>[(0,.ipt 1 [[cL a]] 0 0),(3,.mpt 0 0 0),(6,iA d),(7,.mpt 1 0 0)]) (λb=>[some (6,[(zf c)]),some (10,[(zc e)])]) (pG f216 bA) (Xd [0,1]) ?_ ?_ ?_
      .rintro I r h;refine ze<|A ?_;apply Xa h y<;>intro m h
       .refine zd<|ze<|zh ?_;obtain ⟨J,K,L,M,h⟩:=bs2 h;refine A ?_;apply Xa h y<;>intro n h
        .refine A ?_;refine zy ?_;cases h;exact ⟨_,y,_,y,Xb []⟩
        .refine zd<|A ?_;cases h;exact ⟨_,y,zl [0,1]⟩
       .refine zs ?_;cases h;exact ⟨y,_,y,zl [0,1]⟩
      .rintro ⟨⟩ rfl;refine zm<|A ?_;obtain ⟨o,ho,h⟩:=bs h;refine lpS ho (λz=>[(0,.ipt 1 [[cL a]] 0 0),(3,.mpt 0 0 0),(6,iA d),(7,.mpt 1 0 0),(10,iA z)]) (λz=>[some (6,[(zf c)]),some (10,[(zc e)])]) (λb=>[(0,.ipt 1 [[cL a]] 0 0),(3,.mpt 0 0 0),(6,iA d)]) (λb=>[some (6,[(zf c)])]) (pG f216 bA) (Xd [0,1]) ?_ ?_ ?_
       .rintro N r h;refine ze<|A ?_;apply Xa h y<;>intro p h
        .refine zd<|ze<|zh ?_;obtain ⟨O,P,Q,R,h⟩:=bs2 h;refine A ?_;apply Xa h y<;>intro q h
         .refine A ?_;refine zy ?_;cases h;exact ⟨_,y,_,y,Xb []⟩
         .refine zd<|A ?_;cases h;exact ⟨_,y,zl [0,1]⟩
        .refine zs ?_;cases h;exact ⟨y,_,y,zl [0]⟩
       .rintro ⟨⟩ rfl;refine zm<|A ?_;cases h;exact ⟨_,y,zl [0]⟩
       .rintro r' rfl env st hp;cases h;exact ⟨_,y,hp⟩
      .rintro r' rfl env st hp;cases h;exact ⟨_,y,hp⟩
     .rintro r' rfl env st hp;cases h;exact ⟨_,y,hp⟩
   .refine zs ?_;cases h;exact ⟨y,_,y,zl []⟩
  .rintro ⟨⟩ rfl;refine zm<|A ?_
   exact RT0⟩
def WY(a:zb)(b:zb):Option (Bool):=
  (zkW a.Params b.Params).bind λc=>some (c&&(a.Ret == b.Ret))
theorem zme(a:zb)(b:zb){r:Bool}(h:WY a b=some r):Xm prog 312 [.agg (zc a),.agg (zc b)] (bA r):=by
 refine zi func312 y kz y y<|A ?_;obtain ⟨c,d,h⟩:=bs h;refine A ?_;exact RT0
instance (a:zb)(b:zb):PF prog 312 [.agg (zc a),.agg (zc b)] (WY a b) bA:=⟨λ_=>zme a b⟩
def zoZ:Option (T0×Bool):=
  some ([],false)
def EJ(e:List za)(n:T0)(d:T1)(a:Int):zL (Int) (Unit) (T0×Bool):=
  cond (decide (a<((length d):Int))) ((idx d a).bind λf=>(zX e f).bind λi=>(idx e i).bind λb=>(Gj b n).bind λc=>(cond (decide (0≤c)) ((idx b.Methods c).bind λj=>some (!j.Static)) (some false)).bind λl=>cond l ((idx d a).bind λm=>some (.inr (.inr (m,true)))) (some (.inl (i64.wrap (a+1))))) (some (.inr (.inl ())))
def zhQ(a:List za)(c:T0)(e:T0):Option (T0×Bool):=
  (zX a c).bind λd=>(cond (decide (d<0)) (some true) ((idx a d).bind λf=>some f.Interface)).bind λi=>cond i (some ([],false)) ((GO a c).bind λj=>(zp (λz=>EJ a e j z) 0).bind λo=>zH o (λb=>zoZ) some)
instance (a:List za)(e:T0)(d:T0):PF prog 352 [.ipt 1 [[cL a]] 0 0,sA e,sA d] (zhQ a e d) (λr=>(.tup [sA r.1,bA r.2])):=⟨λr h=>by
 refine zi func352 y kz y y<|A ?_;obtain ⟨H,I,h⟩:=bs h;refine A ?_;refine ze ?_;obtain ⟨J,K,h⟩:=bs h;refine A ?_;apply Xa h y<;>intro j h
 .refine A ?_;exact RT0
 .refine zd ?_;obtain ⟨c,m,h⟩:=bs h;refine A ?_;refine u<|sx [] (H6 a e m)<|zx (env0:=[(0,.ipt 1 [[cL a]] 0 0),(2,sA d),(30,.msl 0 0 (length c))]) (st0:=[sT c]) (zl [0])<|A ?_;refine ze<|A ?_;obtain ⟨o,ho,h⟩:=bs h;refine lpB ho (λz=>[(0,.ipt 1 [[cL a]] 0 0),(2,sA d),(9,.msl 0 0 (length c)),(10,iA z)]) (λz=>[sT c]) (λb=>[]) (λb=>[]) (pG f352 (λr=>.tup [sA r.1,bA r.2])) (Xd [0]) ?_ ?_
  .rintro n r h;refine ze<|A ?_;apply Xa h y<;>intro f h
   .refine zd<|ze<|zh ?_;obtain ⟨p,q,s,v,l,x,h⟩:=bs3 h;refine rdA [(0,_),(2,_),(9,_),(10,_),(11,_)] [sT c,some (6,[(zf l)])] [12,13] [0,1,2,3,4,5,6,7,8,9,10,11] [(48,_),(47,_),(46,_),(45,_),(44,_),(43,_),(42,_),(41,_),(40,_),(39,_),(38,_),(37,_)] 2 (Xj (z:=by exact ⟨(λ_ _=>⟨_,y,y,al 1 ti y<|⟨(.mpt 1 0 0),[],[(11,_)],y,y,y,y,Xj (z:=by exact ⟨nv,(λ_ _=>⟨_,y,y,sto ti y y y<|⟨.any,[],[],y,y,y,t,Xk (z:=Xd [0,1])⟩⟩),t⟩)⟩⟩),nw,t⟩)) ?_;obtain ⟨B,C,h⟩:=bs h;refine A ?_;obtain ⟨D,E,h⟩:=bs h;refine A ?_;apply Xa h y<;>intro i h
    .obtain ⟨F,G,h⟩:=bs h;refine A ?_;refine zy ?_;cases h;exact ⟨_,y,_,y,Xb []⟩
    .refine zd<|A ?_;cases h;exact ⟨_,y,zl [0]⟩
   .refine zs ?_;cases h;exact ⟨y,_,y,zl []⟩
  .rintro ⟨⟩ rfl;refine zm<|A ?_
   exact RT0⟩
def zkZ(c:List za)(e:za)(d:zb):Option (Bool):=
  cond e.Interface (some true) ((zhQ c e.Name d.Name).bind λa=>cond (!a.2) (some false) ((zX c a.1).bind λf=>(idx c f).bind λb=>(Gj b d.Name).bind λi=>(idx b.Methods i).bind λj=>(WY j d).bind λl=>some l))
def zgT(a:Int)(b:Bool):zL (Int) (Unit) (Bool):=
  cond b (some (.inr (.inr false))) (some (.inl (i64.wrap (a+1))))
def Er(d:List za)(e:T1)(f:zb)(a:Int):zL (Int) (Unit) (Bool):=
  cond (decide (a<(length e:Int))) ((idx e a).bind λi=>(zX d i).bind λj=>(idx d j).bind λb=>(Gj b f.Name).bind λc=>cond (decide (0≤c)) ((idx b.Methods c).bind λl=>(WY l f).bind λm=>zgT a (!m)) (zgT a false)) (some (.inr (.inl ())))
def zhb(a:List za)(d:za)(e:T1)(c:zb):Option (Bool):=
  (zp (λz=>Er a e c z) 0).bind λo=>zH o (λb=>zkZ a d c) some
theorem zk0(e:List za)(d:za)(f:T1)(a:zb){r:Bool}(h:zhb e d f a=some r):Xm prog 314 [.ipt 1 [[cL e]] 0 0,.agg (zf d),tL f,.agg (zc a)] (bA r):=by
 refine zi func314 y kz y y<|A ?_;refine ze<|A ?_;obtain ⟨o,ho,h⟩:=bs h;refine lpB ho (λz=>[(0,.ipt 1 [[cL e]] 0 0),(2,tL f),(5,.mpt 0 0 0),(7,.mpt 1 0 0),(9,iA z)]) (λz=>[some (6,[(zf d)]),some (10,[(zc a)])]) (λb=>[(0,.ipt 1 [[cL e]] 0 0),(5,.mpt 0 0 0),(7,.mpt 1 0 0)]) (λb=>[some (6,[(zf d)]),some (10,[(zc a)])]) (pG f314 bA) (Xd [0,1]) ?_ ?_
 .rintro i r h;refine ze<|A ?_;apply Xa h y<;>intro j h
  .refine zd<|ze<|zh ?_;obtain ⟨x,B,C,D,p,E,h⟩:=bs3 h;refine rdA [(0,_),(2,_),(5,_),(7,_),(9,_),(10,_)] [some (6,[(zf d)]),some (10,[(zc a)]),some (6,[(zf p)])] [12,13] [0,1,2,3,4,5,6,7,8,9,10,11] [(32,_),(31,_),(30,_),(29,_),(28,_),(27,_),(26,_),(25,_),(24,_),(23,_),(22,_),(21,_)] 2 (Xj (z:=by exact ⟨(λ_ _=>⟨_,y,y,al 2 ti y<|⟨(.mpt 2 0 0),[],[(10,_)],y,y,y,y,Xj (z:=by exact ⟨nv,(λ_ _=>⟨_,y,y,sto ti y y y<|⟨.any,[],[],y,y,y,t,Xk (z:=Xd [0,1,2])⟩⟩),t⟩)⟩⟩),nw,t⟩)) ?_;obtain ⟨q,F,h⟩:=bs h;refine A ?_;refine Xz (X:=Bool) (λz=>[(0,.ipt 1 [[cL e]] 0 0),(2,tL f),(5,.mpt 0 0 0),(7,.mpt 1 0 0),(9,iA i),(48,bA z)]) (λz=>[some (6,[(zf d)]),some (10,[(zc a)])]) (λz=>zgT i z=some r) ?_ ?_
   .rcases bb (decide (0≤q)) with c |c
    .replace h:=bT c h;obtain ⟨G,H,s,I,h⟩:=bs2 h;exact rdQ [] [0,1,2,3,4,5,6,7,8,9,10,11] [(48,_),(47,_),(46,_),(45,_),(44,_),(43,_),(42,_),(41,_),(40,_),(39,_),(38,_),(37,_)] 0 (Xk (z:=by exact ⟨(!s),h,Xd [0,1]⟩))
    .replace h:=bF c h;exact rdQ [] [0,1,2,3,4,5,6,7,8,9,10,11] [(48,_),(47,_),(46,_),(45,_),(44,_),(43,_),(42,_),(41,_),(40,_),(39,_),(38,_),(37,_)] 0 (Xk (z:=by exact ⟨false,h,Xd [0,1]⟩))
   .rintro J h;apply Xa h y<;>intro l h
    .refine A ?_;refine zy ?_;cases h;exact ⟨_,y,_,y,Xb []⟩
    .refine zd<|A ?_;cases h;exact ⟨_,y,zl [0,1]⟩
  .refine zs ?_;cases h;exact ⟨y,_,y,zl [0,1]⟩
 .rintro ⟨⟩ rfl;refine zm<|ze<|A ?_;apply Xa h y<;>intro m h
  .refine A ?_;exact RT0
  .refine zd ?_;obtain ⟨K,L,h⟩:=bs h;refine A ?_;refine ze<|A ?_;apply Xa h y<;>intro n h
   .refine A ?_;exact RT0
   .refine zd ?_;obtain ⟨M,N,v,O,h⟩:=bs2 h;refine rdA [(7,.mpt 0 0 0),(14,.mpt 1 0 0)] [some (10,[(zc a)]),some (6,[(zf v)])] [9,10] [0,1,2,3,4,5,6,7,8] [(70,_),(69,_),(68,_),(67,_),(66,_),(65,_),(64,_),(63,_),(62,_)] 2 (Xj (z:=by exact ⟨(λ_ _=>⟨_,y,y,al 2 ti y<|⟨(.mpt 2 0 0),[],[(14,_)],y,y,y,y,Xj (z:=by exact ⟨nv,(λ_ _=>⟨_,y,y,sto ti y y y<|⟨.any,[],[],y,y,y,t,Xk (z:=Xd [1,2])⟩⟩),t⟩)⟩⟩),nw,t⟩)) ?_;obtain ⟨P,Q,R,S,T,U,h⟩:=bs3 h;refine rdA [(8,_)] [] [] [0,1,2,3,4,5,6,7,8,9,10] [(8,_),(80,_),(79,_),(78,_),(77,_),(76,_),(75,_),(74,_),(73,_),(72,_),(71,_)] 0 (Xk (z:=Xd [])) ?_;exact RT0
instance (a:List za)(b:za)(c:T1)(d:zb):PF prog 314 [.ipt 1 [[cL a]] 0 0,.agg (zf b),tL c,.agg (zc d)] (zhb a b c d) bA:=⟨λ_=>zk0 a b c d⟩
def zkv:Option (Bool):=
  some true
def zku(a:Int):zL (Int) (Unit) (Bool):=
  some (.inl (i64.wrap (a+1)))
def EW(f:List za)(i:za)(c:T1)(b:za)(a:Int):zL (Int) (Unit) (Bool):=
  cond (decide (a<(length b.Methods:Int))) ((idx b.Methods a).bind λd=>(zhb f i c d).bind λe=>cond (!e) (some (.inr (.inr false))) (some (.inl (i64.wrap (a+1))))) (some (.inr (.inl ())))
def EV(d:List za)(j:za)(a:T1)(c:Int):zL (Int) (Unit) (Bool):=
  cond (decide (c<((length a):Int))) ((idx a c).bind λe=>(zX d e).bind λf=>(idx d f).bind λi=>(zp (λz=>EW d j a i z) 0).bind λo=>zH o (λb=>zku c) (λr=>some (.inr (.inr r)))) (some (.inr (.inl ())))
def zhZ(a:List za)(c:za):Option (Bool):=
  (O0 a c.Name).bind λd=>(zp (λz=>EV a c d z) 0).bind λo=>zH o (λb=>zkv) some
def zkt(a:Int):zL (Int) (Unit) (Bool):=
  some (.inl (i64.wrap (a+1)))
def zgw(a:Int):zL (Int) (Unit) (Bool):=
  some (.inl (i64.wrap (a+1)))
def zfx(a:Int)(b:Bool):zL (Int) (Unit) (Bool):=
  cond b (some (.inr (.inr false))) (zgw a)
def EA(f:List za)(e:za)(i:T1)(b:Int)(a:Int):zL (Int) (Unit) (Bool):=
  cond (decide (a<(length i:Int))) ((idx i a).bind λj=>(zX f j).bind λl=>(idx f l).bind λc=>(idx e.Methods b).bind λm=>(Gj c m.Name).bind λd=>(cond (decide (d<0)) (some true) ((idx e.Methods b).bind λn=>some (n.Name == [36,105,110,105,116]))).bind λo=>cond o (zgw a) ((idx c.Methods d).bind λp=>(idx e.Methods b).bind λq=>(WY p q).bind λs=>cond (!s) (zfx a true) ((idx c.Methods d).bind λv=>cond v.Static (zfx a true) ((idx e.Methods b).bind λx=>zfx a x.Static)))) (some (.inr (.inl ())))
def Ez(d:List za)(c:za)(e:T1)(a:Int):zL (Int) (Unit) (Bool):=
  cond (decide (a<(length c.Methods:Int))) ((zp (λz=>EA d c e a z) 0).bind λo=>zH o (λb=>zkt a) (λr=>some (.inr (.inr r)))) (some (.inr (.inl ())))
def ziu(a:List za)(c:za):Option (Bool):=
  (GO a c.Name).bind λd=>(XJ d 1 (length d:Int)).bind λe=>(zp (λz=>Ez a c e z) 0).bind λo=>zH o (λb=>zhZ a c) some
instance (j:List za)(c:za):PF prog 217 [.ipt 1 [[cL j]] 0 0,.agg (zf c)] (ziu j c) bA:=⟨λr h=>by
 refine zi func217 y kz y y<|A ?_;obtain ⟨G,V,D,S,h⟩:=bs2 h;refine A ?_;refine u<|sx [] (H6 j c.Name V)<|zx (env0:=[(0,.ipt 1 [[cL j]] 0 0),(3,.mpt 0 0 0),(17,.msl 1 0 (length G))]) (st0:=[some (6,[(zf c)]),sT G]) (zl [0,1])<|zx (env0:=[(0,.ipt 1 [[cL j]] 0 0),(3,.mpt 0 0 0),(17,tL G)]) (st0:=[some (6,[(zf c)])]) (zl [0])<|u<|slI (a:=1) (b:=(length G:Int)) ti y ti y y (K5 y S) y S<|A ?_;refine ze<|A ?_;obtain ⟨o,ho,h⟩:=bs h;refine lpB ho (λz=>[(0,.ipt 1 [[cL j]] 0 0),(3,.mpt 0 0 0),(5,tL D),(6,iA z)]) (λz=>[some (6,[(zf c)])]) (λb=>[(0,.ipt 1 [[cL j]] 0 0),(3,.mpt 0 0 0)]) (λb=>[some (6,[(zf c)])]) (pG f217 bA) (Xd [0]) ?_ ?_
 .rintro l r h;refine ze<|A ?_;apply Xa h y<;>intro L h
  .refine zd<|ze<|zh<|A ?_;obtain ⟨o,ho,h⟩:=bs h;refine lpS ho (λz=>[(0,.ipt 1 [[cL j]] 0 0),(3,.mpt 0 0 0),(5,tL D),(6,iA l),(7,iA z)]) (λz=>[some (6,[(zf c)])]) (λb=>[(0,.ipt 1 [[cL j]] 0 0),(3,.mpt 0 0 0),(5,tL D),(6,iA l)]) (λb=>[some (6,[(zf c)])]) (pG f217 bA) (Xd [0]) ?_ ?_ ?_
   .rintro q r h;refine ze<|A ?_;apply Xa h y<;>intro M h
    .refine zd ?_;refine Xz (X:=Unit) (λz=>[(0,.ipt 1 [[cL j]] 0 0),(3,.mpt 0 0 0),(5,tL D),(6,iA l),(7,iA q)]) (λz=>[some (6,[(zf c)])]) (λz=>zgw q=some r) ?_ ?_
     .refine zh ?_;obtain ⟨W,Y,Z,q61,f,q62,h⟩:=bs3 h;refine rdA [(0,_),(3,_),(5,_),(6,_),(7,_),(8,_)] [some (6,[(zf c)]),some (6,[(zf f)])] [12,13] [0,1,2,3,4,5,6,7,8,9,10,11] [(43,_),(42,_),(41,_),(40,_),(39,_),(38,_),(37,_),(36,_),(35,_),(34,_),(33,_),(32,_)] 2 (Xj (z:=by exact ⟨(λ_ _=>⟨_,y,y,al 1 ti y<|⟨(.mpt 1 0 0),[],[(8,_)],y,y,y,y,Xj (z:=by exact ⟨nv,(λ_ _=>⟨_,y,y,sto ti y y y<|⟨.any,[],[],y,y,y,t,Xk (z:=Xd [0,1])⟩⟩),t⟩)⟩⟩),nw,t⟩)) ?_;obtain ⟨v53,q63,p,q64,h⟩:=bs2 h;refine rdA [(0,_),(3,_),(5,_),(6,_),(7,_),(8,_),(9,_)] [some (6,[(zf c)]),some (6,[(zf f)])] [] [0,1,2,3,4,5,6,7,8] [(9,_),(51,_),(50,_),(49,_),(48,_),(47,_),(46,_),(45,_),(44,_)] 0 (Xk (z:=Xd [0,1])) ?_;refine ze ?_;obtain ⟨v56,q67,h⟩:=bs h;refine A ?_;apply Xa h y<;>intro N h
      .refine zs ?_;exact ⟨(),h,zl [0]⟩
      .refine zd ?_;refine Xz (X:=Bool) (λz=>[(0,.ipt 1 [[cL j]] 0 0),(3,.mpt 0 0 0),(5,tL D),(6,iA l),(7,iA q),(90,bA z)]) (λz=>[some (6,[(zf c)])]) (λz=>zfx q z=some r) ?_ ?_
       .obtain ⟨s,v,x,B,e,I,h⟩:=bs3 h
        rcases bb (!e) with d |d
        .replace h:=bT d h;exact rdQ [] [0,1,2,3,4,5,6,7,8,9,10,11,12,13,14,15,16,17,18,19,20,21,22,23,24,25,26,27] [(90,_),(89,_),(88,_),(87,_),(86,_),(85,_),(84,_),(83,_),(82,_),(81,_),(80,_),(79,_),(78,_),(77,_),(76,_),(75,_),(74,_),(73,_),(72,_),(71,_),(70,_),(69,_),(68,_),(67,_),(66,_),(65,_),(64,_),(63,_)] 0 (Xk (z:=by exact ⟨true,h,Xd [0]⟩))
        .replace h:=bF d h;obtain ⟨i,C,h⟩:=bs h
         rcases bb i.Static with m |m
         .replace h:=bT m h;exact Gk [] [27,26,25,24,23,22,21,20,19,18,17,16,15,14,13,12,11,10,9,8,7,6,5,4,3,2,1,0] [(90,bA true),(89,.lit undef),(88,.lit undef),(87,.lit undef),(86,.lit undef),(85,.lit undef),(84,.lit undef),(83,bA i.Static),(82,bA i.Static),(81,bA i.Static),(80,.ipt 10 (map zc f.Methods) (Int.toNat p) 3),(79,.ipt 10 (map zc f.Methods) (Int.toNat p) 0),(78,iA p),(77,.isl 10 (map zc f.Methods)),(76,.mpt 1 0 5),(75,bA (!e)),(74,bA (!e)),(73,bA e),(72,.agg (zc x)),(71,.ipt 10 (map zc c.Methods) (Int.toNat l) 0),(70,iA l),(69,.isl 10 (map zc c.Methods)),(68,.mpt 0 0 5),(67,.agg (zc s)),(66,.ipt 10 (map zc f.Methods) (Int.toNat p) 0),(65,iA p),(64,.isl 10 (map zc f.Methods)),(63,.mpt 1 0 5)] 0 kz kz y kz (ZC ⟨pe,pe,pe,pe,pe,pe,pe,pe,pe,(λ_=>pag (b:=(!e)) y y y y d y (ldI ti y (zz C).2.2 y<|w)),(λ_=>pag (b:=(!e)) y y y y d y (fa ti y y y<|w)),(λ_=>pag (b:=(!e)) y y y y d y (ixI ti y ti y y y C<|w)),pe,(λ_=>pag (b:=(!e)) y y y y d y (ld ti y y<|w)),(λ_=>pag (b:=(!e)) y y y y d y (fa ti y y y<|w)),pe,pe,(pb y (pc (zme s x I) y y y w)),(pb y (ldI ti y (zz B).2.2 y w)),(pb y (ixI ti y ti y y y B w)),pe,(pb y (ld ti y y w)),(pb y (fa ti y y y w)),(pb y (ldI ti y (zz v).2.2 y w)),(pb y (ixI ti y ti y y y v w)),pe,(pb y (ld ti y y w)),(pb y (fa ti y y y w)),t⟩ ⟨true,h,zl [0]⟩)
         .replace h:=bF m h;obtain ⟨E,J,h⟩:=bs h;exact Gk [] [27,26,25,24,23,22,21,20,19,18,17,16,15,14,13,12,11,10,9,8,7,6,5,4,3,2,1,0] [(90,bA E.Static),(89,bA E.Static),(88,.ipt 10 (map zc c.Methods) (Int.toNat l) 3),(87,.ipt 10 (map zc c.Methods) (Int.toNat l) 0),(86,iA l),(85,.isl 10 (map zc c.Methods)),(84,.mpt 0 0 5),(83,bA i.Static),(82,bA i.Static),(81,bA i.Static),(80,.ipt 10 (map zc f.Methods) (Int.toNat p) 3),(79,.ipt 10 (map zc f.Methods) (Int.toNat p) 0),(78,iA p),(77,.isl 10 (map zc f.Methods)),(76,.mpt 1 0 5),(75,bA (!e)),(74,bA (!e)),(73,bA e),(72,.agg (zc x)),(71,.ipt 10 (map zc c.Methods) (Int.toNat l) 0),(70,iA l),(69,.isl 10 (map zc c.Methods)),(68,.mpt 0 0 5),(67,.agg (zc s)),(66,.ipt 10 (map zc f.Methods) (Int.toNat p) 0),(65,iA p),(64,.isl 10 (map zc f.Methods)),(63,.mpt 1 0 5)] 0 kz kz y kz (ZC ⟨pe,(λ_=>pag (b:=i.Static) y y y y m y (ldI ti y (zz J).2.2 y<|w)),(λ_=>pag (b:=i.Static) y y y y m y (fa ti y y y<|w)),(λ_=>pag (b:=i.Static) y y y y m y (ixI ti y ti y y y J<|w)),pe,(λ_=>pag (b:=i.Static) y y y y m y (ld ti y y<|w)),(λ_=>pag (b:=i.Static) y y y y m y (fa ti y y y<|w)),pe,pe,(λ_=>pag (b:=(!e)) y y y y d y (ldI ti y (zz C).2.2 y<|w)),(λ_=>pag (b:=(!e)) y y y y d y (fa ti y y y<|w)),(λ_=>pag (b:=(!e)) y y y y d y (ixI ti y ti y y y C<|w)),pe,(λ_=>pag (b:=(!e)) y y y y d y (ld ti y y<|w)),(λ_=>pag (b:=(!e)) y y y y d y (fa ti y y y<|w)),pe,pe,(pb y (pc (zme s x I) y y y w)),(pb y (ldI ti y (zz B).2.2 y w)),(pb y (ixI ti y ti y y y B w)),pe,(pb y (ld ti y y w)),(pb y (fa ti y y y w)),(pb y (ldI ti y (zz v).2.2 y w)),(pb y (ixI ti y ti y y y v w)),pe,(pb y (ld ti y y w)),(pb y (fa ti y y y w)),t⟩ ⟨E.Static,h,zl [0]⟩)
       .rintro v62 h;apply Xa h y<;>intro O h
        .refine A ?_;refine zy ?_;cases h;exact ⟨_,y,_,y,Xb []⟩
        .refine zd ?_;exact ⟨(),h,zl [0]⟩
     .rintro ⟨⟩ h;refine A ?_;cases h;exact ⟨_,y,zl [0]⟩
    .refine zs ?_;cases h;exact ⟨y,_,y,zl [0]⟩
   .rintro ⟨⟩ rfl;refine zm<|A ?_;cases h;exact ⟨_,y,zl [0]⟩
   .rintro r' rfl env st hp;cases h;exact ⟨_,y,hp⟩
  .refine zs ?_;cases h;exact ⟨y,_,y,zl [0]⟩
 .rintro ⟨⟩ rfl;refine zm ?_;obtain ⟨n,T,h⟩:=bs h;refine A ?_;refine u<|sx [] (zit j c.Name T)<|zx (env0:=[(0,.ipt 1 [[cL j]] 0 0),(3,.mpt 0 0 0),(94,.msl 1 0 (length n))]) (st0:=[some (6,[(zf c)]),sT n]) (zl [0,1])<|A ?_;refine ze<|A ?_;obtain ⟨o,ho,h⟩:=bs h;refine lpB ho (λz=>[(0,.ipt 1 [[cL j]] 0 0),(3,.mpt 0 0 0),(10,.msl 1 0 (length n)),(11,iA z)]) (λz=>[some (6,[(zf c)]),sT n]) (λb=>[]) (λb=>[]) (pG f217 bA) (Xd [0,1]) ?_ ?_
  .rintro K r h;refine ze<|A ?_;apply Xa h y<;>intro P h
   .refine zd<|ze<|zh ?_;obtain ⟨v75,q91,v76,q92,F,q93,h⟩:=bs3 h;refine rdA [(0,_),(3,_),(10,_),(11,_),(12,_)] [some (6,[(zf c)]),sT n,some (6,[(zf F)])] [12,13] [0,1,2,3,4,5,6,7,8,9,10,11] [(112,_),(111,_),(110,_),(109,_),(108,_),(107,_),(106,_),(105,_),(104,_),(103,_),(102,_),(101,_)] 2 (Xj (z:=by exact ⟨(λ_ _=>⟨_,y,y,al 2 ti y<|⟨(.mpt 2 0 0),[],[(12,_)],y,y,y,y,Xj (z:=by exact ⟨nv,(λ_ _=>⟨_,y,y,sto ti y y y<|⟨.any,[],[],y,y,y,t,Xk (z:=Xd [0,1,2])⟩⟩),t⟩)⟩⟩),nw,t⟩)) ?_;refine A ?_;obtain ⟨o,ho,h⟩:=bs h;refine lpS ho (λz=>[(0,.ipt 1 [[cL j]] 0 0),(3,.mpt 0 0 0),(10,.msl 1 0 (length n)),(11,iA K),(12,.mpt 2 0 0),(13,iA z)]) (λz=>[some (6,[(zf c)]),sT n,some (6,[(zf F)])]) (λb=>[(0,.ipt 1 [[cL j]] 0 0),(3,.mpt 0 0 0),(10,.msl 1 0 (length n)),(11,iA K)]) (λb=>[some (6,[(zf c)]),sT n]) (pG f217 bA) (Xd [0,1,2]) ?_ ?_ ?_
    .rintro v81 r h;refine ze<|A ?_;apply Xa h y<;>intro Q h
     .refine zd<|ze<|zh ?_;obtain ⟨U,q99,v83,R,h⟩:=bs2 h;refine rdA [(0,_),(3,_),(10,_),(11,_),(12,_),(13,_),(129,_)] [some (6,[(zf c)]),sT n,some (6,[(zf F)])] [] [0,1,2,3,4,5,6,7,8,9] [(129,_),(128,_),(127,_),(126,_),(125,_),(124,_),(123,_),(122,_),(121,_),(120,_)] 0 (Xk ⟨peC,peC,peC,peC,peC,peC,peC,peC,(by exact pb y (pcs (zk0 j c n U R) y y (.cons (si y) (.cons (si y) (.cons (X9 y (λ_=>y)) (.cons (si y) .nil)))) XD<|w)),peC,t⟩ (Xd [0,1,2])) ?_;apply Xa h y<;>intro H h
      .refine A ?_;refine zy ?_;cases h;exact ⟨_,y,_,y,Xb []⟩
      .refine zd<|A ?_;cases h;exact ⟨_,y,zl [0,1,2]⟩
     .refine zs ?_;cases h;exact ⟨y,_,y,zl [0,1]⟩
    .rintro ⟨⟩ rfl;refine zm<|A ?_;cases h;exact ⟨_,y,zl [0,1]⟩
    .rintro r' rfl env st hp;cases h;exact ⟨_,y,hp⟩
   .refine zs ?_;cases h;exact ⟨y,_,y,zl []⟩
  .rintro ⟨⟩ rfl;refine zm<|A ?_
   exact RT0⟩
def zo2:Option (Int):=
  some 0
def EF(b:zB)(a:Int):zL (Int) (Unit) (Int):=
  cond (decide (a<(length b.L:Int))) ((idx b.L a).bind λc=>(ziu b.L c).bind λd=>cond (!d) (some (.inr (.inr 1))) (some (.inl (i64.wrap (a+1))))) (some (.inr (.inl ())))
def zkp(a:zB):Option (Int):=
  (zp (λz=>EF a z) 0).bind λo=>zH o (λb=>zo2) some
def EG(a:zB)(b:Int):zL (Int) (Unit) (Int):=
  cond (decide (b<(length a.L:Int))) ((idx a.L b).bind λc=>(ziw a.L c).bind λd=>cond (!d) (some (.inr (.inr 4))) (some (.inl (i64.wrap (b+1))))) (some (.inr (.inl ())))
def Bc(c:Option zB):Option (Int):=
  Um c (none) (λa=>(zp (λz=>EG a z) 0).bind λo=>zH o (λb=>zkp a) some)
theorem zhW(a:Option zB){r:Int}(h:Bc a=some r):Xm prog 122 [XB 1 U6 a] (iA r):=by
 refine zi func122 y kz y y ?_;unfold Bc at h
 rcases a with _ |c
 .replace h:=oeN h;refine A ?_;refine ze<|A ?_;cases h
 .replace h:=oeS h;refine A ?_;refine ze<|A ?_;obtain ⟨o,ho,h⟩:=bs h;refine lpB ho (λz=>[(0,.ipt 1 [[cL c.L]] 0 0),(3,iA z)]) (λz=>[]) (λb=>[(0,.ipt 1 [[cL c.L]] 0 0)]) (λb=>[]) (pG f122 iA) (Xd []) ?_ ?_
  .rintro q r h;refine ze<|A ?_;apply Xa h y<;>intro f h
   .refine zd<|ze<|zh ?_;obtain ⟨s,v,x,B,h⟩:=bs2 h;refine A ?_;apply Xa h y<;>intro i h
    .refine A ?_;refine zy ?_;cases h;exact ⟨_,y,_,y,Xb []⟩
    .refine zd<|A ?_;cases h;exact ⟨_,y,zl []⟩
   .refine zs ?_;cases h;exact ⟨y,_,y,zl []⟩
  .rintro ⟨⟩ rfl;refine zm<|ze<|A ?_;obtain ⟨o,ho,h⟩:=bs h;refine lpB ho (λz=>[(0,.ipt 1 [[cL c.L]] 0 0),(4,iA z)]) (λz=>[]) (λb=>[]) (λb=>[]) (pG f122 iA) (Xd []) ?_ ?_
   .rintro j r h;refine ze<|A ?_;apply Xa h y<;>intro d h
    .refine zd<|ze<|zh ?_;obtain ⟨l,m,n,p,h⟩:=bs2 h;refine A ?_;apply Xa h y<;>intro e h
     .refine A ?_;refine zy ?_;cases h;exact ⟨_,y,_,y,Xb []⟩
     .refine zd<|A ?_;cases h;exact ⟨_,y,zl []⟩
    .refine zs ?_;cases h;exact ⟨y,_,y,zl []⟩
   .rintro ⟨⟩ rfl;refine zm<|A ?_;exact RT0
instance (a:Option zB):PF prog 122 [XB 1 U6 a] (Bc a) iA:=⟨λ_=>zhW a⟩
def zmP:Option (T0×zb×Bool):=
  some ([],(zb.mk [] [] [] false false 0 0 [] [] []),false)
def zmQ(e:T0)(f:zB)(d:T1)(a:Int):zL (Int) (Unit) (T0×zb×Bool):=
  cond (decide (a<((length d):Int))) ((idx d a).bind λi=>(zX f.L i).bind λj=>(idx f.L j).bind λb=>(Gj b e).bind λc=>cond ((decide (0≤c))&&(!(e == [36,105,110,105,116]))) ((idx d a).bind λl=>(idx b.Methods c).bind λm=>some (.inr (.inr (l,m,true)))) (some (.inl (i64.wrap (a+1))))) (some (.inr (.inl ())))
def ze0(c:Option zB)(d:T0)(e:T0):Option (T0×zb×Bool):=
  Um c (none) (λa=>(GO a.L d).bind λf=>(zp (λz=>zmQ e a f z) 0).bind λo=>zH o (λb=>zmP) some)
theorem ziI(d:Option zB)(e:T0)(c:T0){r:T0×zb×Bool}(h:ze0 d e c=some r):Xm prog 125 [XB 1 U6 d,sA e,sA c] (.tup [sA r.1,.agg (zc r.2.1),bA r.2.2]):=by
 refine zi func125 y kz y y ?_;unfold ze0 at h
 rcases d with _ |f
 .replace h:=oeN h;refine A ?_;cases h
 .replace h:=oeS h;refine A ?_;obtain ⟨a,n,h⟩:=bs h;refine A ?_;refine u<|sx [] (H6 f.L e n)<|zx (env0:=[(0,.ipt 1 [[cL f.L]] 0 0),(2,sA c),(7,.mpt 0 0 0),(15,.msl 1 0 (length a))]) (st0:=[some (10,[[sA [],nS,sA [],bA false,bA false,iA 0,iA 0,nS,nS,nS]]),sT a]) (zl [0,1])<|A ?_;refine ze<|A ?_;obtain ⟨o,ho,h⟩:=bs h;refine lpB ho (λz=>[(0,.ipt 1 [[cL f.L]] 0 0),(2,sA c),(7,.mpt 0 0 0),(9,.msl 1 0 (length a)),(10,iA z)]) (λz=>[some (10,[[sA [],nS,sA [],bA false,bA false,iA 0,iA 0,nS,nS,nS]]),sT a]) (λb=>[(7,.mpt 0 0 0)]) (λb=>[some (10,[[sA [],nS,sA [],bA false,bA false,iA 0,iA 0,nS,nS,nS]])]) (pG f125 (λr=>.tup [sA r.1,.agg (zc r.2.1),bA r.2.2])) (Xd [0,1]) ?_ ?_
  .rintro p r h;refine ze<|A ?_;apply Xa h y<;>intro i h
   .refine zd<|ze<|zh ?_;obtain ⟨q,s,v,x,l,B,h⟩:=bs3 h;refine rdA [(0,_),(2,_),(7,_),(9,_),(10,_),(11,_)] [some (10,[[sA [],nS,sA [],bA false,bA false,iA 0,iA 0,nS,nS,nS]]),sT a,some (6,[(zf l)])] [12,13] [0,1,2,3,4,5,6,7,8,9,10,11] [(33,_),(32,_),(31,_),(30,_),(29,_),(28,_),(27,_),(26,_),(25,_),(24,_),(23,_),(22,_)] 2 (Xj (z:=by exact ⟨(λ_ _=>⟨_,y,y,al 2 ti y<|⟨(.mpt 2 0 0),[],[(11,_)],y,y,y,y,Xj (z:=by exact ⟨nv,(λ_ _=>⟨_,y,y,sto ti y y y<|⟨.any,[],[],y,y,y,t,Xk (z:=Xd [0,1,2])⟩⟩),t⟩)⟩⟩),nw,t⟩)) ?_;obtain ⟨C,D,h⟩:=bs h;refine A ?_;refine A ?_;apply Xa h y<;>intro j h
    .obtain ⟨E,F,m,G,h⟩:=bs2 h;refine rdA [(6,_),(7,_),(8,_)] [some (10,[(zc m)])] [10] [0,1,2,3,4,5,6,7,8,9] [(6,_),(51,_),(50,_),(49,_),(48,_),(47,_),(46,_),(45,_),(44,_),(43,_)] 1 (Xj (z:=by exact ⟨(λ_ _=>⟨_,y,y,sto ti y y y<|⟨.any,[11],[(8,_)],y,y,y,t,Xk (z:=Xd [0])⟩⟩),t⟩)) ?_;refine zy ?_;cases h;exact ⟨_,y,_,y,Xb []⟩
    .refine zd<|A ?_;cases h;exact ⟨_,y,zl [0,1]⟩
   .refine zs ?_;cases h;exact ⟨y,_,y,zl [0]⟩
  .rintro ⟨⟩ rfl;refine zm<|A ?_;exact RT0
instance (a:Option zB)(b:T0)(c:T0):PF prog 125 [XB 1 U6 a,sA b,sA c] (ze0 a b c) (λr=>(.tup [sA r.1,.agg (zc r.2.1),bA r.2.2])):=⟨λ_=>ziI a b c⟩
def zmf(c:T1)(d:T1)(a:Bool)(b:Bool):Option (Bool):=
  some ((!a)&&(!b))
def zgs(i:List za)(j:T0)(a:zb)(l:Bool)(b:Int)(m:zS×Bool)(n:Bool)(d:T1)(e:T1):zL (T1×T1×Bool×Bool×Int) (T1×T1×Bool×Bool) (Bool):=
  (Wd i j a d e (n||(!(m.2||l))) b).bind λo=>(idx a.Code b).bind λp=>(zk i j a d e o p).bind λc=>(idx a.Code b).bind λf=>some (.inl (c.1,c.2.1,c.2.2,(!(HN f.Op)),(i64.wrap (b+1))))
def zgr(i:List za)(j:T0)(b:zb)(l:T1)(m:T1)(c:Bool)(d:Int)(a:zS×Bool)(e:Bool):zL (T1×T1×Bool×Bool×Int) (T1×T1×Bool×Bool) (Bool):=
  cond a.2 ((D7 (GK.mk a.1.Locals a.1.Stack)).bind λf=>zgs i j b c d a e f.1 f.2) (zgs i j b c d a e l m)
def zmg(j:List za)(l:T0)(c:zb)(a:T1)(b:T1)(d:Bool)(f:Bool)(e:Int):zL (T1×T1×Bool×Bool×Int) (T1×T1×Bool×Bool) (Bool):=
  cond ((decide (e<(length c.Code:Int)))&&(!d)) ((Bk j l c a b d e).bind λi=>cond (i.2&&f) ((Bf j l c a b d e a b).bind λm=>zgr j l c a b f e i m) (zgr j l c a b f e i d)) (some (.inr (.inl (a,b,d,f))))
def zmU(e:List za)(f:T0)(a:zb)(c:Bool):Option (Bool):=
  (cond (a.Ret == [86]) (some true) ((zO e a.Ret).bind λi=>some i)).bind λd=>(zfA e f a [] [] (c||(!d))).bind λj=>(zp (λz=>zmg e f a z.1 z.2.1 z.2.2.1 z.2.2.2.1 z.2.2.2.2) (j,[],(c||(!d)),true,0)).bind λo=>zH o (λb=>zmf b.1 b.2.1 b.2.2.1 b.2.2.2) some
def zmX(f:List za)(b:zb)(c:Bool)(a:Int):zL (Bool×Int) (Bool) (Bool):=
  cond (decide (a<(length b.Params:Int))) ((idx b.Params a).bind λd=>(zO f d).bind λe=>some (.inl ((c||(!e)),(i64.wrap (a+1))))) (some (.inr (.inl c)))
def zmT(c:List za)(e:T0)(a:zb)(d:Bool):Option (Bool):=
  (zp (λz=>zmX c a z.1 z.2) (d,0)).bind λo=>zH o (λb=>zmU c e a b) some
def zmS(a:Int)(b:Bool):zL (Bool×Int) (Bool) (Bool):=
  some (.inl (b,(i64.wrap (a+1))))
def zmV(m:List za)(b:T1)(c:Bool)(a:Int):zL (Bool×Int) (Bool) (Bool):=
  cond (decide (a<((length b):Int))) ((idx b a).bind λd=>(cond (d == [84]) (some true) ((idx b a).bind λe=>some (e == [78]))).bind λf=>(cond f (some true) ((idx b a).bind λi=>(zO m i).bind λj=>some j)).bind λl=>some (.inl ((c||(!l)),(i64.wrap (a+1))))) (some (.inr (.inl c)))
def zmW(l:List za)(c:zb)(d:Bool)(a:Int):zL (Bool×Int) (Bool) (Bool):=
  cond (decide (a<(length c.Maps:Int))) ((idx c.Maps a).bind λe=>(idx c.Maps a).bind λf=>(Xx 16 ([]:T1) e.Locals).bind λi=>(Xx 16 i f.Stack).bind λj=>(zp (λz=>zmV l j z.1 z.2) (d,0)).bind λo=>zH o (λb=>zmS a b) (λr=>some (.inr (.inr r)))) (some (.inr (.inl d)))
def zhY(a:List za)(f:T0)(c:Int):Option (Bool):=
  (zX a f).bind λd=>(cond ((decide (d<0))||(decide (c<0))) (some true) ((idx a d).bind λj=>some (decide ((length j.Methods:Int)≤c)))).bind λl=>(cond l (some true) ((idx a d).bind λm=>(idx m.Methods c).bind λn=>some n.Abstract)).bind λp=>cond p (some false) ((idx a d).bind λi=>(idx i.Methods c).bind λe=>(zp (λz=>zmW a e z.1 z.2) (false,0)).bind λo=>zH o (λb=>zmT a f e b) some)
instance (c:List za)(d:T0)(V:Int):PF prog 119 [.ipt 1 [[cL c]] 0 0,sA d,iA V] (zhY c d V) bA:=⟨λr h=>by
 refine zi func119 y kz y y<|A ?_;obtain ⟨v4,q1,h⟩:=bs h;refine A ?_;refine ze ?_;obtain ⟨v6,q5,v9,q9,h⟩:=bs2 h;refine A ?_;apply Xa h y<;>intro O h
 .refine A ?_;exact RT0
 .refine zd ?_;obtain ⟨v10,q11,a,q12,h⟩:=bs2 h;refine A ?_;refine ze<|A ?_;obtain ⟨o,ho,h⟩:=bs h;refine lpB ho (λz=>[(0,.ipt 1 [[cL c]] 0 0),(8,.mpt 0 0 0),(9,iA z.2)]) (λz=>[some (15,[(rK c d a (nS) (nS) (bA z.1))])]) (λb=>[(0,.ipt 1 [[cL c]] 0 0),(8,.mpt 0 0 0)]) (λb=>[some (15,[(rK c d a (nS) (nS) (bA b))])]) (pG f119 bA) (Xd [0]) ?_ ?_
  .rintro ⟨W,m⟩ r h;refine ze<|A ?_;apply Xa h y<;>intro P h
   .refine zd<|ze<|zh ?_;obtain ⟨Y,x,Z,v,H,q39,n,q40,h⟩:=bs4 h;refine rdA [(0,.ipt 1 [[cL c]] 0 0),(8,.mpt 0 0 0),(9,iA m),(10,.msl 1 0 (length n))] [some (15,[(rK c d a (nS) (nS) (bA W))]),sT n] [9,19] [18,17,16,15,14,13,12,11,10,8,7,6,5,4,3,2,1,0] [(96,tL Z.Stack),(95,.ipt 3 (map zA a.Maps) (Int.toNat m) 2),(94,.ipt 3 (map zA a.Maps) (Int.toNat m) 0),(93,iA m),(92,.isl 3 (map zA a.Maps)),(91,.mpt 0 0 10),(90,.mpt 0 0 2),(89,.mpt 0 0 0),(88,.mpt 0 0 0),(86,tL Y.Locals),(85,.ipt 3 (map zA a.Maps) (Int.toNat m) 1),(84,.ipt 3 (map zA a.Maps) (Int.toNat m) 0),(83,iA m),(82,.isl 3 (map zA a.Maps)),(81,.mpt 0 0 10),(80,.mpt 0 0 2),(79,.mpt 0 0 0),(78,.mpt 0 0 0)] 2 (X5 ⟨(pb y (ldI ti y (zz v).2.2 y w)),(pb y (fa ti y y y w)),(pb y (ixI ti y ti y y y v w)),pe,(pb y (ld ti y y w)),(pb y (fa ti y y y w)),(pb y (fa ti y y y w)),pe,pe,(pb y (ldI ti y (zz x).2.2 y w)),(pb y (fa ti y y y w)),(pb y (ixI ti y ti y y y x w)),pe,(pb y (ld ti y y w)),(pb y (fa ti y y y w)),(pb y (fa ti y y y w)),pe,pe,t⟩ ⟨(λ_ _=>⟨_,y,y,apN (f:=Xe) 1 ti y ti y y (by decide) ti y y y roI (λ_=>y) y q39<|⟨(.msl 1 0 (length H)),[],[(87,.msl 1 0 (length H))],y,y,kz,y,X5 ⟨(pb y (ldI ti y (zz v).2.2 y w)),(pb y (fa ti y y y w)),(pb y (ixI ti y ti y y y v w)),pe,(pb y (ld ti y y w)),(pb y (fa ti y y y w)),(pb y (fa ti y y y w)),pe,pe,pe,(pb y (fa ti y y y w)),(pb y (ixI ti y ti y y y x w)),pe,(pb y (ld ti y y w)),(pb y (fa ti y y y w)),(pb y (fa ti y y y w)),pe,pe,t⟩ ⟨nv,(λ_ _=>⟨_,y,y,apM 2 ti y ti y y (by decide) ti y y y y roI (λ_=>y) y q40<|⟨(.msl 2 0 (length n)),[20],[(10,.msl 2 0 (length n)),(97,.msl 2 0 (length n))],y,y,kz,y,ZC ⟨pe,pe,(pb y (fa ti y y y w)),(pb y (ixI ti y ti y y y v w)),pe,(pb y (ld ti y y w)),(pb y (fa ti y y y w)),(pb y (fa ti y y y w)),pe,pe,pe,(pb y (fa ti y y y w)),(pb y (ixI ti y ti y y y x w)),pe,(pb y (ld ti y y w)),(pb y (fa ti y y y w)),(pb y (fa ti y y y w)),pe,pe,t⟩ (zl [0,2])⟩⟩),t⟩⟩⟩),nw,t⟩) ?_;refine A ?_;obtain ⟨o,ho,h⟩:=bs h;refine lpS ho (λz=>[(0,.ipt 1 [[cL c]] 0 0),(8,.mpt 0 0 0),(9,iA m),(10,.msl 1 0 (length n)),(11,iA z.2)]) (λz=>[some (15,[(rK c d a (nS) (nS) (bA z.1))]),sT n]) (λb=>[(0,.ipt 1 [[cL c]] 0 0),(8,.mpt 0 0 0),(9,iA m)]) (λb=>[some (15,[(rK c d a (nS) (nS) (bA b))])]) (pG f119 bA) (Xd [0,1]) ?_ ?_ ?_
    .rintro ⟨I,v50⟩ r h;refine ze<|A ?_;apply Xa h y<;>intro Q h
     .refine zd<|ze<|zh ?_;obtain ⟨v51,q51,v53,q54,J,q58,h⟩:=bs3 h;refine A ?_;refine u<|sx [0] (E1 c d a I J y)<|zx (env0:=[(0,.ipt 1 [[cL c]] 0 0),(8,.mpt 0 0 0),(9,iA m),(10,.msl 1 0 (length n)),(11,iA v50)]) (st0:=[some (15,[(rK c d a (nS) (nS) (bA (I||(!J))))]),sT n]) (zl [0,1])<|zo ?_;refine A ?_;cases h;exact ⟨_,y,zl [0,1]⟩
     .refine zs ?_;cases h;exact ⟨y,_,y,zl [0]⟩
    .rintro v57 rfl;refine zm<|A ?_;cases h;exact ⟨_,y,zl [0]⟩
    .rintro r' rfl env st hp;cases h;exact ⟨_,y,hp⟩
   .refine zs ?_;cases h;exact ⟨y,_,y,zl [0]⟩
  .rintro v58 rfl;refine zm<|ze<|A ?_;obtain ⟨o,ho,h⟩:=bs h;refine lpB ho (λz=>[(0,.ipt 1 [[cL c]] 0 0),(8,.mpt 0 0 0),(12,iA z.2)]) (λz=>[some (15,[(rK c d a (nS) (nS) (bA z.1))])]) (λb=>[(0,.ipt 1 [[cL c]] 0 0),(8,.mpt 0 0 0)]) (λb=>[some (15,[(rK c d a (nS) (nS) (bA b))])]) (pG f119 bA) (Xd [0]) ?_ ?_
   .rintro ⟨K,v64⟩ r h;refine ze<|A ?_;apply Xa h y<;>intro R h
    .refine zd<|ze<|zh ?_;obtain ⟨v65,q63,L,q64,h⟩:=bs2 h;refine A ?_;refine u<|sx [0] (E1 c d a K L y)<|zx (env0:=[(0,.ipt 1 [[cL c]] 0 0),(8,.mpt 0 0 0),(12,iA v64)]) (st0:=[some (15,[(rK c d a (nS) (nS) (bA (K||(!L))))])]) (zl [0])<|zo ?_;refine A ?_;cases h;exact ⟨_,y,zl [0]⟩
    .refine zs ?_;cases h;exact ⟨y,_,y,zl [0]⟩
   .rintro C rfl;refine zm ?_;obtain ⟨D,q67,h⟩:=bs h;refine A ?_;refine u<|sx [0] (E1 c d a C D y)<|zx (env0:=[(8,.mpt 0 0 0)]) (st0:=[some (15,[(rK c d a (nS) (nS) (bA (C||(!D))))])]) (zl [0])<|zo ?_;obtain ⟨v70,q68,h⟩:=bs h;refine rg y<|u<|mv y<|ph 1<|ph 1<|u<|sc [0,1,2] (zjn c d a [] [] (C||(!D)) q68) y y y y ⟨(.mpt y),t⟩ ⟨⟨_,y,(KA y ⟨(.nil0 y),(.nil0 y),(rnI y),t⟩)⟩,⟨y,mkI (λ_=>y)⟩,⟨y,mkI (λ_=>y)⟩,t⟩<|zo ?_;refine A ?_;refine ze<|A ?_;obtain ⟨o,ho,h⟩:=bs h;refine lpB ho (λz=>[(8,.mpt 0 0 0),(13,bA z.2.2.2.1),(14,iA z.2.2.2.2)]) (λz=>(sR c d a z.1 z.2.1 z.2.2.1 [])) (λb=>[(8,.mpt 0 0 0),(13,bA b.2.2.2)]) (λb=>(sR c d a b.1 b.2.1 b.2.2.1 [])) (pG f119 bA) (Xd [0]) ?_ ?_
    .rintro ⟨j,l,B,p,i⟩ r h;refine ze<|A ?_;apply Xa h y<;>intro S h
     .refine zd<|ze<|zh ?_;obtain ⟨e,q84,h⟩:=bs h;refine A ?_;refine u<|sx [0] (zfB c d a j l B i q84)<|zx (env0:=[(8,.mpt 0 0 0),(13,bA p),(14,iA i),(187,.tup [.agg (zA e.1),bA e.2])]) (st0:=(sR c d a j l B [])) (zl [0])<|A ?_;refine Xz (X:=Bool) (λz=>[(8,.mpt 0 0 0),(13,bA p),(14,iA i),(15,.mpt 1 0 0),(16,bA e.2)]) (λz=>(sR c d a j l z [some (3,[(zA e.1)])])) (λz=>zgr c d a j l p i e z=some r) ?_ ?_
      .refine A ?_;apply Xa h y<;>intro T h
       .obtain ⟨M,q87,h⟩:=bs h;refine XA [(8,_),(13,_),(14,_),(15,_),(16,_)] (sR c d a j l M [some (3,[(zA e.1)])]) [12] [0,1,2,3,4,5,6,7,8,9,10,11] [(205,_),(204,_),(203,_),(202,_),(201,_),(200,_),(199,_),(198,_),(197,_),(196,_),(195,_),(194,_)] 1 (Xj (z:=by exact ⟨(λ_ _=>⟨_,y,y,sx [0] (zfR c d a j l B i j l q87)<|⟨(.tup []),[],[(206,_)],y,y,y,y,Xk (z:=Xd [0,1])⟩⟩),t⟩)) ?_;exact ⟨M,h,zl [0,1]⟩
       .refine zd ?_;exact ⟨B,h,zl [0,1]⟩
      .rintro q h;refine A ?_;refine u<|sx [0] (zq c d a j l q (e.2||p) y)<|zx (env0:=[(8,.mpt 0 0 0),(14,iA i),(15,.mpt 1 0 0),(16,bA e.2)]) (st0:=(sR c d a j l (q||(!(e.2||p))) [some (3,[(zA e.1)])])) (zl [0,1])<|zo ?_;refine Xz (X:=T1×T1) (λz=>[(8,.mpt 0 0 0),(14,iA i)]) (λz=>(sR c d a z.1 z.2 (q||(!(e.2||p))) [])) (λz=>zgs c d a p i e q z.1 z.2=some r) ?_ ?_
       .refine A ?_;apply Xa h y<;>intro U h
        .obtain ⟨s,q90,h⟩:=bs h;refine A ?_;refine u<|sx [] (zix (GK.mk e.1.Locals e.1.Stack) q90)<|zx (env0:=[(8,.mpt 0 0 0),(14,iA i),(214,.mpt 0 0 0),(220,.agg [.msl 1 0 (length s.1),.msl 2 0 (length s.2)])]) (st0:=(sR c d a j l (q||(!(e.2||p))) [sT s.1,sT s.2])) (zl [0,2,3])<|A ?_;exact (⟨⟨s.1,s.2⟩,h,zl [0]⟩)
        .refine zd ?_;exact ⟨⟨j,l⟩,h,zl [0]⟩
       .rintro ⟨E,F⟩ h;obtain ⟨N,q91,h⟩:=bs h;refine rg y<|u<|mv y<|u<|mv y<|u<|sx [0] (zjp c d a E F (q||(!(e.2||p))) i q91)<|zx (env0:=[(8,.mpt 0 0 0),(14,iA i)]) (st0:=(sR c d a E F N [])) (zl [0])<|zo ?_;obtain ⟨v98,q92,G,q93,h⟩:=bs2 h;refine A ?_;refine u<|sx [0] (zjo c d a E F N v98 q93)<|zx (env0:=[(8,.mpt 0 0 0),(14,iA i)]) (st0:=(sR c d a G.1 G.2.1 G.2.2 [])) (zl [0])<|zo ?_;obtain ⟨v100,q94,h⟩:=bs h;refine A ?_;refine A ?_;cases h;exact ⟨_,y,zl [0]⟩
     .refine zs ?_;cases h;exact ⟨y,_,y,zl [0]⟩
    .rintro ⟨v101,v102,v103,v104⟩ rfl;refine zm<|A ?_
     exact RT0⟩
def zuh(a:List za):Option ((Option zB)×Int):=
  some ((some (zB.mk a)),0)
def zpL(a:Int)(b:zB):zL ((Option zB)×Int) ((List za)) ((Option zB)×Int):=
  some (.inl ((some b),(i64.wrap (a+1))))
def ON(c:Int)(a:zB)(b:Int):zL (Int) (Unit) ((Option zB)×Int):=
  (idx a.L c).bind λd=>cond (decide (b<(length d.Methods:Int))) ((idx a.L c).bind λe=>(idx e.Methods b).bind λf=>(cond (!f.Abstract) ((idx a.L c).bind λi=>(zhY a.L i.Name b).bind λj=>some (!j)) (some false)).bind λl=>cond l (some (.inr (.inr (none,5)))) (some (.inl (i64.wrap (b+1))))) (some (.inr (.inl ())))
def DV(d:Option zB)(c:Int):zL ((Option zB)×Int) ((List za)) ((Option zB)×Int):=
  Um d (none) (λa=>cond (decide (c<(length a.L:Int))) ((zp (λz=>ON c a z) 0).bind λo=>zH o (λb=>zpL c a) (λr=>some (.inr (.inr r)))) (some (.inr (.inl a.L))))
def zn6(f:List za)(d:XW):Option ((Option zB)×Int):=
  (IC f).bind λa=>cond (!(a.2 == 0)) (some (none,a.2)) ((Bc a.1).bind λe=>cond (!(e == 0)) (some (none,e)) ((ze0 a.1 d.C d.M).bind λc=>cond ((((!c.2.2)||(!c.2.1.Static))||(decide (0<(length c.2.1.Params:Int))))||(!(c.2.1.Ret == [86]))) (some (none,4)) ((zp (λz=>DV z.1 z.2) (a.1,0)).bind λo=>zH o (λb=>zuh b) some)))
instance (l:List za)(c:XW):PF prog 43 [cL l,.agg (Uj c)] (zn6 l c) (λr=>(.tup [XB 1 U6 r.1,iA r.2])):=⟨λr h=>by
 refine zi func43 y kz y (zxy (Z5 (Zs (λ_=>y)) (y))) ?_;refine A ?_;obtain ⟨m,N,h⟩:=bs h;refine A ?_;refine ze<|A ?_;apply Xa h y<;>intro n h
 .refine A ?_;exact RT0
 .refine zd<|ze ?_;obtain ⟨O,s,h⟩:=bs h;refine rg y<|u<|mv y<|u<|pc (zhW m.1 s) y y (Z5 (Zs (λ_=>y)) (y))<|A ?_;refine A ?_;apply Xa h y<;>intro p h
  .refine A ?_;exact RT0
  .refine zd ?_;obtain ⟨P,v,h⟩:=bs h;refine A ?_;refine u<|pc (ziI m.1 c.C c.M v) y y (Z5 (Zs (λ_=>y)) (y))<|A ?_;refine ze<|A ?_;apply Xa h y<;>intro q h
   .refine A ?_;exact RT0
   .refine zd<|ze<|A ?_;obtain ⟨o,ho,h⟩:=bs h;refine lpB ho (λz=>[(6,XB 1 U6 z.1),(12,iA z.2)]) (λz=>[]) (λb=>[(6,.ipt 1 [[cL b]] 0 0)]) (λb=>[]) (pG f43 (λr=>.tup [XB 1 U6 r.1,iA r.2])) (Xd []) ?_ ?_
    .rintro ⟨d,a⟩ r h;replace h:DV d a=some r:=h;unfold DV at h;refine ze ?_;refine rg y<|u<|mv y<|u<|mv y<|?_
     rcases d with _ |e
     .replace h:=oeN h;cases h
     .replace h:=oeS h;refine u<|nc y y<|u<|fa ti y y y<|u<|ld ti y y<|u<|lnI ti y y<|u<|lss ti y y<|zo ?_;apply Xa h y<;>intro f h
      .refine zd<|ze<|zh<|A ?_;obtain ⟨o,ho,h⟩:=bs h;refine lpS ho (λz=>[(6,.ipt 1 [[cL e.L]] 0 0),(12,iA a),(13,iA z)]) (λz=>[]) (λb=>[(6,.ipt 1 [[cL e.L]] 0 0),(12,iA a)]) (λb=>[]) (pG f43 (λr=>.tup [XB 1 U6 r.1,iA r.2])) (Xd []) ?_ ?_ ?_
       .rintro x r h;refine ze ?_;obtain ⟨B,D,h⟩:=bs h;refine A ?_;apply Xa h y<;>intro i h
        .refine zd<|ze<|zh ?_;obtain ⟨E,F,G,H,I,J,h⟩:=bs3 h;refine A ?_;apply Xa h y<;>intro j h
         .refine A ?_;refine zy ?_;cases h;exact ⟨_,y,_,y,Xb []⟩
         .refine zd<|A ?_;cases h;exact ⟨_,y,zl []⟩
        .refine zs ?_;cases h;exact ⟨y,_,y,zl []⟩
       .rintro ⟨⟩ rfl;refine zm<|A ?_;cases h;exact ⟨_,y,zl []⟩
       .rintro r' rfl env st hp;cases h;exact ⟨_,y,hp⟩
      .refine zs ?_;cases h;exact ⟨y,_,y,zl []⟩
    .rintro K rfl;refine zm<|A ?_
     exact RT0⟩
def Ou(a:List za)(b:XW):Option (Bool):=
  (DP a b).bind λc=>(zn6 a b).bind λd=>cond ((!(c.2 == d.2))||(!((Option.isNone c.1) == (Option.isNone d.1)))) (some false) ((DH a).bind λf=>(IC a).bind λe=>(cond (Option.isNone e.1) (some true) ((DX f.1).bind λi=>(Bc e.1).bind λj=>some (i == j))).bind λl=>some l)
theorem zl6(d:List za)(e:XW){r:Bool}(h:Ou d e=some r):Xm prog 39 [cL d,.agg (Uj e)] (bA r):=by
 refine zi func39 y kz y y<|A ?_;obtain ⟨p,q,h⟩:=bs h;refine A ?_;obtain ⟨s,v,h⟩:=bs h;refine A ?_;refine ze<|A ?_;refine ZK (j:=3) 5 y y y y y gpn (λb=>g y b<|mv y<|g y b<|zGD ti y y y<|g y b<|mv y<|g y b<|zGD ti y y y<|g y b<|bne ti y y y<|zo (egO [29,30,31,32,33] 5 b y y y y)) orT<|zo ?_;apply Xa h y<;>intro f h
 .refine A ?_;exact RT0
 .refine zd ?_;obtain ⟨i,B,h⟩:=bs h;refine A ?_;obtain ⟨l,C,h⟩:=bs h;refine A ?_;obtain ⟨m,a,h⟩:=bs h;refine rg y<|u<|mv y<|u<|zGD ti y y y<|u<|mv y<|ZK (x:=m) (j:=2) 5 y y y y y gpn (λc=>by replace a:=bF c a;obtain ⟨D,n,a⟩:=bs a;obtain ⟨E,o,a⟩:=bs a;obtain rfl:=sm a;exact g y c<|mv y<|g y c<|pc (zhG i.1 n) y y (Z5 (Zs (λ_=>y)) (y))<|g y c<|mv y<|g y c<|pc (zhW l.1 o) y y (Z5 (Zs (λ_=>y)) (y))<|g y c<|eql ti y y<|zo (eg [48,49,50,51,52] 5 y y y y)) (λhb=>(sm (bT hb a)).symm)<|A ?_;exact RT0
instance (a:List za)(b:XW):PF prog 39 [cL a,.agg (Uj b)] (Ou a b) bA:=⟨λ_=>zl6 a b⟩
def zvW(x:XW):Prop:=(wS) x.C/\(wS) x.M
theorem zyE{n:Nat}{avs:List AV}(h:Zn prog (n+2) 84 avs):∃x:XW,avs=Uj x/\zvW x:=by
 obtain ⟨parts,rfl,hl,hg⟩:=gdF underlying84 h
 match parts,hl with
 | [p0,p1],_ =>
  obtain ⟨x0,rfl,w0⟩:=gdS underlying9 (hg 0 _ p0 rfl rfl);obtain ⟨x1,rfl,w1⟩:=gdS underlying9 (hg 1 _ p1 rfl rfl);exact ⟨⟨x0,x1⟩,rfl,w0,w1⟩
structure Fx(wS:World)(G A:Am)(w:World):Prop where
 heap:∀B,B<Flo.N->w.heap[B]?=wS.heap[B]?
 os:w.os=wS.os
 tape:w.tape=wS.tape
 output:w.output=wS.output
 old:∀B k,A B k->G B k∨Flo.N≤B
theorem Fx.step{wS:World}{G A:Am}{m:BM}{nb:Nat}{w:World}{A':Am}{m':BM}{nb':Nat}{w':World}{st:St}(hR:R A m w st)(hS:Xp A m nb w A' m' nb' w')(h:Fx wS G A w):Fx wS G A' w':=
 ⟨λB hB=>(hS.heap B (QI hB hR.nLe) λl b hb hh he=>by have:=(hR.nOwn l b hb hh).1;omega).trans (h.heap B hB),hS.os.trans h.os,hS.tape.trans h.tape,hS.output.trans h.output,λB k hA=>by
  rcases hS.aNew B k hA with h1 |h1 |⟨l,b,h1,h2,rfl⟩
  .exact h.old B k h1
  .exact .inr (QD hR.nLe h1)
  .exact .inr (hR.nOwn l b h1 h2).1⟩
def noA:Am:=λ_ _=>False
theorem Fx.fresh{wS:World}{A:Am}{w:World}(h:Fx wS noA A w){B k:Nat}(hA:A B k):Flo.N≤B:=(h.old B k hA).resolve_left id
def FO(wS:World)(G:Am)(n:Nat)(K:Ev->St->Prop)(a:Act)(w:World):Prop:=∃A m env st,Fx wS G A w/\R A m w st/\Env A m st.length w n env a/\K env st
def FW(P:Program)(n:Nat)(wS:World)(G:Am)(c:Code)(Q:Exit->Ev->St->Prop)(env:Ev)(st:St):Prop:=
 ∀A m w a,Fx wS G A w->R A m w st->Env A m st.length w n env a->c.wp P (λe a' w'=>FO wS G n (Q e) a' w') a w
theorem FO.mono{wS:World}{G:Am}{n:Nat}{K K':Ev->St->Prop}{a:Act}{w:World}(h:FO wS G n K a w)(hk:∀env st,K env st->K' env st):FO wS G n K' a w:=
 let ⟨A,m,env,st,h1,h2,h3,h4⟩:=h;⟨A,m,env,st,h1,h2,h3,hk _ _ h4⟩
section
variable {P : Program} {n : Nat} {wS : World} {G : Am} {Q : Exit -> Ev -> St -> Prop} {env : Ev} {st : St}
theorem Xy{c:Code}(h:SW P n 0 c Q env st):FW P n wS G c Q env st:=λA m w a hF hR hE =>
 wp_mono (h A m w a (QW _) hR hE) λe a' w' ⟨A',m',env',st',h1,h2,h3,h4⟩=>⟨A',m',env',st',hF.step hR h3,h1,h2,h4⟩
theorem XN{x y:Code}(h:FW P n wS G x (Do (FW P n wS G y Q) Q) env st):FW P n wS G (.seq x y) Q env st:=λA m w a hF hR hE=>by
 refine wp_seq (wp_mono (h A m w a hF hR hE) λe a' w' ho=>?_)
 cases e with
 |normal=>obtain ⟨A',m',env',st',h1,h2,h3,h4⟩:=ho;exact h4 A' m' w' a' h1 h2 h3
 |ret=>exact ho
 |exit id=>exact ho
 |goto l=>exact ho
 |panic c=>exact ho
 |outgrown=>exact ho
theorem Zf{c:Operand}{x y:Code}{b:Bool}(hc:ev env c=some (.lit (.bool b)))(ht:b=true->FW P n wS G x Q env st)(hf:b=false->FW P n wS G y Q env st):FW P n wS G (.cond c x y) Q env st:=λA m w a hF hR hE=>by
 have h1:=(zV hE hc).lit_inv;exact wp_cond_split h1 (λh=>ht h A m w a hF hR hE) (λh=>hf h A m w a hF hR hE)
theorem zxt{id:Nat}{c:Code}(h:FW P n wS G c (Hz id Q) env st):FW P n wS G (.block id c) Q env st:=λA m w a hF hR hE=>by
 refine wp_block (wp_mono (h A m w a hF hR hE) λe a' w' ho=>?_)
 cases e with
 |exit id' =>
  obtain ⟨A',m',env',st',h1,h2,h3,h4⟩:=ho;simp only [Exit.inBlock];simp only [Hz] at h4;split
  .rename_i hid;rw [if_pos hid] at h4;exact ⟨A',m',env',st',h1,h2,h3,h4⟩
  .rename_i hid;rw [if_neg hid] at h4;exact ⟨A',m',env',st',h1,h2,h3,h4⟩
 |normal=>exact ho
 |ret=>exact ho
 |goto l=>exact ho
 |panic c=>exact ho
 |outgrown=>exact ho
theorem zEK{c:Code}{Q':Exit->Ev->St->Prop}(h:FW P n wS G c Q env st)(hq:∀e env st,Q e env st->Q' e env st):FW P n wS G c Q' env st:=λA m w a hF hR hE =>
 wp_mono (h A m w a hF hR hE) λe a' w' ho=>ho.mono λenv st h=>hq e env st h
def zGG(e:Ev):Bool:=e.all λp=>match p.2 with |.lit _ |.mpt .. |.msl ..=>true |_=>false
def zHU:AV->Bool
 |.lit _=>true
 |_=>false
def zF1:Option (Nat×List (List AV))->Bool
 |some (_,els)=>els.all λr=>r.all zHU
 |none=>true
def BJ(st:St):Bool:=st.all zF1
theorem zq9{f:AV->Bool}:∀{e:Ev} {t:Nat} {v:AV},(e.all λp=>f p.2)=true->look e t=some v->f v=true
 | [],_,_,_,h=>by cases h
 |(k,x)::e,t,v,ha,h=>by
  simp only [J2,Qd] at ha;simp only [look] at h;split at h
  .cases h;exact ha.1
  .exact zq9 ha.2 h
theorem zve{st:St}(h:BJ st=true){l k:Nat}{els:List (List AV)}(he:st[l]?=some (some (k,els))){i j:Nat}(hi:i<els.length)(hj:j<els[i].length):∃v,els[i][j]=.lit v:=by
 have h1:=(Ql.1 h) _ (Qc he);simp only [zF1,Ql] at h1;have h2:=h1 _ (Qh hi) _ (Qh hj);generalize els[i][j]=x at h2
 cases x with
 |lit v=>exact ⟨v,rfl⟩
 |_=>cases h2
theorem R.again{A A':Am}{m:BM}{w w':World}{st:St}(hR:R A m w st)(hl:BJ st=true)(hs:w.heap.size≤w'.heap.size)(hb:∀l b,m l=some b->b.has=true->w'.heap[b.B]?=w.heap[b.B]?)
  (h1:∀B k,A' B k->B<w'.heap.size) (h2:∀B k l b,A' B k->m l=some b->b.has=true->b.B≠B) (h3:∀B k k',Flo.N≤B->A' B k->A' B k'->k=k'):R A' m w' st:=by
 refine ⟨h1,h2,h3,QD hR.nLe hs,hR.nOwn,hR.inj,hR.live,λl k els he=>?_⟩;obtain ⟨b,k1,k2,k3,k4⟩:=hR.blk l k els he;refine ⟨b,k1,k2,λhh=>?_,k4⟩;have ho:=k3 hh;have hB:=hb l b k1 hh;refine ⟨QI ho.low hs,λhm off h=>?_,λhm off h=>?_,ho.fit,ho.wide,λhm i hi j hj=>?_,λhm=>?_⟩
 .rw [HX hB];exact ho.there hm off h
 .rw [znX hB];exact ho.free hm off h
 .obtain ⟨v,h4,h5⟩:=ho.val hm i hi j hj;obtain ⟨u,hu⟩:=zve hl he hi hj;rw [hu] at h5 ⊢;exact ⟨v,by rw [HX hB];exact h4,by rw [h5.lit_inv];exact .imm (.lit _)⟩
 .obtain ⟨h0,es,clock,h4,h5,h6⟩:=ho.mval hm;refine ⟨h0,es,clock,hB.trans h4,h5,λi hi j hj=>?_⟩;obtain ⟨u,hu⟩:=zve hl he hi hj;have:=h6 i hi j hj;rw [hu] at this ⊢;rw [this.lit_inv];exact .imm (.lit _)
theorem V.again{A A':Am}{m:BM}{nb:Nat}{w w':World}{x:AV}{v:Value}(hx:(match x with |.lit _ |.mpt .. |.msl ..=>true |_=>false)=true)(h:V A m nb w x v):V A' m nb w' x v:=by
 cases x with
 |lit u=>rw [h.lit_inv];exact .imm (.lit _)
 |mpt l i j=>obtain ⟨h1,a,rfl,h2⟩:=h.mpt_inv;exact .mpt _ _ _ _ h1 h2
 |msl l i k=>obtain ⟨h1,a,n',cap,rfl,h2⟩:=h.msl_inv;exact .msl _ _ _ _ _ _ h1 h2
 |_=>cases hx
theorem zCr{c:Code}{d:Nat}{av:AV}{env0:Ev}(hd:look env d=some (.fr av))(he:∀t v,look env0 t=some v->look env t=some v)(hl:zGG env0=true)(hst:BJ st=true)
  (h:FW P n wS noA c Q ((d,av)::env0) st):FW P n wS G c Q env st:=λA m w a hF hR hE=>by
 have hR':R (Afr A) m w st:=hR.again hst (Qk _) (λ_ _ _ _=>rfl) (λB k hB=>hR.aLow B k hB.1) (λB k l b hB=>hR.aOwn B k l b hB.1) (λB k k' hN hB hB'=>hR.aFun B k k' hN hB.1 hB'.1)
 have hE':Env (Afr A) m st.length w n ((d,av)::env0) a:=⟨hE.size,λt v ht=>by
  simp only [look] at ht;split at ht
  .rename_i e;subst e;cases ht;obtain ⟨h1,h2⟩:=hE.val d _ hd;refine ⟨h1,?_⟩
   cases h2.fr_inv with
   |fr _ _ h=>exact .imm h
  .obtain ⟨h1,h2⟩:=hE.val t v (he t v ht)
   exact ⟨h1,h2.again (zq9 (f:=λv=>match v with |.lit _ |.mpt .. |.msl ..=>true |_=>false) hl ht)⟩,hE.defers⟩
 refine wp_mono (h _ m w a ⟨hF.heap,hF.os,hF.tape,hF.output,λB k hB=>.inr hB.2⟩ hR' hE') λe a' w' ⟨A',m',env',st',h1,h2,h3,h4⟩=>⟨A',m',env',st',⟨h1.heap,h1.os,h1.tape,h1.output,λB k hB=>.inr (h1.fresh hB)⟩,h2,h3,h4⟩
def FP(P:Program)(n:Nat)(wS:World)(G:Am)(o:Oper)(K:Ev->St->Prop)(env:Ev)(st:St):Prop:=
 ∀A m w a,Fx wS G A w->R A m w st->Env A m st.length w n env a->∀next Q',(∀a' w',FO wS G n K a' w'->next a' w')->Oper.wp P o a w next Q'
def FRg(P:Program)(n:Nat)(wS:World)(G:Am)(all l:List Oper)(K:Ev->St->Prop)(env:Ev)(st:St):Prop:=
 ∀(ops:Array Oper) (i:Nat),ops.toList=all->all.drop i=l->all.all (λo=>o.dst.all (·<n))=true->∀A m w a,Fx wS G A w->R A m w st->Env A m st.length w n env a ->
  ∀Q:Exit->Act->World->Prop,(∀a' w',FO wS G n K a' w'->Q .normal a' w')->wpOps P ops Q (List.range' i l.length) a w
theorem Dy{all:List Oper}{K:Ev->St->Prop}(h:K env st):FRg P n wS G all [] K env st:=λops i _ _ _ A m w a hF hR hE Q hQ=>by
 simp only [Je,Yt,wpOps];exact hQ a w ⟨A,m,env,st,hF,hR,hE,h⟩
theorem G0{all l1 l2:List Oper}{K:Ev->St->Prop}(h:SR P n 0 all l1 l2 (FRg P n wS G all l2 K) env st):FRg P n wS G all (l1++l2) K env st:=λops i ho hd hn A m w a hF hR hE Q hQ=>by
 rw [QA];refine h ops i ho hd hn A m w a (QW _) hR hE Q λa' w' ⟨A',m',env',st',h1,h2,h3,h4⟩=>?_;exact h4 ops (i+l1.length) ho (by rw [<-List.drop_drop,hd];simp) hn A' m' w' a' (hF.step hR h3) h1 h2 Q hQ
theorem G1{all l:List Oper}{o:Oper}{K:Ev->St->Prop}(hg:o.guard=none)(h:FP P n wS G o (FRg P n wS G all l K) env st):FRg P n wS G all (o ::l) K env st:=λops i ho hd hn A m w a hF hR hE Q hQ=>by
 have hop:ops[i]?=some o:=by
  have h1:(all.drop i)[0]?=some o:=by rw [hd];rfl
  rw [<-ho] at h1;simpa using h1
 have hd':all.drop (i+1)=l:=by
  have:=congrArg List.tail hd;simpa [Yf] using this
 simp only [Qu,JJ,wpOps,hop]
 have hw:Region.wanted o (yielded ops a.tmps)=true:=by unfold Region.wanted;rw [hg]
 rw [hw];simp only [if_true];exact .inl (h A m w a hF hR hE _ Q λa' w' ⟨A',m',env',st',h1,h2,h3,h4⟩=>h4 ops (i+1) ho hd' hn A' m' w' a' h1 h2 h3 Q hQ)
theorem Dp{id:Nat}{ops:Array Oper}(hn:ops.toList.all (λo=>o.dst.all (·<n))=true)(h:FRg P n wS G ops.toList ops.toList (Q .normal) env st):FW P n wS G (.region id ops false) Q env st:=λA m w a hF hR hE=>by
 refine wp_region ?_;have:=h ops 0 rfl rfl hn A m w a hF hR hE (λe a' w'=>FO wS G n (Q e) a' w') λa' w' h=>h;rw [JH];simpa using this
theorem Oper.wp_same{o:Oper}{a:Act}{w:World}{K:Act->World->Prop}{Q1 Q2:Exit->Act->World->Prop}(hq:∀e a w,e≠.normal->Q1 e a w->Q2 e a w)(h:o.wp P a w K Q1):o.wp P a w K Q2:=by
 unfold Oper.wp at *;generalize (execOp a.eval o).run P w=r at *
 cases r with
 |ok n w' =>
  cases n with
  |enter f args =>
   simp only [Oper.upon] at h ⊢;refine Calls.mono h λe w'' he=>?_
   cases e with
   |returned v=>exact he
   |panicked c=>exact hq _ _ _ (by intro h;cases h) he
   |outgrown=>obtain ⟨a1,w1,h1⟩:=he;exact ⟨a1,w1,hq _ _ _ (by intro h;cases h) h1⟩
  |_=>exact h
 |halt x w' =>
  cases x with
  |panic v=>exact hq _ _ _ (by intro h;cases h) h
  |_=>exact h
def zCH(P:Program)(z:Oper)(Q:Exit->Act->World->Prop):Exit->Act->World->Prop
 |.normal,a,w=>z.wp P a w (Q .normal) Q
 |e,a,w=>Q e a w
theorem zCI{z:Oper}{Q:Exit->Act->World->Prop}{e:Exit}{a:Act}{w:World}(he:e≠.normal)(h:zCH P z Q e a w):Q e a w:=by
 cases e with
 |normal=>exact absurd rfl he
 |_=>exact h
def zwB(l1:List Oper)(z:Oper)(i:Nat):Bool:=z.after.toList.any λe=>Region.binds .any e&&Nat.beq e.on i
def zHm(l1:List Oper)(z:Oper):Bool:=(List.range l1.length).all λi=>zwB l1 z i||(List.range l1.length).any λj=>zwB l1 z j&&KC l1 j i
theorem zzj{ops ops1:Array Oper}{z:Oper}{Q:Exit->Act->World->Prop}(he:ops.toList=ops1.toList++[z])(hok:KZ n ops1.toList=true)(hgs:ops1.toList.all (λo=>o.guard.isNone)=true)(hg:z.guard=none)
  (hz:zHm ops1.toList z=true) (hzl:z.after.toList.all (λe=>!Region.binds .any e||Nat.blt e.on ops1.size)=true):
  ∀(fuel:Nat) (listed:Array Bool) (a:Act) (w:World),listed.size=ops1.size->(∀s i,listed.getD s false=true->KC ops1.toList s i=true->listed.getD i false=true)->wpAny P .any ops1 (zCH P z Q) fuel listed a w->wpAny P .any ops Q (fuel+1) (listed.push false) a w:=by
 obtain ⟨hok1,_⟩:=zs1 hok
 have hsz:ops.size=ops1.size+1:=by
  have:=congrArg List.length he;simpa using this
 have hlt:∀i,i<ops1.size->ops[i]?=ops1[i]?:=λi hi=>by
  have:ops.toList[i]?=ops1.toList[i]?:=by rw [he,Qm (by simpa using hi)]
  simpa using this
 have hlast:ops[ops1.size]?=some z:=by
  have:ops.toList[ops1.size]?=some z:=by rw [he,Qs (by simp)];simp
  simpa using this
 have gd:∀(listed:Array Bool),listed.size=ops1.size->∀j b,j≠ops1.size->(listed.push false).getD j b=listed.getD j b:=λlisted hl j b hj=>by
  rcases JI j listed.size with h |h
  .simp [Array.getD,Array.getElem_push_lt,h,Nat.lt_succ_of_lt h]
  .have h1:¬j<listed.size:=by omega
   have h2:¬j<listed.size+1:=by omega
   simp [Array.getD,h1,h2]
 have allin:∀listed:Array Bool,listed.size=ops1.size->Region.ready .any ops1 listed=[]->∀j,j<ops1.size->listed.getD j false=true:=λlisted hsz hr j=>by
  induction j using Nat.strongRecOn with
  |_ j ihj =>
   intro hj
   cases hb:listed.getD j false with
   |true=>rfl
   |false =>
    exfalso
    have hj':j<listed.size:=by omega
    have hb':listed.getD j true=false:=by simpa [Array.getD,hj'] using hb
    have hoj:ops1[j]?=some ops1[j]:=QE hj
    have:j∈Region.ready .any ops1 listed:=mem_ready.2 ⟨hb',_,hoj,λe he hbe=>by
     have hlt:=(hok1 j ops1[j] (by simp)).2 e (by simpa using he) hbe
     exact ihj e.on hlt (by omega)⟩
    rw [hr] at this;cases this
 have r1:∀(listed:Array Bool),listed.size=ops1.size->∀i,i≠ops1.size->i∈Region.ready .any ops (listed.push false)->i∈Region.ready .any ops1 listed:=λlisted hl i hi h=>by
  obtain ⟨h1,o,ho,h2⟩:=mem_ready.1 h
  have hil:i<ops1.size:=by have:=(QZ.1 ho).1;omega
  rw [hlt i hil] at ho;refine mem_ready.2 ⟨by rw [<-gd listed hl i true hi];exact h1,o,ho,λe he hb=>?_⟩;have hel:=(hok1 i o (by simpa using ho)).2 e (by simpa using he) hb;rw [<-gd listed hl e.on false (by omega)];exact h2 e he hb
 have r2:∀(listed:Array Bool),listed.size=ops1.size->(∀j,j<ops1.size->listed.getD j false=true)->ops1.size∈Region.ready .any ops (listed.push false):=λlisted hl h=>by
  refine mem_ready.2 ⟨by simp [Array.getD,<-hl],z,hlast,λe he hb=>?_⟩;have h1:=(Ql.1 hzl) e (by simpa using he);rw [hb] at h1
  have h2:e.on<ops1.size:=by simpa using h1
  rw [gd listed hl e.on false (by omega)];exact h e.on h2
 have r3:∀(listed:Array Bool),listed.size=ops1.size->(∀s i,listed.getD s false=true->KC ops1.toList s i=true->listed.getD i false=true)->ops1.size∈Region.ready .any ops (listed.push false)->∀j,j<ops1.size->listed.getD j false=true:=λlisted hl hW h j hj=>by
  obtain ⟨_,o,ho,h2⟩:=mem_ready.1 h;rw [hlast] at ho;cases ho
  have dir:∀j,j<ops1.size->zwB ops1.toList z j=true->listed.getD j false=true:=λj hj h1=>by
   obtain ⟨e,he,h3⟩:=Qy.1 h1;simp only [Qd] at h3;have h4:=h2 e (by simpa using he) h3.1;rw [Qj h3.2,gd listed hl j false (by omega)] at h4;exact h4
  have h1:=(Ql.1 hz) j (Js.2 (by simpa using hj));simp only [Qp] at h1
  rcases h1 with h1 |h1
  .exact dir j hj h1
  .obtain ⟨q,hq,h5⟩:=Qy.1 h1;simp only [Qd] at h5;exact hW q j (dir q (by simpa using hq) h5.1) h5.2
 have fin:∀(fuel:Nat) (listed:Array Bool) (a:Act) (w:World),listed.size=ops1.size->(∀j,j<ops1.size->listed.getD j false=true)->zCH P z Q .normal a w ->
   wpOp P ops Q ops1.size (wpAny P .any ops Q fuel ((listed.push false).setIfInBounds ops1.size true)) a w:=λfuel listed a w hl hall h=>by
  unfold wpOp;rw [hlast];simp only
  have hw:Region.wanted z (yielded ops a.tmps)=true:=by unfold Region.wanted;rw [hg]
  rw [hw];simp only [if_true];refine .inl (Oper.wp_mono (λa' w' hq=>?_) h)
  have hr:Region.ready .any ops ((listed.push false).setIfInBounds ops1.size true)=[]:=by
   rw [Jl];intro j hj;obtain ⟨h1,o,ho,_⟩:=mem_ready.1 hj
   have hj':j<ops1.size+1:=by have:=(QZ.1 ho).1;omega
   by_cases hjl:j=ops1.size
   .subst hjl;simp [Array.getD,<-hl] at h1
   .rw [getD_set_ne true (Ne.symm hjl),gd listed hl j true hjl] at h1;have:=hall j (by omega)
    have hj2:j<listed.size:=by omega
    simp [Array.getD,hj2] at this h1;rw [this] at h1;cases h1
  cases fuel with
  |zero=>exact ⟨hr,hq⟩
  |succ fuel=>exact ⟨λ_=>hq,λi hi=>by rw [hr] at hi;cases hi⟩
 intro fuel
 induction fuel with
 |zero =>
  intro listed a w hl hW h;have hall:=allin listed hl h.1;refine ⟨λh0=>?_,λi hi=>?_⟩
  .have:=r2 listed hl hall;rw [h0] at this;cases this
  .by_cases hil:i=ops1.size
   .subst hil;exact fin 0 listed a w hl hall h.2
   .have:=r1 listed hl i hil hi;rw [h.1] at this;cases this
 |succ fuel ih =>
  intro listed a w hl hW h;refine ⟨λh0=>?_,λi hi=>?_⟩
  .have hr0:Region.ready .any ops1 listed=[]:=by
    rw [Jl];intro j hj;obtain ⟨h1,o,ho,h2⟩:=mem_ready.1 hj;have hjl:j<ops1.size:=(QZ.1 ho).1
    have:j∈Region.ready .any ops (listed.push false):=mem_ready.2 ⟨by rw [gd listed hl j true (by omega)];exact h1,o,by rw [hlt j hjl];exact ho,λe he hb=>by
     have hel:=(hok1 j o (by simpa using ho)).2 e (by simpa using he) hb;rw [gd listed hl e.on false (by omega)]
     exact h2 e he hb⟩
    rw [h0] at this;cases this
   have:=r2 listed hl (allin listed hl hr0);rw [h0] at this;cases this
  .by_cases hil:i=ops1.size
   .subst hil;have hall:=r3 listed hl hW hi;refine fin _ listed a w hl hall (h.1 ?_);rw [Jl];intro j hj;obtain ⟨h1,o,ho,_⟩:=mem_ready.1 hj;have hj':=(QZ.1 ho).1;have:=hall j hj'
    have hj2:j<listed.size:=by omega
    simp [Array.getD,hj2] at this h1;rw [this] at h1;cases h1
   .have hi1:=r1 listed hl i hil hi;have h3:=h.2 i hi1;obtain ⟨_,o,ho,hdep⟩:=mem_ready.1 hi1;have hjl:i<ops1.size:=(QZ.1 ho).1
    have hgo:o.guard=none:=by
     have:=(Ql.1 hgs) o (Qc (by simpa using ho:ops1.toList[i]?=some o));simpa using this
    unfold wpOp at h3 ⊢;rw [ho] at h3;rw [hlt i hjl,ho];simp only at h3 ⊢
    have hw1:Region.wanted o (yielded ops1 a.tmps)=true:=by unfold Region.wanted;rw [hgo]
    have hw2:Region.wanted o (yielded ops a.tmps)=true:=by unfold Region.wanted;rw [hgo]
    rw [hw1] at h3;rw [hw2];simp only [if_true] at h3 ⊢
    rcases h3 with h3 |⟨h3,a1,w1,h4⟩
    .refine .inl (Oper.wp_same (λe a w hne hq=>zCI hne hq) (Oper.wp_mono (λa' w' hq=>?_) h3))
     have hil':i<listed.size:=by omega
     have:=ih (listed.setIfInBounds i true) a' w' (by simpa using hl) (λs q hs hw=>by
      have up:∀j,listed.getD j false=true->(listed.setIfInBounds i true).getD j false=true:=λj hj=>by
       by_cases h:j=i
       .subst h;simp [Array.getD,hil']
       .rw [getD_set_ne false (Ne.symm h)];exact hj
      by_cases hsi:s=i
      .subst hsi;obtain ⟨e,he,hb,rfl⟩:=zuw (by simpa using ho:ops1.toList[s]?=some o) hw;exact up _ (hdep e (by simpa using he) hb)
      .rw [getD_set_ne false (Ne.symm hsi)] at hs
       exact up q (hW s q hs hw)) hq
     have e1:(listed.push false).setIfInBounds i true=(listed.setIfInBounds i true).push false:=by
      apply Array.ext';simp [List.set_append,hl,hjl]
     rw [e1];exact this
    .exact .inr ⟨h3,a1,w1,h4⟩
theorem zFV{id:Nat}{ops:Array Oper}{l1:List Oper}{z:Oper}(hall:ops.toList=l1++[z])(ss en:List Nat)(F:Ev)(k:Nat)(hm:P.follows .mixedOrders=true)(hok:KZ n l1=true)(hgs:l1.all (λo=>o.guard.isNone)=true)(hg:z.guard=none)
  (hz:zHm l1 z=true) (hzl:z.after.toList.all (λe=>!Region.binds .any e||Nat.blt e.on l1.length)=true)
  (hss:KY l1.length ss=true) (hks:Uc l1 en (XT F)=true) (h:DT P l1 ss env (λenv st=>FP P n wS G z (Q .normal) env st) k [] en F st):FW P n wS G (.region id ops true) Q env st:=λA m w a hF hR hE=>by
 have hg':XK w { w with drawn:=w.drawn+1 }:=⟨Qk _,λ_ _=>rfl,rfl,rfl,rfl⟩
 obtain ⟨hR1,hS1⟩:=hR.grow' hg';refine wp_region_any hm ?_;have hl1:l1.toArray.toList=l1:=rfl
 have hsz:ops.size=l1.length+1:=by
  have:=congrArg List.length hall;simpa using this
 have hf:∀j,(Array.replicate l1.toArray.size false).getD j false=false:=λj=>by simp [Array.getD]
 have hd:=zyj (P:=P) (ops:=l1.toArray) (ss:=ss) (env0:=env) (n:=n) (nb0:=0) (A0:=A) (m0:=m) (w0:=w) (K:=λenv st=>FP P n wS G z (Q .normal) env st) (Q:=zCH P z (λe a' w'=>FO wS G n (Q e) a' w')) hok (zrR (by simpa using hss))
  (λa' w' ⟨A',m',env',st',h1,h2,h3,h4⟩=>h4 A' m' w' a' (hF.step hR h3) h1 h2 _ _ λa2 w2 h=>h) l1.toArray.size k [] en F st (Array.replicate l1.toArray.size false) A m _ a h
  (λi hi=>by cases hi) (λi _ hl=>by rw [hf] at hl;cases hl) (λi hl _=>by rw [hf] at hl;cases hl) (λs i hs _=>by rw [hf] at hs;cases hs) (λt v ht=>by
   obtain ⟨j,_,hj⟩:=zl2 hks t (Ov ht)
   exact ⟨j,hj⟩) (λj t hl _=>by rw [hf] at hl;cases hl) (by simp) (by
   refine QD (List.countP_le_length) ?_
   simp) hR1 (hS1.weak (QW _)) hE.size hE.defers (λt v hJ=>by
   rcases hJ with ⟨hJ,_⟩ |⟨j,hj,_⟩
   .exact (hE.step hR hS1).val t v hJ
   .rw [hf] at hj;cases hj)
 have:=zzj (P:=P) (n:=n) (ops:=ops) (ops1:=l1.toArray) (z:=z) (Q:=λe a' w'=>FO wS G n (Q e) a' w') hall hok hgs hg hz (by simpa using hzl) _ _ _ _ (by simp) (λs i hs _=>by rw [hf] at hs;cases hs) hd;rw [hsz]
 have e1:Array.replicate (l1.length+1) false=(Array.replicate l1.toArray.size false).push false:=by
  apply Array.ext';simp [List.replicate_succ']
 rw [e1];simpa using this
end
def E9(P:Program)(f:FuncId)(args:List AV):Prop:=
 ∀A w vals,AOk A w->Flo.N=w.heap.size->VIL A w args vals->Calls P f vals w λe w'=>e=.returned (.bool true)/\XK w w'
theorem E9.truly{P:Program}{f:FuncId}{args:List AV}(h:E9 P f args){W:World}{vals:Array Value}(hN:Flo.N=W.heap.size)(hv:VIL (λB _=>B<W.heap.size) W args vals):Calls P f vals W λe w'=>e=.returned (.bool true)/\XK W w':=
 h _ W vals ⟨λ_ _ h=>h,λB k k' h1 h2 _=>absurd h2 (by omega),by omega⟩ hN hv
def zHk(P:Program)(fn:Func):Exit->Ev->St->Prop
 |.normal,env,st |.ret,env,st=>KU P fn env st=some (.lit (.bool true))
 |_,_,_=>False
theorem zCd{P:Program}{f:FuncId}{fn:Func}{c:Code}{args:List AV}(hf:P.funcs[f]?=some fn)(hb:fn.body=some c)(hlen:Nat.ble args.length fn.ntmps=true)
  (h:∀wS G,FW P fn.ntmps wS G c (zHk P fn) (GI 0 args) []):E9 P f args:=λA w vals hA hN hv=>by
 refine calls_of_wp hf hb ?_;have hlen:=Qv hlen;have hR:R A (λ_=>none) w []:=⟨hA.low,(λ_ _ _ _ _ h=>(by cases h)),hA.fn,hA.nLe,(λ_ _ h=>(by cases h)),(λ_ _ _ _ h=>(by cases h)),(λ_ _ h=>(by cases h)),(λ_ _ _ h=>(by simp at h))⟩;have hv':VL A (λ_=>none) 0 w args vals:=⟨hv.1,λi hi=>.imm (hv.2 i hi)⟩
 have hE:Env A (λ_=>none) ([]:St).length w fn.ntmps (GI 0 args) { tmps:=vals++Array.replicate (fn.ntmps-vals.size) undef,defers:=[] }:=by
  refine ⟨by simp [hv.1];omega,λt v ht=>?_,rfl⟩;obtain ⟨_,h1⟩:=zqb args 0 t v ht;simp only [Yd] at h1;have h2:=hv'.get h1;have hlt:t<args.length:=(Qb.1 h1).1;refine ⟨by omega,?_⟩
  rwa [show (vals++Array.replicate (fn.ntmps-vals.size) undef).getD t undef=vals.getD t undef by simp [Qg,Jg (by rw [hv.1];exact hlt:t<vals.size)]]
 refine wp_mono (h w A A _ w _ ⟨λ_ _=>rfl,rfl,rfl,rfl,λB k h=>.inl h⟩ hR hE) λe a' w' ho=>?_
 have fin:FO w A fn.ntmps (λenv st=>KU P fn env st=some (.lit (.bool true))) a' w'->a'.defers=[]/\∃v,(results fn a'.tmps).run P w'=.ok v w'/\Ending.returned v=.returned (.bool true)/\XK w w':=λ⟨A',m',env',st',h1,h2,h3,h4⟩=>by
  obtain ⟨v,h7,h8⟩:=zs3 h2 h3 h4;exact ⟨h3.defers,v,h7,by rw [h8.lit_inv],⟨by rw [<-hN];exact h2.nLe,λB hB=>h1.heap B (by rw [hN];exact hB),h1.os,h1.tape,h1.output⟩⟩
 cases e with
 |normal=>exact fin ho
 |ret=>exact fin ho
 |exit id=>obtain ⟨_,_,_,_,_,_,_,h⟩:=ho;exact h.elim
 |goto l=>obtain ⟨_,_,_,_,_,_,_,h⟩:=ho;exact h.elim
 |panic c=>obtain ⟨_,_,_,_,_,_,_,h⟩:=ho;exact h.elim
 |outgrown=>obtain ⟨_,_,_,_,_,_,_,h⟩:=ho;exact h.elim
inductive Tk(D:Am)(w:World):Nat->Nat->Value->Value->Prop
 |same {k j:Nat} {v:Value}:Tk D w k j v v
 |int {k j:Nat} {n n':Int} (h:wI .i64 n'):Tk D w k j (.int .i64 n) (.int .i64 n')
 |str {k j:Nat} {s:ByteArray} {s':List UInt8} (h:wS s'):Tk D w k j (.string s) (.string (B s'))
 |one {v:Value} {s':List UInt8} (h:wS s'):Tk D w 1 0 v (.string (B s'))
 |code {a:Option Addr} {l c:Nat} {v:Value} (xs:List zr) (hx:wL B7 xs) (h:VI D w (.isl 4 (xs.map zn)) v):Tk D w 10 7 (.slice a l c) v
 |maps {a:Option Addr} {l c:Nat} {v:Value} (xs:List zS) (hx:wL B6 xs) (h:VI D w (.isl 3 (xs.map zA)) v):Tk D w 10 8 (.slice a l c) v
 |stk {a:Option Addr} {l c:Nat} {v:Value} (xs:List (List UInt8)) (hx:wL wS xs) (h:VI D w (.isl 1 (xs.map Xe)) v):Tk D w 3 2 (.slice a l c) v
 |impl {a:Option Addr} {l c:Nat} {v:Value} (xs:List (List UInt8)) (hx:wL wS xs) (h:VI D w (.isl 1 (xs.map Xe)) v):Tk D w 6 3 (.slice a l c) v
def zHj(k j:Nat):Bool:=Nat.beq k 1||(Nat.beq k 10&&(Nat.beq j 7||Nat.beq j 8))||(Nat.beq k 3&&Nat.beq j 2)||(Nat.beq k 6&&Nat.beq j 3)
structure TC(D D':Am)(w w':World):Prop where
 sub:∀B k,D B k->D' B k
 new:∀B k,D B k->Flo.N≤B
 fzs:∀B off,fz w' ⟨B,off,none⟩=fz w ⟨B,off,none⟩
 cell:∀B k e j v,D B k->j<k->w.cell? ⟨B,e*k+j,none⟩=some v->∃v',w'.cell? ⟨B,e*k+j,none⟩=some v'/\Tk D' w' k j v v'
theorem TC.okb{D D':Am}{w w':World}(hT:TC D D' w w'){B o k cap:Nat}(h:Okb D w B o k cap):Okb D' w' B o k cap:=
 ⟨hT.sub B k h.1,λhN=>⟨(h.2 hN).1,λoff ho=>by
  obtain ⟨⟨v,hv⟩,h2⟩:=(h.2 hN).2 off ho
  have hk:0<k:=(Q8 k).resolve_left λh0=>by subst h0;omega
  have e:o+off=(o+off) / k*k+(o+off) % k:=by rw [Yb];exact (J7 _ _).symm
  refine ⟨?_,by rw [hT.fzs];exact h2⟩;rw [e] at hv ⊢;obtain ⟨v',h3,_⟩:=hT.cell B k _ _ v h.1 (Nat.mod_lt _ hk) hv
  exact ⟨v',h3⟩⟩⟩
theorem TC.nlb{D D':Am}{w w':World}(hT:TC D D' w w'){a:Option Addr}{k cap:Nat}(h:Nlb D w a k cap):Nlb D' w' a k cap:=by
 rcases h with h |⟨B,o,h,h'⟩ |⟨B,k',h,h'⟩
 .exact .inl h
 .exact .inr (.inl ⟨B,o,h,hT.okb h'⟩)
 .exact absurd (hT.new B k' h) (by omega)
def Kw{α:Type}(f:α->List AV)(k:Nat)(W:α->Prop):Prop:=
 (∀x,(f x).length=k)/\∀(D D':Am) (w w':World) (x:α) (vs vs':Nat->Value),TC D D' w w'->W x->(∀j (h:j<(f x).length),VI D w (f x)[j] (vs j))->(∀j,j<k->Tk D' w' k j (vs j) (vs' j)) ->
  ∃x',W x'/\∀j (h:j<(f x').length),VI D' w' (f x')[j] (vs' j)
theorem zFg{α:Type}{f:α->List AV}{k:Nat}{W:α->Prop}(hf:Kw f k W){D D':Am}{w w':World}{xs:List α}(hT:TC D D' w w')(hW:∀x∈xs,W x){B o q:Nat}(hA:D B k)(ho:o=q*k){vs:Nat->Nat->Value}
  (hc:∀i j,i<(xs.map f).length->j<k->w.cell? ⟨B,o+i*k+j,none⟩=some (vs i j)) (hv:∀i (h:i<(xs.map f).length) j (h':j<(xs.map f)[i].length),VI D w (xs.map f)[i][j] (vs i j)):
  ∃(xs':List α) (vs':Nat->Nat->Value),xs'.length=xs.length/\(∀x∈xs',W x)/\(∀i (h:i<(xs'.map f).length),(xs'.map f)[i].length=k)/\(∀i j,i<(xs'.map f).length->j<k->w'.cell? ⟨B,o+i*k+j,none⟩=some (vs' i j)) /\
   ∀i (h:i<(xs'.map f).length) j (h':j<(xs'.map f)[i].length),VI D' w' (xs'.map f)[i][j] (vs' i j):=by
 have hlen:(xs.map f).length=xs.length:=by simp
 have step:∀i:_root_.Fin xs.length,∃x',W x'/\∀j (h:j<(f x').length),∃u,w'.cell? ⟨B,o+i*k+j,none⟩=some u/\VI D' w' (f x')[j] u:=λ⟨i,hi⟩=>by
  have hi':i<(xs.map f).length:=by rw [hlen];exact hi
  have hpos:∀j,o+i*k+j=(q+i)*k+j:=λj=>by rw [ho,Qz]
  have hcell:∀j,j<k->∃u,w'.cell? ⟨B,o+i*k+j,none⟩=some u/\Tk D' w' k j (vs i j) u:=λj hj=>by
   have h1:=hc i j hi' hj;rw [hpos] at h1 ⊢;exact hT.cell B k (q+i) j _ hA hj h1
  obtain ⟨x',h1,h2⟩:=hf.2 D D' w w' xs[i] (vs i) (λj=>(w'.cell? ⟨B,o+i*k+j,none⟩).getD undef) hT (hW _ (Qh hi)) (λj hj=>by
   have h3:=hv i hi' j (by rw [QR];exact hj);have e:(xs.map f)[i]=f xs[i]:=QR ..
   have e2:((xs.map f)[i])[j]'(by rw [e];exact hj)=(f xs[i])[j]:=by simp only [e]
   rwa [e2] at h3) (λj hj=>by
   obtain ⟨u,h3,h4⟩:=hcell j hj;simp only [h3,QY]
   exact h4)
  refine ⟨x',h1,λj hj=>?_⟩;obtain ⟨u,h3,_⟩:=hcell j (by rw [<-hf.1 x'];exact hj);have h5:=h2 j hj;simp only [h3,QY] at h5;exact ⟨u,h3,h5⟩
 obtain ⟨g,hg⟩:=Classical.axiomOfChoice step
 have hl2:((List.ofFn g).map f).length=xs.length:=by simp
 refine ⟨List.ofFn g,λi j=>(w'.cell? ⟨B,o+i*k+j,none⟩).getD undef,by simp,λx hx=>?_,λi hi=>?_,λi j hi hj=>?_,λi hi j hj=>?_⟩
 .obtain ⟨i,rfl⟩:=List.mem_ofFn.1 hx;exact (hg i).1
 .rw [QR];exact hf.1 _
 .have hi2:i<xs.length:=by rw [<-hl2];exact hi
  obtain ⟨u,h3,_⟩:=(hg ⟨i,hi2⟩).2 j (by rw [hf.1];exact hj);simp only [h3,QY]
 .have hi2:i<xs.length:=by rw [<-hl2];exact hi
  have e:((List.ofFn g).map f)[i]=f (g ⟨i,hi2⟩):=by simp
  have hj':j<(f (g ⟨i,hi2⟩)).length:=by rw [<-e];exact hj
  obtain ⟨u,h3,h4⟩:=(hg ⟨i,hi2⟩).2 j hj'
  have e2:(((List.ofFn g).map f)[i])[j]=(f (g ⟨i,hi2⟩))[j]:=by simp only [e]
  rw [e2];simp only [h3,QY];exact h4
theorem lT{α:Type}{f:α->List AV}{k:Nat}{W:α->Prop}(hf:Kw f k W){D D':Am}{w w':World}{xs:List α}{v:Value}(hT:TC D D' w w')(hW:wL W xs)(h:VI D w (.isl k (xs.map f)) v):∃xs':List α,VI D' w' (.isl k (xs'.map f)) v/\xs'.length=xs.length/\wL W xs':=by
 generalize he:xs.map f=els at h
 cases h with
 |isl _ _ B o cap vs hA hcap hkk hc hv =>
  subst he;obtain ⟨q,hq⟩:=(hA.2 (hT.new _ _ hA.1)).1;obtain ⟨xs',vs',h1,h2,h3,h4,h5⟩:=zFg hf hT hW.2 hA.1 hq hc hv
  have e:(xs'.map f).length=(xs.map f).length:=by simp [h1]
  have:=VI.isl (A:=D') (w:=w') k (xs'.map f) B o cap vs' (hT.okb hA) (by rw [e];exact hcap) h3 h4 h5;rw [e] at this;exact ⟨xs',this,h1,by rw [h1];exact hW.1,h2⟩
 |inil _ a cap hN =>
  have:xs=[]:=List.map_eq_nil_iff.1 he;subst this;exact ⟨[],.inil _ _ _ (hT.nlb hN),rfl,hW⟩
theorem pT{α:Type}{f:α->List AV}{k:Nat}{W:α->Prop}(hf:Kw f k W){D D':Am}{w w':World}{xs:List α}{i j:Nat}{v:Value}(hT:TC D D' w w')(hW:wL W xs)(h:VI D w (.ipt k (xs.map f) i j) v):∃xs':List α,VI D' w' (.ipt k (xs'.map f) i j) v/\xs'.length=xs.length/\wL W xs':=by
 cases h with
 |ipt _ _ _ _ B o vs hA hkk hc hv =>
  obtain ⟨q,hq⟩:=(hA.2 (hT.new _ _ hA.1)).1;obtain ⟨xs',vs',h1,h2,h3,h4,h5⟩:=zFg hf hT hW.2 hA.1 hq hc hv
  have e:(xs'.map f).length=(xs.map f).length:=by simp [h1]
  exact ⟨xs',.ipt k (xs'.map f) i j B o vs' (by rw [e];exact hT.okb hA) h3 h4 h5,h1,by rw [h1];exact hW.1,h2⟩
section
variable {D D' : Am} {w w' : World} {k j : Nat} {v v' : Value}
theorem sTx{s:List UInt8}(h:VI D w (sA s) v)(hw:wS s)(t:Tk D' w' k j v v'):∃s',wS s'/\VI D' w' (sA s') v':=by
 cases h
 cases t with
 |same=>exact ⟨s,hw,.lit _⟩
 |str h=>exact ⟨_,h,.lit _⟩
 |one h=>exact ⟨_,h,.lit _⟩
theorem iT{n:Int}(h:VI D w (iA n) v)(hw:wI .i64 n)(t:Tk D' w' k j v v')(hk:zHj k j=false):∃n',wI .i64 n'/\VI D' w' (iA n') v':=by
 cases h
 cases t with
 |same=>exact ⟨n,hw,.lit _⟩
 |int h=>exact ⟨_,h,.lit _⟩
 |one h=>cases hk
theorem bT_{b:Bool}(h:VI D w (bA b) v)(t:Tk D' w' k j v v')(hk:zHj k j=false):VI D' w' (bA b) v':=by
 cases h
 cases t with
 |same=>exact .lit _
 |one h=>cases hk
theorem HI{q:Nat}{els:List (List AV)}(h:VI D w (.isl q els) v):∃a l c,v=.slice a l c:=by cases h <;> exact ⟨_,_,_,rfl⟩
theorem llT{α:Type}{f:α->List AV}{q:Nat}{W:α->Prop}(hf:Kw f q W){xs:List α}(hT:TC D D' w w')(hW:wL W xs)(h:VI D w (.isl q (xs.map f)) v)(t:Tk D' w' k j v v')(hk:zHj k j=false):∃xs':List α,wL W xs'/\VI D' w' (.isl q (xs'.map f)) v':=by
 obtain ⟨a,l,c,rfl⟩:=HI h
 cases t with
 |same=>obtain ⟨xs',h1,_,h2⟩:=lT hf hT hW h;exact ⟨xs',h2,h1⟩
 |one _=>cases hk
 |code _ _ _=>cases hk
 |maps _ _ _=>cases hk
 |stk _ _ _=>cases hk
 |impl _ _ _=>cases hk
end
theorem zA7:Kw Xe 1 wS:=⟨λ_=>rfl,λD D' w w' x vs vs' hT hw h hk=>by
 obtain ⟨a,g,k0⟩:=sTx (D':=D') (w':=w') (h 0 JQ) hw (hk 0 (by decide))
 exact ⟨a,g,λj hj=>match j,hj with | 0,_=>k0 |n+1,hj=>absurd (show n+1<1 from hj) (by omega)⟩⟩
theorem zC3:Kw zn 4 B7:=⟨λ_=>rfl,λD D' w w' x vs vs' hT hw h hk=>by
 obtain ⟨w0,w1,w2,w3⟩:=hw;obtain ⟨a0,g0,k0⟩:=iT (D':=D') (w':=w') (n:=x.Op) (h 0 (by show 0<4;decide)) w0 (hk 0 (by decide)) rfl;obtain ⟨a1,g1,k1⟩:=iT (D':=D') (w':=w') (n:=x.A) (h 1 (by show 1<4;decide)) w1 (hk 1 (by decide)) rfl;obtain ⟨a2,g2,k2⟩:=sTx (D':=D') (w':=w') (s:=x.C) (h 2 (by show 2<4;decide)) w2 (hk 2 (by decide));obtain ⟨a3,g3,k3⟩:=sTx (D':=D') (w':=w') (s:=x.M) (h 3 (by show 3<4;decide)) w3 (hk 3 (by decide))
 exact ⟨⟨a0,a1,a2,a3⟩,⟨g0,g1,g2,g3⟩,λj hj=>match j,hj with | 0,_=>k0 | 1,_=>k1 | 2,_=>k2 | 3,_=>k3 |n+4,hj=>absurd (show n+4<4 from hj) (by omega)⟩⟩
theorem zA5:Kw zY 4 zuv:=⟨λ_=>rfl,λD D' w w' x vs vs' hT hw h hk=>by
 obtain ⟨w0,w1,w2,w3⟩:=hw;obtain ⟨a0,g0,k0⟩:=iT (D':=D') (w':=w') (n:=x.From) (h 0 (by show 0<4;decide)) w0 (hk 0 (by decide)) rfl;obtain ⟨a1,g1,k1⟩:=iT (D':=D') (w':=w') (n:=x.To) (h 1 (by show 1<4;decide)) w1 (hk 1 (by decide)) rfl;obtain ⟨a2,g2,k2⟩:=iT (D':=D') (w':=w') (n:=x.At) (h 2 (by show 2<4;decide)) w2 (hk 2 (by decide)) rfl;obtain ⟨a3,g3,k3⟩:=sTx (D':=D') (w':=w') (s:=x.C) (h 3 (by show 3<4;decide)) w3 (hk 3 (by decide))
 exact ⟨⟨a0,a1,a2,a3⟩,⟨g0,g1,g2,g3⟩,λj hj=>match j,hj with | 0,_=>k0 | 1,_=>k1 | 2,_=>k2 | 3,_=>k3 |n+4,hj=>absurd (show n+4<4 from hj) (by omega)⟩⟩
theorem zy0:Kw zv 3 zsu:=⟨λ_=>rfl,λD D' w w' x vs vs' hT hw h hk=>by
 obtain ⟨w0,w1,_⟩:=hw;obtain ⟨a0,g0,k0⟩:=sTx (D':=D') (w':=w') (s:=x.Name) (h 0 (by show 0<3;decide)) w0 (hk 0 (by decide));obtain ⟨a1,g1,k1⟩:=sTx (D':=D') (w':=w') (s:=x.Type_) (h 1 (by show 1<3;decide)) w1 (hk 1 (by decide))
 have k2:VI D' w' (bA x.Static) (vs' 2):=by
  have h2:VI D w (bA x.Static) (vs 2):=h 2 (by show 2<3;decide);have t2:=hk 2 (by decide);generalize vs 2=u at h2 t2;generalize vs' 2=u' at t2 ⊢;cases h2;cases t2;exact .lit _
 exact ⟨⟨a0,a1,x.Static⟩,⟨g0,g1,trivial⟩,λj hj=>match j,hj with | 0,_=>k0 | 1,_=>k1 | 2,_=>k2 |n+3,hj=>absurd (show n+3<3 from hj) (by omega)⟩⟩
theorem zC4:Kw zA 3 B6:=⟨λ_=>rfl,λD D' w w' x vs vs' hT hw h hk=>by
 obtain ⟨w0,w1,w2⟩:=hw;obtain ⟨a0,g0,k0⟩:=iT (D':=D') (w':=w') (n:=x.At) (h 0 (by show 0<3;decide)) w0 (hk 0 (by decide)) rfl;obtain ⟨a1,g1,k1⟩:=llT zA7 hT w1 (h 1 (by show 1<3;decide)) (hk 1 (by decide)) rfl
 obtain ⟨a2,g2,k2⟩:∃xs':List (List UInt8),wL wS xs'/\VI D' w' (.isl 1 (xs'.map Xe)) (vs' 2):=by
  have h2:VI D w (.isl 1 (x.Stack.map Xe)) (vs 2):=h 2 (by show 2<3;decide);have t2:=hk 2 (by decide);generalize vs 2=u at h2 t2;generalize vs' 2=u' at t2 ⊢;obtain ⟨a,l,c,rfl⟩:=HI h2
  cases t2 with
  |same=>obtain ⟨xs',g,_,g'⟩:=lT zA7 hT w2 h2;exact ⟨xs',g',g⟩
  |stk xs hx g=>exact ⟨xs,hx,g⟩
 exact ⟨⟨a0,a1,a2⟩,⟨g0,g1,g2⟩,λj hj=>match j,hj with | 0,_=>k0 | 1,_=>k1 | 2,_=>k2 |n+3,hj=>absurd (show n+3<3 from hj) (by omega)⟩⟩
theorem zwE:Kw zc 10 Oy:=⟨λ_=>rfl,λD D' w w' x vs vs' hT hw h hk=>by
 obtain ⟨w0,w1,w2,_,_,w5,w6,w7,w8,w9⟩:=hw;obtain ⟨a0,g0,k0⟩:=sTx (D':=D') (w':=w') (s:=x.Name) (h 0 (by show 0<10;decide)) w0 (hk 0 (by decide));obtain ⟨a1,g1,k1⟩:=llT zA7 hT w1 (h 1 (by show 1<10;decide)) (hk 1 (by decide)) rfl;obtain ⟨a2,g2,k2⟩:=sTx (D':=D') (w':=w') (s:=x.Ret) (h 2 (by show 2<10;decide)) w2 (hk 2 (by decide));have k3:=bT_ (D':=D') (w':=w') (b:=x.Static) (h 3 (by show 3<10;decide)) (hk 3 (by decide)) rfl;have k4:=bT_ (D':=D') (w':=w') (b:=x.Abstract) (h 4 (by show 4<10;decide)) (hk 4 (by decide)) rfl;obtain ⟨a5,g5,k5⟩:=iT (D':=D') (w':=w') (n:=x.Locals) (h 5 (by show 5<10;decide)) w5 (hk 5 (by decide)) rfl;obtain ⟨a6,g6,k6⟩:=iT (D':=D') (w':=w') (n:=x.Stack) (h 6 (by show 6<10;decide)) w6 (hk 6 (by decide)) rfl
 obtain ⟨a7,g7,k7⟩:∃xs':List zr,wL B7 xs'/\VI D' w' (.isl 4 (xs'.map zn)) (vs' 7):=by
  have h2:VI D w (.isl 4 (x.Code.map zn)) (vs 7):=h 7 (by show 7<10;decide);have t2:=hk 7 (by decide);generalize vs 7=u at h2 t2;generalize vs' 7=u' at t2 ⊢;obtain ⟨a,l,c,rfl⟩:=HI h2
  cases t2 with
  |same=>obtain ⟨xs',g,_,g'⟩:=lT zC3 hT w7 h2;exact ⟨xs',g',g⟩
  |code xs hx g=>exact ⟨xs,hx,g⟩
 obtain ⟨a8,g8,k8⟩:∃xs':List zS,wL B6 xs'/\VI D' w' (.isl 3 (xs'.map zA)) (vs' 8):=by
  have h2:VI D w (.isl 3 (x.Maps.map zA)) (vs 8):=h 8 (by show 8<10;decide);have t2:=hk 8 (by decide);generalize vs 8=u at h2 t2;generalize vs' 8=u' at t2 ⊢;obtain ⟨a,l,c,rfl⟩:=HI h2
  cases t2 with
  |same=>obtain ⟨xs',g,_,g'⟩:=lT zC4 hT w8 h2;exact ⟨xs',g',g⟩
  |maps xs hx g=>exact ⟨xs,hx,g⟩
 obtain ⟨a9,g9,k9⟩:=llT zA5 hT w9 (h 9 (by show 9<10;decide)) (hk 9 (by decide)) rfl
 exact ⟨⟨a0,a1,a2,x.Static,x.Abstract,a5,a6,a7,a8,a9⟩,⟨g0,g1,g2,trivial,trivial,g5,g6,g7,g8,g9⟩,λj hj=>match j,hj with | 0,_=>k0 | 1,_=>k1 | 2,_=>k2 | 3,_=>k3 | 4,_=>k4 | 5,_=>k5 | 6,_=>k6 | 7,_=>k7 | 8,_=>k8 | 9,_=>k9 |n+10,hj=>absurd (show n+10<10 from hj) (by omega)⟩⟩
theorem IQ:Kw zf 6 Ui:=⟨λ_=>rfl,λD D' w w' x vs vs' hT hw h hk=>by
 obtain ⟨w0,w1,_,w3,w4,w5⟩:=hw;obtain ⟨a0,g0,k0⟩:=sTx (D':=D') (w':=w') (s:=x.Name) (h 0 (by show 0<6;decide)) w0 (hk 0 (by decide));obtain ⟨a1,g1,k1⟩:=sTx (D':=D') (w':=w') (s:=x.Super) (h 1 (by show 1<6;decide)) w1 (hk 1 (by decide));have k2:=bT_ (D':=D') (w':=w') (b:=x.Interface) (h 2 (by show 2<6;decide)) (hk 2 (by decide)) rfl
 obtain ⟨a3,g3,k3⟩:∃xs':List (List UInt8),wL wS xs'/\VI D' w' (.isl 1 (xs'.map Xe)) (vs' 3):=by
  have h2:VI D w (.isl 1 (x.Impl.map Xe)) (vs 3):=h 3 (by show 3<6;decide);have t2:=hk 3 (by decide);generalize vs 3=u at h2 t2;generalize vs' 3=u' at t2 ⊢;obtain ⟨a,l,c,rfl⟩:=HI h2
  cases t2 with
  |same=>obtain ⟨xs',g,_,g'⟩:=lT zA7 hT w3 h2;exact ⟨xs',g',g⟩
  |impl xs hx g=>exact ⟨xs,hx,g⟩
 obtain ⟨a4,g4,k4⟩:=llT zy0 hT w4 (h 4 (by show 4<6;decide)) (hk 4 (by decide)) rfl;obtain ⟨a5,g5,k5⟩:=llT zwE hT w5 (h 5 (by show 5<6;decide)) (hk 5 (by decide)) rfl
 exact ⟨⟨a0,a1,x.Interface,a3,a4,a5⟩,⟨g0,g1,trivial,g3,g4,g5⟩,λj hj=>match j,hj with | 0,_=>k0 | 1,_=>k1 | 2,_=>k2 | 3,_=>k3 | 4,_=>k4 | 5,_=>k5 |n+6,hj=>absurd (show n+6<6 from hj) (by omega)⟩⟩
theorem zD6{D D':Am}{w:World}{B k e j0:Nat}{cl:List Value}(hD:D B k)(hfun:∀B k k',D B k->D B k'->k=k')(hnew:∀B k,D B k->Flo.N≤B)(hsub:∀B k,D B k->D' B k)(hj:j0+cl.length≤k)
  (hc:∀q (h:q<cl.length),∃u,w.cell? ⟨B,e*k+j0+q,none⟩=some u/\Tk D' (w.setCells B (e*k+j0) cl) k (j0+q) u cl[q]):TC D D' w (w.setCells B (e*k+j0) cl):=
 ⟨hsub,hnew,λB' off=>zlV _ _ _ _ _,λB' k' e' j' v hD' hj' hv=>by
  by_cases hin:B'=B/\e*k+j0≤e'*k'+j'/\e'*k'+j'<e*k+j0+cl.length
  .obtain ⟨rfl,h1,h2⟩:=hin;have:=hfun _ _ _ hD' hD;subst this
   have hee:e'=e:=by
    rcases Yo e' e with h |h |h
    .have:(e'+1)*k'≤e*k':=QG _ h;rw [Qz,JS] at this;omega
    .exact h
    .have:(e+1)*k'≤e'*k':=QG _ h;rw [Qz,JS] at this;omega
   subst hee;obtain ⟨q,rfl⟩:∃q,j'=j0+q:=⟨j'-j0,by omega⟩
   have hq:q<cl.length:=by omega
   obtain ⟨u,h3,h4⟩:=hc q hq;have h5:=World.cell?_setCells_in B' cl (e'*k'+j0) w (λj hj=>by obtain ⟨u,h6,_⟩:=hc j hj;simp [h6]) q hq;rw [QU] at h3 h5;rw [h3] at hv;cases hv;exact ⟨_,h5,h4⟩
  .refine ⟨v,?_,.same⟩
   rw [World.cell?_setCells_out B cl _ w _ (λ_ _=>by
    by_cases hb:B'=B
    .subst hb;have:¬(e*k+j0≤e'*k'+j'/\e'*k'+j'<e*k+j0+cl.length):=λh=>hin ⟨rfl,h⟩;simp;omega
    .simp_all)]
   exact hv⟩
inductive NK(kX:Nat):AV->Prop
 |lit (v):NK kX (.lit v)
 |isl {k:Nat} {els:List (List AV)} (hk:k≠kX) (h:∀i (h:i<els.length) j (h':j<els[i].length),NK kX els[i][j]):NK kX (.isl k els)
theorem NK.keep{kX:Nat}{A:Am}{w w':World}{BX:Nat}(hfun:∀B k k',A B k->A B k'->k=k')(hX:A BX kX)(hs:∀B,B≠BX->w'.heap[B]?=w.heap[B]?){x:AV}(h:NK kX x):∀{v},VI A w x v->VI A w' x v:=by
 have ok:∀{B o k cap},k≠kX->Okb A w B o k cap->Okb A w' B o k cap:=λ{B o k cap} hk h=>by
  have hB:B≠BX:=λe=>hk (hfun BX k kX (e ▸ h.1) hX);exact ⟨h.1,λhN=>⟨(h.2 hN).1,λoff ho=>by rw [HX (hs B hB),znX (hs B hB)];exact (h.2 hN).2 off ho⟩⟩
 induction h with
 |lit v=>intro u hu;cases hu;exact .lit _
 | @isl k els hk _ ih =>
  intro v hv
  cases hv with
  |isl _ _ B o cap vs hA hcap hkk hc hvv =>
   have hB:B≠BX:=λe=>hk (hfun BX k kX (e ▸ hA.1) hX);exact .isl k els B o cap vs (ok hk hA) hcap hkk (λi j hi hj=>by rw [HX (hs B hB)];exact hc i j hi hj) λi hi j hj=>ih i hi j hj (hvv i hi j hj)
  |inil _ a cap hN =>
   refine .inil _ _ _ ?_
   rcases hN with h |⟨B,o,h,h'⟩ |h
   .exact .inl h
   .exact .inr (.inl ⟨B,o,h,ok hk h'⟩)
   .exact .inr (.inr h)
theorem zAI{α:Type}{kX k:Nat}{f:α->List AV}(hk:k≠kX)(hf:∀x j (h:j<(f x).length),NK kX (f x)[j])(xs:List α):NK kX (.isl k (xs.map f)):=
 .isl hk λi hi j hj=>by
  have e:(xs.map f)[i]=f (xs[i]'(by simpa using hi)):=by simp
  have h1:=hf (xs[i]'(by simpa using hi)) j (by rw [<-e];exact hj)
  have e2:((xs.map f)[i])[j]=(f (xs[i]'(by simpa using hi)))[j]'(by rw [<-e];exact hj):=by simp only [e]
  rw [e2];exact h1
theorem zCQ{kX:Nat}(h:1≠kX)(xs:List (List UInt8)):NK kX (.isl 1 (xs.map Xe)):=zAI h (λx j hj=>match j,hj with | 0,_=>.lit _ |n+1,hj=>absurd (show n+1<1 from hj) (by omega)) xs
theorem zG4{kX:Nat}(h:4≠kX)(xs:List zr):NK kX (.isl 4 (xs.map zn)):=zAI h (λx j hj=>match j,hj with | 0,_=>.lit _ | 1,_=>.lit _ | 2,_=>.lit _ | 3,_=>.lit _ |n+4,hj=>absurd (show n+4<4 from hj) (by omega)) xs
theorem zG5{kX:Nat}(h:3≠kX)(h1:1≠kX)(xs:List zS):NK kX (.isl 3 (xs.map zA)):=zAI h (λx j hj=>match j,hj with | 0,_=>.lit _ | 1,_=>zCQ h1 _ | 2,_=>zCQ h1 _ |n+3,hj=>absurd (show n+3<3 from hj) (by omega)) xs
inductive TkA:Nat->Nat->AV->AV->Prop
 |int {k j:Nat} {n n':Int} (h:wI .i64 n'):TkA k j (iA n) (iA n')
 |str {k j:Nat} {s s':List UInt8} (h:wS s'):TkA k j (sA s) (sA s')
 |code {q:Nat} {els:List (List AV)} {xs:List zr} (hx:wL B7 xs):TkA 10 7 (.isl q els) (.isl 4 (xs.map zn))
 |maps {q:Nat} {els:List (List AV)} {xs:List zS} (hx:wL B6 xs):TkA 10 8 (.isl q els) (.isl 3 (xs.map zA))
 |stk {q:Nat} {els:List (List AV)} {xs:List (List UInt8)} (hx:wL wS xs):TkA 3 2 (.isl q els) (.isl 1 (xs.map Xe))
 |impl {q:Nat} {els:List (List AV)} {xs:List (List UInt8)} (hx:wL wS xs):TkA 6 3 (.isl q els) (.isl 1 (xs.map Xe))
theorem TkA.tk{A:Am}{w w':World}{BX k j:Nat}{x y:AV}{u v:Value}(h:TkA k j x y)(hfun:∀B k k',A B k->A B k'->k=k')(hX:A BX k)(hs:∀B,B≠BX->w'.heap[B]?=w.heap[B]?)(hu:VI A w x u)(hv:VI A w y v):Tk A w' k j u v:=by
 cases h with
 |int h=>cases hu;cases hv;exact .int h
 |str h=>cases hu;cases hv;exact .str h
 |code hx=>obtain ⟨a,l,c,rfl⟩:=HI hu;exact .code _ hx ((zG4 (by decide) _).keep hfun hX hs hv)
 |maps hx=>obtain ⟨a,l,c,rfl⟩:=HI hu;exact .maps _ hx ((zG5 (by decide) (by decide) _).keep hfun hX hs hv)
 |stk hx=>obtain ⟨a,l,c,rfl⟩:=HI hu;exact .stk _ hx ((zCQ (by decide) _).keep hfun hX hs hv)
 |impl hx=>obtain ⟨a,l,c,rfl⟩:=HI hu;exact .impl _ hx ((zCQ (by decide) _).keep hfun hX hs hv)
section
variable {P : Program} {n : Nat} {wS : World} {G : Am} {env : Ev} {st : St} {K : Ev -> St -> Prop}
theorem Gi{t:TypeId}{x v:Operand}{ti:TI}{ty:TypeId}{pos:String}{aft:Array Edge}{k:Nat}{els:List (List AV)}{i j:Nat}{row cs:List AV}{av:AV}{env0:Ev}{tl:Nat}{cl:List za}
  (ht:Xf P t=some ti) (hx:ev env x=some (.ipt k els i j)) (hrow:els[i]?=some row) (hv:ev env v=some av) (hcs:UZ av=some cs) (himm:KQ av=true) (hsz:Nat.beq cs.length ti.size=true) (hjk:Nat.ble (j+cs.length) k=true)
  (hT:∀q y,cs[q]?=some y->∃u,row[j+q]?=some u/\TkA k (j+q) u y) (hst:BJ st=true) (hl:look env tl=some (.isl 6 (cl.map zf))) (hW:wL Ui cl)
  (he:∀t v,look env0 t=some v->look env t=some v) (hl0:zGG env0=true) (hK:∀cl',wL Ui cl'->K ((tl,.isl 6 (cl'.map zf))::env0) st):
  FP P n wS noA ⟨none,.store t x v,ty,pos,aft,none⟩ K env st:=λA m w a hF hR hE next Q' hn=>by
 have hsz:=Qj hsz;have hjk:=Qv hjk;have hp:=(zV hE hx).ipt_inv;have hvv:=zV hE hv;obtain ⟨⟨hcl,hcv⟩,hone⟩:=zj3 hcs hvv;have hfun:∀B k k',A B k->A B k'->k=k':=λB k k' h h'=>hR.aFun B k k' (hF.fresh h) h h';obtain ⟨hi,hrw⟩:=Qb.1 hrow;generalize hpv:a.eval x=pv at hp
 cases hp with
 |ipt _ _ _ _ B o vs hA hkk hc hval =>
  have hN:=hF.fresh hA.1;obtain ⟨⟨q0,hq0⟩,hroom⟩:=hA.2 hN
  have hrl:row.length=k:=by rw [<-hrw];exact hkk i hi
  have hpos:o+i*k+j=(q0+i)*k+j:=by rw [hq0,Qz]
  obtain ⟨cv,hcv'⟩:∃cv,cv=(a.eval v).cells.toList:=⟨_,rfl⟩
  have hcl':cv.length=cs.length:=by rw [hcv'];simpa using hcl
  have hold:∀q,q<cv.length->∃u,w.cell? ⟨B,(q0+i)*k+j+q,none⟩=some u/\∀y,cs[q]?=some y->∃x0,TkA k (j+q) x0 y/\VI A w x0 u:=λq hq=>by
   have hjq:j+q<k:=by omega
   have h1:=hc i (j+q) hi hjq;refine ⟨_,by rw [<-h1,<-hpos];congr 2;omega,λy hy=>?_⟩;obtain ⟨x0,h2,h3⟩:=hT q y hy;refine ⟨x0,h3,?_⟩;have h4:=hval i hi (j+q) (by rw [hkk i hi];exact hjq)
   have e1:els[i][j+q]'(by rw [hkk i hi];exact hjq)=x0:=by
    have h5:(els[i])[j+q]?=some x0:=by rw [hrw];exact h2
    exact (Qb.1 h5).2
   rwa [e1] at h4
  have hfz:∀q,q<cv.length->fz w ⟨B,(q0+i)*k+j+q,none⟩=false:=λq hq=>by
   have h1:i*k+j+q<els.length*k:=by
    have h2:(i+1)*k≤els.length*k:=QG _ hi;rw [Qz,JS] at h2;omega
   have h3:=(hroom _ h1).2
   have e:o+(i*k+j+q)=(q0+i)*k+j+q:=by omega
   rwa [e] at h3
  obtain ⟨w',hw'⟩:∃w',w'=w.setCells B ((q0+i)*k+j) cv:=⟨_,rfl⟩
  have hrun:=run_storeCells_cells (P:=P) B ((q0+i)*k+j) cv 0 w
   (λq hq=>by obtain ⟨u,h1,_⟩:=hold q hq;simp [h1])
   (λq hq=>Ok (by simpa using hfz q hq))
   (λz hz=>hone z (by rw [hcv'] at hz;simpa using hz))
  simp only [Q6] at hrun;rw [<-hw'] at hrun
  have hexec:(execOp a.eval { dst:=none,op:=.store t x v,type:=ty,pos:=pos,after:=aft,guard:=none }).run P w=.ok .skip w':=by
   have hso:=GJ (P:=P) w ht
   have hc1:(a.eval v).cells.size=ti.size:=by rw [<-hsz];exact hcl
   rw [hcv',<-hpos] at hrun;simp [execOp,hpv,Instr.storeAt,Instr.sureAddr,storeVar,hso,hc1,hrun]
  unfold Oper.wp;rw [hexec]
  have hheap:∀B',B'≠B->w'.heap[B']?=w.heap[B']?:=λB' h=>by rw [hw'];exact OM _ _ _ _ _ h
  have hsize:w'.heap.size=w.heap.size:=by rw [hw'];exact ziy _ _ _ _
  have hosw:=I2 B cv ((q0+i)*k+j) w;rw [<-hw'] at hosw;have himm':=DG himm
  have hvi:∀q (h:q<cv.length) y,cs[q]?=some y->VI A w y cv[q]:=λq h y hy=>by
   have h1:=hcv q (by omega);obtain ⟨hq,hy2⟩:=Qb.1 hy
   have e:(a.eval v).cells.getD q undef=cv[q]:=by
    have h2:q<(a.eval v).cells.size:=by rw [hcl];exact hq
    simp [hcv',Array.getD,h2]
   rw [hy2,e] at h1
   have hyi:Imm y:=by
    cases av with
    |agg ds =>
     simp only [UZ] at hcs;split at hcs
     .cases hcs;exact (Uf (show Ze cs=true from himm)).mem y (Qc hy)
     .cases hcs
    |lit z =>
     simp only [UZ] at hcs;split at hcs
     .cases hcs
      have:y=.lit z:=by
       cases q with
       |zero=>simpa using hy.symm
       |succ q=>simp at hy
      subst this;exact .lit _
     .cases hcs
    |fr z =>
     simp only [UZ] at hcs;split at hcs
     .cases hcs
      have:y=.fr z:=by
       cases q with
       |zero=>simpa using hy.symm
       |succ q=>simp at hy
      subst this;exact .fr _
     .cases hcs
    |any=>cases hcs
    |tup _=>cases hcs
    |isl _ _=>cases hcs;cases q with
     |zero=>simp at hy;subst hy;exact himm'
     |succ q=>simp at hy
    |ipt _ _ _ _=>cases hcs;cases q with
     |zero=>simp at hy;subst hy;exact himm'
     |succ q=>simp at hy
    |msl _ _ _=>cases hcs;cases q with
     |zero=>simp at hy;subst hy;exact himm'
     |succ q=>simp at hy
    |mpt _ _ _=>cases hcs;cases q with
     |zero=>simp at hy;subst hy;exact himm'
     |succ q=>simp at hy
    |fn _ _ _=>cases hcs;cases q with
     |zero=>simp at hy;subst hy;exact himm'
     |succ q=>simp at hy
    |imp _=>cases hcs;cases q with
     |zero=>simp at hy;subst hy;exact himm'
     |succ q=>simp at hy
    |mmp _=>cases hcs;cases q with
     |zero=>simp at hy;subst hy;exact himm'
     |succ q=>simp at hy
   exact hyi.vi h1
  have hTC:TC A A w w':=by
   rw [hw'];refine zD6 hA.1 hfun (λB k h=>hF.fresh h) (λ_ _ h=>h) (by omega) λq hq=>?_;obtain ⟨u,h1,h2⟩:=hold q hq;refine ⟨u,h1,?_⟩
   have hq':q<cs.length:=by omega
   obtain ⟨x0,h3,h4⟩:=h2 _ (Qe hq');rw [hw'] at hheap;exact h3.tk hfun hA.1 hheap h4 (hvi q hq _ (Qe hq'))
  have hown:∀l b,m l=some b->b.has=true->w'.heap[b.B]?=w.heap[b.B]?:=λl b hb hh=>hheap _ (hR.aOwn B k l b hA.1 hb hh);have hR':R A m w' st:=hR.again hst (by rw [hsize];exact Qk _) hown (λB k h=>by rw [hsize];exact hR.aLow B k h) hR.aOwn hR.aFun;obtain ⟨htl,hlv⟩:=hE.val tl _ hl;obtain ⟨cl',h1,_,h2⟩:=lT IQ hTC hW hlv.isl_inv;refine hn _ _ ⟨A,m,_,st,⟨λB' hB'=>(hheap B' (by omega)).trans (hF.heap B' hB'),hosw.1.trans hF.os,hosw.2.1.trans hF.tape,hosw.2.2.trans hF.output,hF.old⟩,hR',⟨hE.size,λt' y hy=>?_,hE.defers⟩,hK cl' h2⟩;simp only [look] at hy;split at hy
  .rename_i e;subst e;cases hy;exact ⟨htl,.imm h1⟩
  .obtain ⟨h3,h4⟩:=hE.val t' y (he t' y hy)
   exact ⟨h3,h4.again (zq9 (f:=λv=>match v with |.lit _ |.mpt .. |.msl ..=>true |_=>false) hl0 hy)⟩
end
theorem Fx.rs{wS:World}{G A:Am}{m:BM}{w:World}{st:St}(hR:R A m w st)(h:Fx wS G A w)(L:Xt):Fx wS G (Ky A m L) w:=
 ⟨h.heap,h.os,h.tape,h.output,λB k hB=>by
  rcases hB with h1 |⟨l,b,h1,h2,rfl,_⟩
  .exact h.old B k h1
  .exact .inr (hR.nOwn l b h1 h2).1⟩
section
variable {P : Program} {n : Nat} {wS : World} {G : Am} {Q : Exit -> Ev -> St -> Prop} {env : Ev} {st : St}
theorem zDM{c:Code}{E:Ev}{S:St}(h:Can 0 E S env st)(k:FW P n wS G c Q E S):FW P n wS G c Q env st:=λA m w a hF hR hE=>by
 obtain ⟨L,c1,c2,c3,c4,c5⟩:=h;have hs:=Ke.of c2 c3;exact k _ _ w a (hF.rs hR L) (hR.rs hs) (hE.rs hR hs c1)
theorem zFU{o:Oper}{E:Ev}{S:St}{K:Ev->St->Prop}(h:Can 0 E S env st)(k:FP P n wS G o K E S):FP P n wS G o K env st:=λA m w a hF hR hE=>by
 obtain ⟨L,c1,c2,c3,c4,c5⟩:=h;have hs:=Ke.of c2 c3;exact k _ _ w a (hF.rs hR L) (hR.rs hs) (hE.rs hR hs c1)
theorem zAi{x y:Code}(I:Ev->St->Prop)(h1:FW P n wS G x (Do I Q) env st)(h2:∀env st,I env st->FW P n wS G y Q env st):FW P n wS G (.seq x y) Q env st:=
 XN (zEK h1 λe env st h=>by cases e <;> first |exact h2 _ _ h |exact h)
theorem zxu{id:Nat}{ops:Array Oper}(l1:List Oper)(z:Oper)(E:Ev)(S:St)(ss en:List Nat)(F:Ev)(k:Nat)(hall:ops.toList=l1++[z])(hm:P.follows .mixedOrders=true)(hok:KZ n l1=true)(hgs:l1.all (λo=>o.guard.isNone)=true)(hg:z.guard=none)
  (hz:zHm l1 z=true) (hzl:z.after.toList.all (λe=>!Region.binds .any e||Nat.blt e.on l1.length)=true)
  (hss:KY l1.length ss=true) (hks:Uc l1 en (XT F)=true) (h:DT P l1 ss env (λenv st=>Can 0 E S env st) k [] en F st) (hy:FP P n wS G z (Q .normal) E S):FW P n wS G (.region id ops true) Q env st:=by
 have hsub:∀(k:Nat) (p en:List Nat) (F:Ev) (st:St),DT P l1 ss env (λenv st=>Can 0 E S env st) k p en F st->DT P l1 ss env (λenv st=>FP P n wS G z (Q .normal) env st) k p en F st:=by
  intro k
  induction k with
  |zero=>exact λp en F st h=>⟨h.1,h.2.1,h.2.2.1,zFU h.2.2.2 hy⟩
  |succ k ih =>
   intro p en F st h;refine ⟨h.1,h.2.1,h.2.2.1,λs a b c=>?_⟩;have:=h.2.2.2 s a b c
   cases ho:l1[s]? with
   |none=>rw [ho] at this;exact this.elim
   |some o =>
    rw [ho] at this;refine ⟨this.1,?_⟩;have h2:=this.2;unfold Z6 at h2 ⊢
    cases hic:ZF o.op with
    |true =>
     rw [hic] at h2;simp only at h2 ⊢
     cases hac:Kh (sel F (ea l1 env s) (X6 l1 o.after.toList)) o.op with
     |none=>rw [hac] at h2;exact h2.elim
     |some y =>
      rw [hac] at h2;exact h2.mono λav st' ⟨en',new,k1,k2,k3,k4⟩=>⟨en',new,k1,k2,k3,ih _ _ _ _ k4⟩
    |false =>
     rw [hic] at h2;simp only at h2 ⊢
     cases hac:aop P (sel F (ea l1 env s) (X6 l1 o.after.toList)) st o.op with
     |none=>rw [hac] at h2;exact h2.elim
     |some y =>
      rw [hac] at h2;obtain ⟨en',new,k1,k2,k3,k4⟩:=h2;exact ⟨en',new,k1,k2,k3,ih _ _ _ _ k4⟩
 exact zFV hall ss en F k hm hok hgs hg hz hzl hss hks (hsub _ _ _ _ _ h)
end
def zHo(env:Ev):Ev->Prop
 | []=>True
 |p ::r=>look env p.1=some p.2/\zHo env r
theorem UR{env0 env:Ev}(h:zHo env env0):∀t v,look env0 t=some v->look env t=some v:=λt v ht=>by
 induction env0 with
 |nil=>cases ht
 |cons p r ih =>
  obtain ⟨k,x⟩:=p;simp only [look] at ht;split at ht
  .rename_i e;subst e;cases ht;exact h.1
  .exact ih h.2 ht
def Re(x:AV)(Y:AV->Prop):Prop:=KQ x=true/\Y x/\∀(D D':Am) (w w':World) (u:Value),TC D D' w w'->VI D w x u->∃y,Y y/\VI D' w' y u
theorem reL{α:Type}{f:α->List AV}{k:Nat}{W:α->Prop}(hf:Kw f k W){xs:List α}(hW:wL W xs):Re (.isl k (xs.map f)) (λy=>∃xs':List α,y=.isl k (xs'.map f)/\xs'.length=xs.length/\wL W xs'):=
 ⟨rfl,⟨xs,rfl,rfl,hW⟩,λD D' w w' u hT h=>by obtain ⟨xs',h1,h2,h3⟩:=lT hf hT hW h;exact ⟨_,⟨xs',rfl,h2,h3⟩,h1⟩⟩
theorem reP{α:Type}{f:α->List AV}{k i j:Nat}{W:α->Prop}(hf:Kw f k W){xs:List α}(hW:wL W xs):Re (.ipt k (xs.map f) i j) (λy=>∃xs':List α,y=.ipt k (xs'.map f) i j/\xs'.length=xs.length/\wL W xs'):=
 ⟨rfl,⟨xs,rfl,rfl,hW⟩,λD D' w w' u hT h=>by obtain ⟨xs',h1,h2,h3⟩:=pT hf hT hW h;exact ⟨_,⟨xs',rfl,h2,h3⟩,h1⟩⟩
theorem zFK{P:Program}{n:Nat}{wZ:World}{env:Ev}{st:St}{K:Ev->St->Prop}{d:Nat}{x y:Operand}{t e:TypeId}{ti te:TI}{ty:TypeId}{pos:String}{aft:Array Edge}{xs:List (List UInt8)}{b:Nat}{s:List UInt8}{t0 t3:Nat}{x0 x3:AV}{Y0 Y3:AV->Prop}{env0:Ev}
  (hdn:d<n) (ht:Xf P t=some ti) (hk:ti.k=.slc e) (he:Xf P e=some te) (hs1:te.size=1) (hfit:(xs.length+1)*te.bytes≤140737488355328) (hlen:xs.length+1≤9223372036854775807)
  (hx:ev env x=some (.isl 1 (xs.map Xe))) (hy:ev env y=some (.msl b 0 1)) (hb:st[b]?=some (some (1,[Xe s]))) (hWx:wL wS xs) (hWs:wS s) (hst:BJ st=true)
  (h0:look env t0=some x0) (hW0:Re x0 Y0) (h3:look env t3=some x3) (hW3:Re x3 Y3) (hsub:∀t v,look env0 t=some v->look env t=some v) (hl0:zGG env0=true)
  (hK:∀xs' y3 y0,wL wS xs'->Y3 y3->Y0 y0->K ((d,.isl 1 (xs'.map Xe))::(t3,y3)::(t0,y0)::env0) st):
  ∀A m w a,Fx wZ noA A w->R A m w st->Env A m st.length w n env a->∀next Q',(∀a' w',FO wZ noA n K a' w'->(∀B k,A B k->k≠1->w'.heap[B]?=w.heap[B]?)->next a' w') ->
   Oper.wp P ⟨some d,.call ⟨.builtin .append,#[x,y],#[t,t]⟩,ty,pos,aft,none⟩ a w next Q':=λA m w a hF hR hE next Q' hn=>by
 have hfun:∀B k k',A B k->A B k'->k=k':=λB k k' h h'=>hR.aFun B k k' (hF.fresh h) h h';obtain ⟨d0,i0,hd0,hi0,_,_,_,hdk,_⟩:=XY ht;rw [hk] at hdk;have:=UI hdk;subst this;obtain ⟨d2,i,_,hi,hz,hsize,hbytes,_,hzs⟩:=XY he;rw [hs1] at hsize hzs;have hsrc0:zGA A m st.length w P 1 t (a.eval y) [Xe s]:=zx5 hR ht hk (by simp [Ub,hb]) (zV hE hy) rfl;obtain ⟨news,hsrc,hval⟩:=hsrc0.src;have hnl:=hsrc.newsLen
 obtain ⟨nv,rfl⟩:∃nv,news=[nv]:=by
  match news,(show news.length=1 by simpa using hnl) with
  | [u],_=>exact ⟨u,rfl⟩
 have hnv:nv=.string (B s):=by
  have h:=hval 0 (by simp) 0 (by show 0<1;decide)
  have h':V A m st.length w (sA s) nv:=by simpa [Xe] using h
  exact h'.lit_inv
 subst hnv
 have hsrc':Go.Src P i.size t (a.eval y) 1 [.string (B s)] w:=by rw [hsize];simpa using hsrc
 have hxv:=(zV hE hx).isl_inv
 have fin:∀(v:Value) (w':World) (A':Am) (xs':List (List UInt8)),(Builtin.append_ #[t,t] ty #[a.eval x,a.eval y]).run P w=.ok v w'->Fx wZ noA A' w'->R A' m w' st->VI A' w' (.isl 1 (xs'.map Xe)) v->wL wS xs' ->
   (∀u,VI A w x0 u->∃y,Y0 y/\VI A' w' y u)->(∀u,VI A w x3 u->∃y,Y3 y/\VI A' w' y u)->(∀B k,A B k->k≠1->w'.heap[B]?=w.heap[B]?) ->
   Oper.wp P ⟨some d,.call ⟨.builtin .append,#[x,y],#[t,t]⟩,ty,pos,aft,none⟩ a w next Q':=λv w' A' xs' hrun hF' hR' hv hwx hc hm hh=>by
  obtain ⟨cs0,hb0⟩:=zi9 a.eval { dst:=some d,op:=.call { callee:=.builtin .append,args:=#[x,y],argTypes:=#[t,t] },type:=ty,pos:=pos,after:=aft,guard:=none } .append #[x,y] #[t,t] rfl P w
  have hexec:(execOp a.eval { dst:=some d,op:=.call { callee:=.builtin .append,args:=#[x,y],argTypes:=#[t,t] },type:=ty,pos:=pos,after:=aft,guard:=none }).run P w=.ok (.value v) w':=by
   rw [hb0];simp [builtin,hrun]
  unfold Oper.wp;rw [hexec];obtain ⟨q1,q2⟩:=hE.val t0 _ h0;obtain ⟨q3,q4⟩:=hE.val t3 _ h3;obtain ⟨cs',c2,c1⟩:=hc _ ((DG hW0.1).vi q2);obtain ⟨mps',m3,m1⟩:=hm _ ((DG hW3.1).vi q4);refine hn _ _ ⟨A',m,_,st,hF',hR',Env.put (v:=v) ⟨hE.size,λt' z hz=>?_,hE.defers⟩ hdn (.imm hv),hK xs' mps' cs' hwx m3 c2⟩ hh;simp only [look] at hz;split at hz
  .rename_i e';subst e';cases hz;exact ⟨q3,.imm m1⟩
  .split at hz
   .rename_i e';subst e';cases hz;exact ⟨q1,.imm c1⟩
   .obtain ⟨q5,q6⟩:=hE.val t' z (hsub t' z hz)
    exact ⟨q5,q6.again (zq9 (f:=λv=>match v with |.lit _ |.mpt .. |.msl ..=>true |_=>false) hl0 hz)⟩
 have room:∀(B0 o cap:Nat),Okb A w B0 o 1 cap->a.eval x=.slice (some ⟨B0,o,none⟩) xs.length cap->xs.length+1≤cap ->
   (∀w',TC A A w w'->∃(xs':List (List UInt8)) (vs':Nat->Nat->Value),xs'.length=xs.length/\(∀x∈xs',wS x)/\(∀i j,i<(xs'.map Xe).length->j<1->w'.cell? ⟨B0,o+i*1+j,none⟩=some (vs' i j)) /\
    ∀i (h:i<(xs'.map Xe).length) j (h':j<(xs'.map Xe)[i].length),VI A w' (xs'.map Xe)[i][j] (vs' i j)) ->
   Oper.wp P ⟨some d,.call ⟨.builtin .append,#[x,y],#[t,t]⟩,ty,pos,aft,none⟩ a w next Q':=λB0 o cap hA hxe hroom hcont=>by
  have hN:=hF.fresh hA.1;obtain ⟨_,hr⟩:=hA.2 hN;obtain ⟨⟨u0,hu0⟩,hf0⟩:=hr xs.length (by omega);obtain ⟨w',hw'⟩:∃w',w'=w.setCells B0 (o+xs.length) [.string (B s)]:=⟨_,rfl⟩
  have hrun:=run_append_room_src (P:=P) w t t ty e i hd0 hi B0 o xs.length cap (a.eval y) 1 [.string (B s)] hsrc' hroom
   (λj hj=>by
     have:j=0:=by simpa using hj
     subst this;rw [hsize];simp [hu0])
   (λj hj=>by
     have:j=0:=by simpa using hj
     subst this;rw [hsize];exact Ok (by simpa using hf0))
  rw [hsize,Yn,<-hw',<-hxe] at hrun
  have hheap:∀B',B'≠B0->w'.heap[B']?=w.heap[B']?:=λB' h=>by rw [hw'];exact OM _ _ _ _ _ h
  have hsz:w'.heap.size=w.heap.size:=by rw [hw'];exact ziy _ _ _ _
  have hosw:=I2 B0 [.string (B s)] (o+xs.length) w;rw [<-hw'] at hosw
  have hTC:TC A A w w':=by
   have h:=zD6 (D:=A) (D':=A) (w:=w) (B:=B0) (k:=1) (e:=o+xs.length) (j0:=0) (cl:=[.string (B s)]) hA.1 hfun (λB k h=>hF.fresh h) (λ_ _ h=>h) (by simp) (λq hq=>by
    have:q=0:=by simpa using hq
    subst this
    exact ⟨u0,by simpa using hu0,.one hWs⟩)
   rw [hw'];simpa using h
  obtain ⟨xs',vs',g1,g2,g3,g4⟩:=hcont w' hTC
  have hcell:w'.cell? ⟨B0,o+xs.length,none⟩=some (.string (B s)):=by
   have:=World.cell?_setCells_in B0 [.string (B s)] (o+xs.length) w (λj hj=>by
    have:j=0:=by simpa using hj
    subst this;simp [hu0]) 0 (by simp)
   rw [hw'];simpa using this
  refine fin _ w' A (xs'++[s]) hrun ⟨λB' hB'=>(hheap B' (by omega)).trans (hF.heap B' hB'),hosw.1.trans hF.os,hosw.2.1.trans hF.tape,hosw.2.2.trans hF.output,hF.old⟩
   (hR.again hst (by rw [hsz];exact Qk _) (λl b' hb' hh=>hheap _ (hR.aOwn B0 1 l b' hA.1 hb' hh)) (λB' k h=>by rw [hsz];exact hR.aLow B' k h) hR.aOwn hR.aFun) ?_ ⟨by simp [g1];omega,λz hz=>?_⟩
   (λu hu=>hW0.2.2 A A w w' u hTC hu) (λu hu=>hW3.2.2 A A w w' u hTC hu) (λB k hB hk=>hheap B λe=>hk (hfun B k 1 hB (e ▸ hA.1)))
  .have hl:((xs'++[s]).map Xe).length=xs.length+1:=by simp [g1]
   have:=VI.isl (A:=A) (w:=w') 1 ((xs'++[s]).map Xe) B0 o cap (λi j=>if i<xs.length then vs' i j else .string (B s)) (hTC.okb hA) (by rw [hl];exact hroom) (λi hi=>by rw [QR];rfl)
    (λi j hi hj=>by
     rw [hl] at hi;by_cases hix:i<xs.length
     .simp only [hix,if_true];exact g3 i j (by simp [g1];exact hix) hj
     .have h1:i=xs.length:=by omega
      have h2:j=0:=by omega
      subst h1;subst h2;simp only [Nat.lt_irrefl,if_false,Yn,Q6]
      exact hcell)
    (λi hi j hj=>by
     have hi':=hi;rw [hl] at hi'
     have hj0:j=0:=by
      have:((xs'++[s]).map Xe)[i].length=1:=by rw [QR];rfl
      omega
     subst hj0;by_cases hix:i<xs.length
     .simp only [hix,if_true];have h5:=g4 i (by simp [g1];exact hix) 0 (by rw [QR];exact JQ)
      have e5:((xs'++[s]).map Xe)[i]=(xs'.map Xe)[i]'(by simp [g1];exact hix):=by
       rw [QR,QR,Jd (show i<xs'.length by omega)]
      have e6:((xs'++[s]).map Xe)[i][0]=((xs'.map Xe)[i]'(by simp [g1];exact hix))[0]'(by rw [QR];exact JQ):=by simp only [e5]
      rw [e6];exact h5
     .have h1:i=xs'.length:=by omega
      subst h1;simp only [hix,if_false]
      have e5:((xs'++[s]).map Xe)[xs'.length][0]=sA s:=by simp [Xe]
      rw [e5]
      exact .lit _)
   rw [hl] at this;exact this
  .rcases Qq.1 hz with h |h
   .exact g2 z h
   .have:z=s:=by simpa using h
    subst this;exact hWs
 have grow:∀(base:Option Addr) (cap:Nat) (olds:List Value),a.eval x=.slice base xs.length cap->(Builtin.firstCells i.size xs.length (.slice base xs.length cap)).run P w.drew=.ok olds.toArray w.drew->olds.length=xs.length ->
   (∀i (h:i<xs.length),olds.getD i undef=.string (B xs[i]))->cap<xs.length+1->Oper.wp P ⟨some d,.call ⟨.builtin .append,#[x,y],#[t,t]⟩,ty,pos,aft,none⟩ a w next Q':=λbase cap olds hxe hfc hol hov hlt=>by
  have hrun:=run_append_grow_src (P:=P) w t t ty e i te.zero hd0 hi hz base xs.length cap olds hfc (a.eval y) 1 [.string (B s)] hsrc' hlt (by omega) (growslice_fits hlt (by rw [hbytes];exact hfit));rw [<-hxe] at hrun;have hcap:=grownCap_ge w (xs.length+1) cap e;obtain ⟨C,hC⟩:∃C:Array Value,C=(olds++[Value.string (B s)]).toArray++Builtin.zeroCells te.zero.cells (grownCap w (xs.length+1) cap e-(xs.length+1)):=⟨_,rfl⟩;rw [<-hC] at hrun
  have hcl:C.size=grownCap w (xs.length+1) cap e:=by
   rw [hC];simp only [Array.size_append,List.size_toArray,QA,size_zeroCells,hzs,hol,List.length_singleton];omega
  have hcell:∀off,(w.drew.alloc (.cells C e)).cell? ⟨w.heap.size,off,none⟩=C[off]?:=λoff=>World.cell?_alloc_new w.drew C e off;have hg:XK w (w.drew.alloc (.cells C e)):=(XK.drew w).trans (XK.alloc _ _);obtain ⟨A',hA'⟩:∃A':Am,A'=λB k=>A B k∨(B=w.heap.size/\k=1):=⟨_,rfl⟩
  have hsub:∀B k,A B k->A' B k:=λB k h=>by rw [hA'];exact .inl h
  obtain ⟨hR',hS'⟩:=hR.grow (A':=A') hg hsub (λB k h=>by
   rw [hA'] at h
   rcases h with h |⟨rfl,_⟩
   .exact .inl h
   .refine .inr ⟨Qk _,?_⟩;show w.heap.size<(w.drew.alloc _).heap.size
    rw [World.size_alloc];exact QN _) (λB k k' hN h h'=>by
   rw [hA'] at h h'
   rcases h with h |⟨h,rfl⟩ <;> rcases h' with h' |⟨h',rfl⟩
   .exact hR.aFun B k k' hN h h'
   .have:=hR.aLow B k h;omega
   .have:=hR.aLow B k' h';omega
   .rfl)
  have hmono:∀{av u},VI A w av u->VI A' (w.drew.alloc (.cells C e)) av u:=λh=>h.mono hsub λB k hB=>hg.heap B (hR.aLow B k hB)
  refine fin _ _ A' (xs++[s]) hrun ⟨λB' hB'=>(hg.heap B' (QI hB' hR.nLe)).trans (hF.heap B' hB'),hg.os.trans hF.os,hg.tape.trans hF.tape,hg.output.trans hF.output,λB k h=>by
   rw [hA'] at h
   rcases h with h |⟨rfl,_⟩
   .exact hF.old B k h
   .exact .inr hR.nLe⟩ hR' ?_ ⟨by simp;omega,λz hz=>?_⟩ (λu hu=>⟨x0,hW0.2.1,hmono hu⟩) (λu hu=>⟨x3,hW3.2.1,hmono hu⟩) (λB k hB _=>hg.heap B (hR.aLow B k hB))
  .have hl:((xs++[s]).map Xe).length=xs.length+1:=by simp
   have hget:∀i (h:i<xs.length+1),C[i]?=some (.string (B ((xs++[s])[i]'(by simpa using h)))):=λi h=>by
    rw [hC,Jg (by simp [hol];omega)];by_cases hix:i<xs.length
    .have h1:=hov i hix
     have h2:i<olds.length:=by omega
     simp [Qm h2,Qe h2,Jd hix] at h1 ⊢;exact h1
    .have h1:i=xs.length:=by omega
     subst h1;simp [Qs (show olds.length≤xs.length by omega),hol]
   have:=VI.isl (A:=A') (w:=w.drew.alloc (.cells C e)) 1 ((xs++[s]).map Xe) w.heap.size 0 (grownCap w (xs.length+1) cap e) (λi j=>.string (B ((xs++[s]).getD i []))) ⟨by rw [hA'];exact .inr ⟨rfl,rfl⟩,λ_=>⟨⟨0,by simp⟩,λoff ho=>by
     rw [QM,hcell]
     refine ⟨⟨_,QE (by rw [hcl];omega)⟩,I7 (w:=w.drew) _ e off⟩⟩⟩ (by rw [hl];exact hcap) (λi hi=>by rw [QR];rfl)
    (λi j hi hj=>by
     rw [hl] at hi
     have h2:j=0:=by omega
     subst h2
     have h3:i<(xs++[s]).length:=by simpa using hi
     simp only [QM,Yn,Q6];rw [hcell,hget i hi]
     simp only [Qi,Qe h3,QY])
    (λi hi j hj=>by
     have hi':=hi;rw [hl] at hi'
     have hj0:j=0:=by
      have:((xs++[s]).map Xe)[i].length=1:=by rw [QR];rfl
      omega
     subst hj0
     have h3:i<(xs++[s]).length:=by simpa using hi'
     have e5:((xs++[s]).map Xe)[i][0]=sA ((xs++[s]).getD i []):=by
      simp only [QR,Xe,Qi,Qe h3,QY];rfl
     rw [e5]
     exact .lit _)
   rw [hl] at this;exact this
  .rcases Qq.1 hz with h |h
   .exact hWx.2 z h
   .have:z=s:=by simpa using h
    subst this;exact hWs
 generalize hq:xs.map Xe=els at hxv;generalize hxe:a.eval x=xv at hxv
 have hlen0:els.length=xs.length:=by rw [<-hq];simp
 cases hxv with
 |isl _ _ B0 o cap vs hA hcap hkk hc hv =>
  subst hq;rw [hlen0] at hxe hcap;by_cases hroom:xs.length+1≤cap
  .refine room B0 o cap hA hxe hroom λw' hTC=>?_;obtain ⟨xs',vs',g1,g2,_,g3,g4⟩:=zFg zA7 hTC hWx.2 hA.1 (q:=o) (by omega) hc hv;exact ⟨xs',vs',g1,g2,g3,g4⟩
  .have hrd:Rd A m st.length w B0 o 1 (xs.map Xe):=⟨hkk,λi hi j hj=>⟨_,hc i j hi (by rw [<-hkk i hi];exact hj),.imm (hv i hi j hj)⟩⟩;obtain ⟨olds,ho1,ho2,ho3⟩:=hrd.flat;refine grow (some ⟨B0,o,none⟩) cap olds hxe ?_ (by rw [ho1];simp) (λi hi=>?_) (by omega)
   .refine run_firstCells_some w.drew i.size xs.length ⟨B0,o,none⟩ xs.length cap olds (by rw [ho1,hsize];simp) λj v hj=>?_
    have hadd:(⟨B0,o,none⟩:Addr).add j=⟨B0,o+j,none⟩:=by unfold Addr.add;split <;> simp_all
    rw [hadd];simpa using ho2 j v hj
   .have h4:=ho3 i (by simpa using hi) 0 (by rw [QR];exact JQ)
    have e5:(xs.map Xe)[i]'(by simpa using hi)=[sA xs[i]]:=by simp [Xe]
    have e6:((xs.map Xe)[i]'(by simpa using hi))[0]'(by rw [e5];exact JQ)=sA xs[i]:=by simp only [e5];rfl
    rw [e6] at h4;simpa using h4.lit_inv
 |inil _ ad cap hN =>
  have hx0:xs=[]:=by simpa using hq
  subst hx0
  rcases Q8 cap with h |h
  .subst h;refine grow ad 0 [] hxe ?_ rfl (λi hi=>by cases hi) (by simp);cases ad <;> simp [Builtin.firstCells,loadCells,loadCellsFrom]
  .rcases hN with h1 |⟨B0,o,h1,hA⟩ |⟨B0,k',h1,h2⟩
   .omega
   .subst h1;exact room B0 o cap hA hxe h λw' hTC=>⟨[],λ_ _=>undef,rfl,(λx hx=>by cases hx),(λi j hi=>by cases hi),λi hi=>by cases hi⟩
   .exact absurd (hF.fresh h1) (by omega)
theorem zDL{P:Program}{n:Nat}{wZ:World}{env:Ev}{st:St}{K:Ev->St->Prop}{d:Nat}{x y:Operand}{t e:TypeId}{ti te:TI}{ty:TypeId}{pos:String}{aft:Array Edge}{xs:List (List UInt8)}{b:Nat}{s:List UInt8}{t0 t3:Nat}{x0 x3:AV}{Y0 Y3:AV->Prop}{env0:Ev}
  (hdn:d<n) (ht:Xf P t=some ti) (hk:ti.k=.slc e) (he:Xf P e=some te) (hs1:te.size=1) (hfit:(xs.length+1)*te.bytes≤140737488355328) (hlen:xs.length+1≤9223372036854775807)
  (hx:ev env x=some (.isl 1 (xs.map Xe))) (hy:ev env y=some (.msl b 0 1)) (hb:st[b]?=some (some (1,[Xe s]))) (hWx:wL wS xs) (hWs:wS s) (hst:BJ st=true)
  (h0:look env t0=some x0) (hW0:Re x0 Y0) (h3:look env t3=some x3) (hW3:Re x3 Y3) (hsub:∀t v,look env0 t=some v->look env t=some v) (hl0:zGG env0=true)
  (hK:∀xs' y3 y0,wL wS xs'->Y3 y3->Y0 y0->K ((d,.isl 1 (xs'.map Xe))::(t3,y3)::(t0,y0)::env0) st):
  FP P n wZ noA ⟨some d,.call ⟨.builtin .append,#[x,y],#[t,t]⟩,ty,pos,aft,none⟩ K env st:=λA m w a hF hR hE next Q' hn =>
 zFK hdn ht hk he hs1 hfit hlen hx hy hb hWx hWs hst h0 hW0 h3 hW3 hsub hl0 hK A m w a hF hR hE next Q' λa' w' h _=>hn a' w' h
theorem K9{α:Type}{f:α->List AV}{l:List α}{i:Nat}{c:α}(h:l[i]?=some c):(l.map f)[i]?=some (f c):=by simp [h]
theorem K1{k j:Nat}{row:List AV}{u y0:AV}(h:row[j]?=some u)(t:TkA k j u y0):∀q y,[y0][q]?=some y->∃u,row[j+q]?=some u/\TkA k (j+q) u y:=λq y hq=>by
 match q,hq with
 | 0,hq=>cases hq;exact ⟨u,h,t⟩
 |q+1,hq=>cases hq
def KV:List AV->List AV->Prop
  | [],[]=>True
  |x ::l,y ::r=>UnF x y/\KV l r
  |_,_=>False
theorem KV.get:∀{l r:List AV},KV l r->l.length=r.length/\∀i (h:i<l.length) (h':i<r.length),UnF l[i] r[i]
  | [],[],_=>⟨y,λi h=>by cases h⟩
  | [],_ :: _,h=>h.elim
  |_ :: _,[],h=>h.elim
  |x ::l,y ::r,h=>by
    obtain ⟨h1,h2⟩:=KV.get h.2;refine ⟨by simp [h1],λi hi hi'=>?_⟩
    cases i with
    |zero=>exact h.1
    |succ i=>exact h2 i (by simpa using hi) (by simpa using hi')
theorem Bw{α:Type}{st:St}{L:Xt}{b sz:Nat}{l:List α}{f g:α->List AV}(h:∀x,KV (g x) (f x))(hD:Ur L b=false)(hb:st[b]?=some (some (sz,l.map g))):Rs st L (.fr (.isl sz (l.map f))) (.msl b 0 l.length):=
  .sf hD hb (by simp) (by simp) (λq h1 h2=>by simpa using (h _).get.1) λq h1 h2 j h3 h4=>by
    simp only [QR] at h3 h4 ⊢;exact (h _).get.2 j h3 h4
theorem unl{v:Value}:UnF (.lit v) (.lit v):=.inr ⟨v,y,y⟩
theorem unf{v:AV}:UnF (.fr v) v:=.inl y
def WP(x:zS):List AV:=[iA x.At,.fr (tL x.Locals),.fr (tL x.Stack)]
def Kq(x:zb):List AV:=[sA x.Name,.fr (tL x.Params),sA x.Ret,bA x.Static,bA x.Abstract,iA x.Locals,iA x.Stack,.fr (.isl 4 (map zn x.Code)),.fr (.isl 3 (map zA x.Maps)),.fr (.isl 4 (map zY x.Traps))]
def DM(x:za):List AV:=[sA x.Name,sA x.Super,bA x.Interface,.fr (tL x.Impl),.fr (.isl 3 (map zv x.Fields)),.fr (.isl 10 (map zc x.Methods))]
theorem zH9(x:T0):KV (Xe x) (Xe x):=⟨unl,t⟩
theorem zH7(x:zr):KV (zn x) (zn x):=⟨unl,unl,unl,unl,t⟩
theorem zHl(x:zT):KV (zY x) (zY x):=⟨unl,unl,unl,unl,t⟩
theorem zGy(x:zj):KV (zv x) (zv x):=⟨unl,unl,unl,t⟩
theorem zH8(x:zS):KV (WP x) (zA x):=⟨unl,unf,unf,t⟩
theorem zFx(x:zb):KV (Kq x) (zc x):=⟨unl,unf,unl,unl,unl,unl,unl,unf,unf,unf,t⟩
theorem zGx(x:za):KV (DM x) (zf x):=⟨unl,unl,unl,unf,unf,unf,t⟩
theorem H0(d:T1)(e:Int){r:T1}(h:Kn d e=some r):Xm prog 70 [tL d,iA e] (.fr (tL r)):=by
 refine zi func70 y kz y y ?_;unfold Kn at h;refine rg y<|u<|asg y<|zo ?_;refine rg y<|u<|asg y<|zo ?_;refine ze ?_;refine rg y<|u<|asg y<|zo ?_;obtain ⟨o,ho,h⟩:=bs h;refine HD (X:=T1×Int) (B:=T1) (R:=T1) (λz=>[(0,tL d),(1,iA e),(5,.msl 0 0 (length z.1)),(6,iA z.2)]) (λz=>[sT z.1]) (λb=>[(5,.msl 0 0 (length b))]) (λb=>[sT b]) (λr env st=>Ua prog f70 0 (.fr (tL r)) [] env st) ho ⟨[.fresh 1],ce y y<|ce y y<|cv y (.nilown y)<|ce y y<|cn,y,⟨w,t⟩,y,k⟩ ?_ ?_ ?_
 ·
  rintro ⟨q,s⟩ r h;replace h:DW d e q s=some r:=h;unfold DW at h;refine ze ?_;refine rg y<|u<|mv y<|u<|mv y<|u<|lnI ti y y<|u<|lss ti y y<|u<|mv y<|X1 (j:=4) 3 y y y y y gpn (λa=>g y a<|mv y<|g y a<|mv y<|g y a<|lss ti y y<|zo (egA [12,13,14] 3 a y y y y)) Hr<|zo ?_;refine U5 y (λc=>?_) (λc=>?_)
  ·
   replace h:=bT c h;refine zd ?_;refine ze ?_;refine zh ?_;obtain ⟨i,l,h⟩:=bs h;obtain ⟨m,v,h⟩:=bs h;obtain ⟨x,n,h⟩:=bs h;refine rl y<|u<|mv y<|u<|mv y<|u<|mv y<|u<|ixI ti y ti y y y l<|u<|ldI ti y (zz l).2.2 y<|u<|pc (ZY i 12 v) y y y<|u<|bl 1 ti y ti y (by decide) (by decide) y y y<|u<|apM 2 ti y ti y y (by decide) ti y y y y (roX (f:=Xe) (z:=[m]) y y) (λ_=>y) y n<|u<|asg y<|zo ?_;refine rl y<|u<|mv y<|u<|add ti y y<|u<|asg y<|zo ?_;cases h;exact ⟨_,y,zl [2]⟩
  ·
   replace h:=bF c h;refine zs ?_;cases h;exact ⟨y,_,y,zl [0]⟩
 ·
  rintro p rfl;replace h:zl7 p=some r:=h;unfold zl7 at h;refine zm ?_;refine rg y<|u<|mv y<|u<|asg y<|zo ?_;refine zy ?_;cases h;exact ⟨_,y,[],Bw zH9 y y,y,t,y,k⟩
 ·
  rintro r' rfl env st hp;cases h;exact hp
theorem zrL(a:zb){r:zb}(h:OH a=some r):Xm prog 71 [.agg (zc a)] (.agg (Kq r)):=by
 refine zi func71 y kz y y ?_;unfold OH at h;refine rg y<|u<|bx 0 10 y y y y<|u<|al 1 ti y<|zo ?_;obtain ⟨d,Z,h⟩:=bs h;obtain ⟨e,q2,h⟩:=bs h;obtain ⟨i,q3,h⟩:=bs h;refine rdA [(1,.mpt 0 0 0),(2,.mpt 1 0 0),(3,.mpt 2 0 0)] [some (10,[(zc a)]),some (10,[[sA [],nS,sA [],bA false,bA false,iA 0,iA 0,nS,nS,nS]]),some (10,[[sA d,.fr (tL e),sA i,bA a.Static,bA a.Abstract,iA a.Locals,iA a.Stack,nS,nS,nS]])] [18,19] [17,16,15,14,13,12,11,10,9,8,7,6,5,4,3,2,1,0] [(25,.agg [sA d,.fr (tL e),sA i,bA a.Static,bA a.Abstract,iA a.Locals,iA a.Stack,nS,nS,nS]),(24,iA a.Stack),(23,.mpt 0 0 6),(22,iA a.Locals),(21,.mpt 0 0 5),(20,bA a.Abstract),(19,.mpt 0 0 4),(18,bA a.Static),(17,.mpt 0 0 3),(16,sA i),(15,sA a.Ret),(14,.mpt 0 0 2),(13,.fr (tL e)),(12,tL a.Params),(11,.mpt 0 0 1),(10,sA d),(9,sA a.Name),(8,.mpt 0 0 0)] 2 (X5 ⟨(pb y (bd (parts:=[(0,sA d),(1,.fr (tL e)),(2,sA i),(3,bA a.Static),(4,bA a.Abstract),(5,iA a.Locals),(6,iA a.Stack)]) (cs:=[sA d,.fr (tL e),sA i,bA a.Static,bA a.Abstract,iA a.Locals,iA a.Stack,nS,nS,nS]) ti y y kz w)),pe,pe,pe,pe,pe,pe,pe,pe,(pb y (pc (ZY a.Ret 12 q3) y y y w)),pe,pe,(pb y (pc (H0 a.Params 8 q2) y y y w)),pe,pe,(pb y (pc (ZY a.Name 10 Z) y y y w)),pe,pe,t⟩ ⟨(λ_ _=>⟨_,y,y,al 2 ti y<|⟨(.mpt 2 0 0),[],[(3,.mpt 2 0 0)],y,y,kz,y,X5 ⟨(pb y (bd (parts:=[(0,sA d),(1,.fr (tL e)),(2,sA i),(3,bA a.Static),(4,bA a.Abstract),(5,iA a.Locals),(6,iA a.Stack)]) (cs:=[sA d,.fr (tL e),sA i,bA a.Static,bA a.Abstract,iA a.Locals,iA a.Stack,nS,nS,nS]) ti y y kz w)),pe,pe,pe,pe,pe,pe,pe,pe,(pb y (pc (ZY a.Ret 12 q3) y y y w)),pe,pe,(pb y (pc (H0 a.Params 8 q2) y y y w)),pe,pe,(pb y (pc (ZY a.Name 10 Z) y y y w)),pe,pe,t⟩ ⟨nv,(λ_ _=>⟨_,y,y,sto ti y y y<|⟨.any,[],[],y,y,kz,t,Hp (zl [0,1,2])⟩⟩),t⟩⟩⟩),nw,t⟩) ?_;refine ze ?_;refine rg y<|u<|asg y<|zo ?_;obtain ⟨o,ho,h⟩:=bs h;refine HD (X:=(List zr)×Int) (B:=(List zr)) (R:=zb) (λz=>[(1,.mpt 0 0 0),(2,.mpt 1 0 0),(3,.mpt 2 0 0),(4,iA z.2)]) (λz=>[some (10,[(zc a)]),some (10,[[sA [],nS,sA [],bA false,bA false,iA 0,iA 0,nS,nS,nS]]),some (10,[[sA d,.fr (tL e),sA i,bA a.Static,bA a.Abstract,iA a.Locals,iA a.Stack,.msl 3 0 (length z.1),nS,nS]]),some (4,map zn z.1)]) (λb=>[(1,.mpt 0 0 0),(2,.mpt 1 0 0),(3,.mpt 2 0 0)]) (λb=>[some (10,[(zc a)]),some (10,[[sA [],nS,sA [],bA false,bA false,iA 0,iA 0,nS,nS,nS]]),some (10,[[sA d,.fr (tL e),sA i,bA a.Static,bA a.Abstract,iA a.Locals,iA a.Stack,.msl 3 0 (length b),nS,nS]]),some (4,map zn b)]) (λr env st=>Ua prog f71 0 (.agg (Kq r)) [] env st) ho ⟨[0,1,2,.fresh 4],cv y (.mpt y)<|cv y (.mpt y)<|cv y (.mpt y)<|ce y y<|cn,y,⟨⟨_,y,XG (ciL y)⟩,⟨_,y,XG (ciL y)⟩,⟨_,y,XG ⟨ci y,ci y,ci y,ci y,ci y,ci y,ci y,.nilown y,ci y,ci y,t⟩⟩,w,t⟩,y,k⟩ ?_ ?_ ?_
 ·
  rintro ⟨S,G⟩ r h;replace h:D3 a S G=some r:=h;unfold D3 at h;refine ze ?_;refine rg y<|u<|mv y<|u<|fa ti y y y<|u<|ld ti y y<|u<|lnI ti y y<|u<|lss ti y y<|u<|mv y<|X1 (j:=5) 2 y y y y y gpn (λL=>g y L<|mv y<|g y L<|lss ti y y<|zo (egA [32,33] 2 L y y y y)) Hr<|zo ?_;refine U5 y (λv=>?_) (λv=>?_)
  ·
   replace h:=bT v h;refine zd ?_;refine ze ?_;refine zh ?_;obtain ⟨T,m,h⟩:=bs h;obtain ⟨U,q12,h⟩:=bs h;obtain ⟨H,q13,h⟩:=bs h;refine XA [(1,.mpt 0 0 0),(2,.mpt 1 0 0),(3,.mpt 2 0 0),(4,iA G)] [some (10,[(zc a)]),some (10,[[sA [],nS,sA [],bA false,bA false,iA 0,iA 0,nS,nS,nS]]),some (10,[[sA d,.fr (tL e),sA i,bA a.Static,bA a.Abstract,iA a.Locals,iA a.Stack,.msl 3 0 (length H),nS,nS]]),some (4,map zn H)] [8,9,11] [7,6,5,4,3,2,1,0] [(44,.agg (zn U)),(43,.agg (zn T)),(42,.ipt 4 (map zn a.Code) (Int.toNat G) 0),(41,iA G),(40,.isl 4 (map zn a.Code)),(39,.mpt 0 0 7),(38,.msl 3 0 (length S)),(37,.mpt 2 0 7)] 3 (X5 ⟨(pb y (pc (zrK T q12) y y y w)),(pb y (ldI ti y (zz m).2.2 y w)),(pb y (ixI ti y ti y y y m w)),pe,pe,pe,pe,pe,t⟩ ⟨(λ_ _=>⟨_,y,y,bl 4 ti y ti y (by decide) (by decide) y y y<|⟨(.msl 4 0 1),[],[(45,.msl 4 0 1)],y,y,kz,y,X5 ⟨pe,(pb y (ldI ti y (zz m).2.2 y w)),(pb y (ixI ti y ti y y y m w)),pe,pe,pe,pe,pe,t⟩ ⟨nv,(λ_ _=>⟨_,y,y,apM 5 ti y ti y y (by decide) ti y y y y (roX (f:=zn) (z:=[U]) y y) (λ_=>y) y q13<|⟨(.msl 5 0 (length H)),[10],[(47,.mpt 2 0 7),(46,.msl 5 0 (length H))],y,y,kz,y,X5 ⟨pe,pe,(pb y (ldI ti y (zz m).2.2 y w)),(pb y (ixI ti y ti y y y m w)),pe,pe,pe,pe,pe,t⟩ ⟨nv,nv,(λ_ _=>⟨_,y,y,sto ti y y y<|⟨.any,[],[],y,y,kz,t,Hp (zl [0,1,2,5])⟩⟩),t⟩⟩⟩),nw,t⟩⟩⟩),nw,nw,t⟩) ?_;refine rl y<|u<|mv y<|u<|add ti y y<|u<|asg y<|zo ?_;cases h;exact ⟨_,y,zl [0,1,2,3]⟩
  ·
   replace h:=bF v h;refine zs ?_;cases h;exact ⟨y,_,y,zl [0,1,2,3]⟩
 ·
  rintro c rfl;replace h:zhz a d e i c=some r:=h;unfold zhz at h;refine zm ?_;refine ze ?_;refine rg y<|u<|asg y<|zo ?_;obtain ⟨o,ho,h⟩:=bs h;refine HD (X:=(List zS)×Int) (B:=(List zS)) (R:=zb) (λz=>[(1,.mpt 0 0 0),(2,.mpt 1 0 0),(3,.mpt 2 0 0),(5,iA z.2)]) (λz=>[some (10,[(zc a)]),some (10,[[sA [],nS,sA [],bA false,bA false,iA 0,iA 0,nS,nS,nS]]),some (10,[[sA d,.fr (tL e),sA i,bA a.Static,bA a.Abstract,iA a.Locals,iA a.Stack,.msl 3 0 (length c),.msl 4 0 (length z.1),nS]]),some (4,map zn c),some (3,map WP z.1)]) (λb=>[(1,.mpt 0 0 0),(2,.mpt 1 0 0),(3,.mpt 2 0 0)]) (λb=>[some (10,[(zc a)]),some (10,[[sA [],nS,sA [],bA false,bA false,iA 0,iA 0,nS,nS,nS]]),some (10,[[sA d,.fr (tL e),sA i,bA a.Static,bA a.Abstract,iA a.Locals,iA a.Stack,.msl 3 0 (length c),.msl 4 0 (length b),nS]]),some (4,map zn c),some (3,map WP b)]) (λr env st=>Ua prog f71 0 (.agg (Kq r)) [] env st) ho ⟨[0,1,2,3,.fresh 3],cv y (.mpt y)<|cv y (.mpt y)<|cv y (.mpt y)<|ce y y<|cn,y,⟨⟨_,y,XG (ciL y)⟩,⟨_,y,XG (ciL y)⟩,⟨_,y,XG ⟨ci y,ci y,ci y,ci y,ci y,ci y,ci y,.msl y,.nilown y,ci y,t⟩⟩,⟨_,y,Zb (λ_=>y)⟩,w,t⟩,y,k⟩ ?_ ?_ ?_
  ·
   rintro ⟨V,l⟩ r h;replace h:D2 a V l=some r:=h;unfold D2 at h;refine ze ?_;refine rg y<|u<|mv y<|u<|fa ti y y y<|u<|ld ti y y<|u<|lnI ti y y<|u<|lss ti y y<|u<|mv y<|X1 (j:=5) 2 y y y y y gpn (λx=>g y x<|mv y<|g y x<|lss ti y y<|zo (egA [54,55] 2 x y y y y)) Hr<|zo ?_;refine U5 y (λD=>?_) (λD=>?_)
   ·
    replace h:=bT D h;refine zd ?_;refine ze ?_;refine zh ?_;obtain ⟨M,n,h⟩:=bs h;obtain ⟨I,p,h⟩:=bs h;obtain ⟨N,O,h⟩:=bs h;obtain ⟨P,q,h⟩:=bs h;obtain ⟨Q,W,h⟩:=bs h;obtain ⟨J,q29,h⟩:=bs h;refine XA [(1,.mpt 0 0 0),(2,.mpt 1 0 0),(3,.mpt 2 0 0),(5,iA l)] [some (10,[(zc a)]),some (10,[[sA [],nS,sA [],bA false,bA false,iA 0,iA 0,nS,nS,nS]]),some (10,[[sA d,.fr (tL e),sA i,bA a.Static,bA a.Abstract,iA a.Locals,iA a.Stack,.msl 3 0 (length c),.msl 4 0 (length J),nS]]),some (4,map zn c),some (3,map WP J)] [23,24,26] [22,21,20,19,18,17,16,15,14,13,12,11,10,9,8,7,6,5,4,3,2,1,0] [(81,.agg [iA M.At,.fr (tL N),.fr (tL Q)]),(80,.fr (tL Q)),(79,tL P.Stack),(78,.ipt 3 (map zA a.Maps) (Int.toNat l) 2),(77,.ipt 3 (map zA a.Maps) (Int.toNat l) 0),(76,iA l),(75,.isl 3 (map zA a.Maps)),(74,.mpt 0 0 8),(73,.fr (tL N)),(72,tL I.Locals),(71,.ipt 3 (map zA a.Maps) (Int.toNat l) 1),(70,.ipt 3 (map zA a.Maps) (Int.toNat l) 0),(69,iA l),(68,.isl 3 (map zA a.Maps)),(67,.mpt 0 0 8),(66,iA M.At),(65,.ipt 3 (map zA a.Maps) (Int.toNat l) 0),(64,.ipt 3 (map zA a.Maps) (Int.toNat l) 0),(63,iA l),(62,.isl 3 (map zA a.Maps)),(61,.mpt 0 0 8),(60,.msl 4 0 (length V)),(59,.mpt 2 0 8)] 3 (X5 ⟨(pb y (bd ti y y y w)),(pb y (pc (H0 P.Stack 20 W) y y y w)),(pb y (ldI ti y (zz q).2.2 y w)),pe,(pb y (ixI ti y ti y y y q w)),pe,pe,pe,(pb y (pc (H0 I.Locals 20 O) y y y w)),(pb y (ldI ti y (zz p).2.2 y w)),pe,(pb y (ixI ti y ti y y y p w)),pe,pe,pe,(pb y (ldI ti y (zz n).2.2 y w)),pe,(pb y (ixI ti y ti y y y n w)),pe,pe,pe,pe,pe,t⟩ ⟨(λ_ _=>⟨_,y,y,bl 5 ti y ti y (by decide) (by decide) y y y<|⟨(.msl 5 0 1),[],[(82,.msl 5 0 1)],y,y,kz,y,X5 ⟨pe,(pb y (pc (H0 P.Stack 20 W) y y y w)),(pb y (ldI ti y (zz q).2.2 y w)),pe,(pb y (ixI ti y ti y y y q w)),pe,pe,pe,(pb y (pc (H0 I.Locals 20 O) y y y w)),(pb y (ldI ti y (zz p).2.2 y w)),pe,(pb y (ixI ti y ti y y y p w)),pe,pe,pe,(pb y (ldI ti y (zz n).2.2 y w)),pe,(pb y (ixI ti y ti y y y n w)),pe,pe,pe,pe,pe,t⟩ ⟨nv,(λ_ _=>⟨_,y,y,apM 6 ti y ti y y (by decide) ti y y y y (roX (f:=WP) (z:=[(zS.mk M.At N Q)]) y y) (λ_=>y) y q29<|⟨(.msl 6 0 (length J)),[25],[(84,.mpt 2 0 8),(83,.msl 6 0 (length J))],y,y,kz,y,X5 ⟨pe,pe,pe,(pb y (ldI ti y (zz q).2.2 y w)),pe,(pb y (ixI ti y ti y y y q w)),pe,pe,pe,(pb y (pc (H0 I.Locals 20 O) y y y w)),(pb y (ldI ti y (zz p).2.2 y w)),pe,(pb y (ixI ti y ti y y y p w)),pe,pe,pe,(pb y (ldI ti y (zz n).2.2 y w)),pe,(pb y (ixI ti y ti y y y n w)),pe,pe,pe,pe,pe,t⟩ ⟨nv,nv,(λ_ _=>⟨_,y,y,sto ti y y y<|⟨.any,[],[],y,y,kz,t,Hp (zl [0,1,2,3,6])⟩⟩),t⟩⟩⟩),nw,t⟩⟩⟩),nw,nw,t⟩) ?_;refine rl y<|u<|mv y<|u<|add ti y y<|u<|asg y<|zo ?_;cases h;exact ⟨_,y,zl [0,1,2,3,4]⟩
   ·
    replace h:=bF D h;refine zs ?_;cases h;exact ⟨y,_,y,zl [0,1,2,3,4]⟩
  ·
   rintro s rfl;replace h:zhA a d e i c s=some r:=h;unfold zhA at h;refine zm ?_;refine ze ?_;refine rg y<|u<|asg y<|zo ?_;obtain ⟨o,ho,h⟩:=bs h;refine HD (X:=(List zT)×Int) (B:=(List zT)) (R:=zb) (λz=>[(1,.mpt 0 0 0),(2,.mpt 1 0 0),(3,.mpt 2 0 0),(6,iA z.2)]) (λz=>[some (10,[(zc a)]),some (10,[[sA [],nS,sA [],bA false,bA false,iA 0,iA 0,nS,nS,nS]]),some (10,[[sA d,.fr (tL e),sA i,bA a.Static,bA a.Abstract,iA a.Locals,iA a.Stack,.msl 3 0 (length c),.msl 4 0 (length s),.msl 5 0 (length z.1)]]),some (4,map zn c),some (3,map WP s),some (4,map zY z.1)]) (λb=>[(2,.mpt 0 0 0),(3,.mpt 1 0 0)]) (λb=>[some (10,[[sA [],nS,sA [],bA false,bA false,iA 0,iA 0,nS,nS,nS]]),some (10,[[sA d,.fr (tL e),sA i,bA a.Static,bA a.Abstract,iA a.Locals,iA a.Stack,.msl 2 0 (length c),.msl 3 0 (length s),.msl 4 0 (length b)]]),some (4,map zn c),some (3,map WP s),some (4,map zY b)]) (λr env st=>Ua prog f71 0 (.agg (Kq r)) [] env st) ho ⟨[0,1,2,3,4,.fresh 4],cv y (.mpt y)<|cv y (.mpt y)<|cv y (.mpt y)<|ce y y<|cn,y,⟨⟨_,y,XG (ciL y)⟩,⟨_,y,XG (ciL y)⟩,⟨_,y,XG ⟨ci y,ci y,ci y,ci y,ci y,ci y,ci y,.msl y,.msl y,.nilown y,t⟩⟩,⟨_,y,Zb (λ_=>y)⟩,⟨_,y,Zb (λ_=>y)⟩,w,t⟩,y,k⟩ ?_ ?_ ?_
   ·
    rintro ⟨v38,v39⟩ r h;replace h:D1 a v38 v39=some r:=h;unfold D1 at h;refine ze ?_;refine rg y<|u<|mv y<|u<|fa ti y y y<|u<|ld ti y y<|u<|lnI ti y y<|u<|lss ti y y<|u<|mv y<|X1 (j:=5) 2 y y y y y gpn (λE=>g y E<|mv y<|g y E<|lss ti y y<|zo (egA [91,92] 2 E y y y y)) Hr<|zo ?_;refine U5 y (λF=>?_) (λF=>?_)
    ·
     replace h:=bT F h;refine zd ?_;refine ze ?_;refine zh ?_;obtain ⟨K,Y,h⟩:=bs h;refine rg y<|u<|fa ti y y y<|u<|ld ti y y<|u<|mv y<|u<|ixI ti y ti y y y Y<|u<|ldI ti y (zz Y).2.2 y<|u<|al 6 ti y<|u<|sto ti y y y<|zo ?_;obtain ⟨v41,q38,h⟩:=bs h;refine rg y<|u<|fa ti y y y<|u<|ld ti y y<|u<|pc (ZY K.C 10 q38) y y y<|u<|fa ti y y y<|u<|sto ti y y y<|zo ?_;obtain ⟨v42,q39,h⟩:=bs h;refine rl y<|u<|fa ti y y y<|u<|ld ti y y<|u<|ld ti y y<|u<|bl 7 ti y ti y (by decide) (by decide) y y y<|u<|apM 8 ti y ti y y (by decide) ti y y y y (roX (f:=zY) (z:=[(zT.mk K.From K.To K.At v41)]) y y) (λ_=>y) y q39<|u<|fa ti y y y<|u<|sto ti y y y<|zo ?_;refine rl y<|u<|mv y<|u<|add ti y y<|u<|asg y<|zo ?_;cases h;exact ⟨_,y,zl [0,1,2,3,4,8]⟩
    ·
     replace h:=bF F h;refine zs ?_;cases h;exact ⟨y,_,y,zl [1,2,3,4,5]⟩
   ·
    rintro v43 rfl;replace h:zld a d e i c s v43=some r:=h;unfold zld at h;refine zm ?_;refine rg y<|u<|ld ti y y<|u<|sto ti y y y<|zo ?_;refine zy ?_;cases h;exact ⟨_,y,[],GX ⟨ci y,ci y,ci y,ci y,ci y,ci y,ci y,(Bw zH7 y y),(Bw zH8 y y),(Bw zHl y y),t⟩,y,t,y,k⟩
   ·
    rintro r' rfl env st hp;cases h;exact hp
  ·
   rintro r' rfl env st hp;cases h;exact hp
 ·
  rintro r' rfl env st hp;cases h;exact hp
theorem zvc(a:za){r:T0×T0×T1×(List zj)×(List zb)}(h:Oh a=some r):SC prog 16 [.agg (zf a)] [] (.agg [sA r.1,sA r.2.1,bA a.Interface,.fr (tL r.2.2.1),.msl 0 0 (length r.2.2.2.1),.msl 1 0 (length r.2.2.2.2)]) [.many 3 (map zv r.2.2.2.1),.many 10 (map Kq r.2.2.2.2)]:=by
 refine ⟨⟨Xw (sz:=3) (λ_=>y),Xw (sz:=10) (λ_=>y),t⟩,zZ func16 y kz y ?_⟩;unfold Oh at h;refine rg y<|u<|bx 0 6 y y y y<|u<|al 1 ti y<|zo ?_;obtain ⟨e,N,h⟩:=bs h;obtain ⟨i,O,h⟩:=bs h;obtain ⟨l,P,h⟩:=bs h;refine rdA [(1,.mpt 0 0 0),(2,.mpt 1 0 0),(3,.mpt 2 0 0)] [some (6,[(zf a)]),some (6,[[sA [],sA [],bA false,nS,nS,nS]]),some (6,[[sA e,sA i,bA a.Interface,.fr (tL l),nS,nS]])] [12,13] [11,10,9,8,7,6,5,4,3,2,1,0] [(18,.agg [sA e,sA i,bA a.Interface,.fr (tL l),nS,nS]),(17,.fr (tL l)),(16,tL a.Impl),(15,.mpt 0 0 3),(14,bA a.Interface),(13,.mpt 0 0 2),(12,sA i),(11,sA a.Super),(10,.mpt 0 0 1),(9,sA e),(8,sA a.Name),(7,.mpt 0 0 0)] 2 (X5 ⟨(pb y (bd ti y y y w)),(pb y (pc (H0 a.Impl 6 P) y y y w)),pe,pe,pe,pe,(pb y (pc (ZY a.Super 10 O) y y y w)),pe,pe,(pb y (pc (ZY a.Name 10 N) y y y w)),pe,pe,t⟩ ⟨(λ_ _=>⟨_,y,y,al 2 ti y<|⟨(.mpt 2 0 0),[],[(3,.mpt 2 0 0)],y,y,kz,y,X5 ⟨(pb y (bd ti y y y w)),(pb y (pc (H0 a.Impl 6 P) y y y w)),pe,pe,pe,pe,(pb y (pc (ZY a.Super 10 O) y y y w)),pe,pe,(pb y (pc (ZY a.Name 10 N) y y y w)),pe,pe,t⟩ ⟨nv,(λ_ _=>⟨_,y,y,sto ti y y y<|⟨.any,[],[],y,y,kz,t,Hp (zl [0,1,2])⟩⟩),t⟩⟩⟩),nw,t⟩) ?_;refine ze ?_;refine rg y<|u<|asg y<|zo ?_;obtain ⟨o,ho,h⟩:=bs h;refine HD (X:=(List zj)×Int) (B:=(List zj)) (R:=T0×T0×T1×(List zj)×(List zb)) (λz=>[(1,.mpt 0 0 0),(2,.mpt 1 0 0),(3,.mpt 2 0 0),(4,iA z.2)]) (λz=>[some (6,[(zf a)]),some (6,[[sA [],sA [],bA false,nS,nS,nS]]),some (6,[[sA e,sA i,bA a.Interface,.fr (tL l),.msl 3 0 (length z.1),nS]]),some (3,map zv z.1)]) (λb=>[(1,.mpt 0 0 0),(2,.mpt 1 0 0),(3,.mpt 2 0 0)]) (λb=>[some (6,[(zf a)]),some (6,[[sA [],sA [],bA false,nS,nS,nS]]),some (6,[[sA e,sA i,bA a.Interface,.fr (tL l),.msl 3 0 (length b),nS]]),some (3,map zv b)]) (λr env st=>Ua prog f16 0 (.agg [sA r.1,sA r.2.1,bA a.Interface,.fr (tL r.2.2.1),.msl 0 0 (length r.2.2.2.1),.msl 1 0 (length r.2.2.2.2)]) [some (3,map zv r.2.2.2.1),some (10,map Kq r.2.2.2.2)] env st) ho ⟨[0,1,2,.fresh 3],cv y (.mpt y)<|cv y (.mpt y)<|cv y (.mpt y)<|ce y y<|cn,y,⟨⟨_,y,XG (ciL y)⟩,⟨_,y,XG (ciL y)⟩,⟨_,y,XG ⟨ci y,ci y,ci y,ci y,.nilown y,ci y,t⟩⟩,w,t⟩,y,k⟩ ?_ ?_ ?_
 ·
  rintro ⟨G,H⟩ r h;replace h:DS a G H=some r:=h;unfold DS at h;refine ze ?_;refine rg y<|u<|mv y<|u<|fa ti y y y<|u<|ld ti y y<|u<|lnI ti y y<|u<|lss ti y y<|u<|mv y<|X1 (j:=5) 2 y y y y y gpn (λn=>g y n<|mv y<|g y n<|lss ti y y<|zo (egA [25,26] 2 n y y y y)) Hr<|zo ?_;refine U5 y (λp=>?_) (λp=>?_)
  ·
   replace h:=bT p h;refine zd ?_;refine ze ?_;refine zh ?_;obtain ⟨c,I,h⟩:=bs h;refine rg y<|u<|fa ti y y y<|u<|ld ti y y<|u<|mv y<|u<|ixI ti y ti y y y I<|u<|ldI ti y (zz I).2.2 y<|u<|al 4 ti y<|u<|sto ti y y y<|zo ?_;obtain ⟨D,E,h⟩:=bs h;obtain ⟨F,J,h⟩:=bs h;obtain ⟨v,Q,h⟩:=bs h;refine XA [(1,.mpt 0 0 0),(2,.mpt 1 0 0),(3,.mpt 2 0 0),(4,iA H)] [some (6,[(zf a)]),some (6,[[sA [],sA [],bA false,nS,nS,nS]]),some (6,[[sA e,sA i,bA a.Interface,.fr (tL l),.msl 3 0 (length v),nS]]),some (3,map zv v)] [11,12,14] [10,9,8,7,6,5,4,3,2,1,0] [(45,.agg [sA D,sA F,bA c.Static]),(44,bA c.Static),(43,.mpt 4 0 2),(42,sA F),(41,sA c.Type_),(40,.mpt 4 0 1),(39,sA D),(38,sA c.Name),(37,.mpt 4 0 0),(36,.msl 3 0 (length G)),(35,.mpt 2 0 4)] 3 (X5 ⟨(pb y (bd ti y y y w)),pe,pe,(pb y (pc (ZY c.Type_ 12 J) y y y w)),pe,pe,(pb y (pc (ZY c.Name 10 E) y y y w)),pe,pe,pe,pe,t⟩ ⟨(λ_ _=>⟨_,y,y,bl 5 ti y ti y (by decide) (by decide) y y y<|⟨(.msl 5 0 1),[],[(46,.msl 5 0 1)],y,y,kz,y,X5 ⟨pe,pe,pe,(pb y (pc (ZY c.Type_ 12 J) y y y w)),pe,pe,(pb y (pc (ZY c.Name 10 E) y y y w)),pe,pe,pe,pe,t⟩ ⟨nv,(λ_ _=>⟨_,y,y,apM 6 ti y ti y y (by decide) ti y y y y (roX (f:=zv) (z:=[(zj.mk D F c.Static)]) y y) (λ_=>y) y Q<|⟨(.msl 6 0 (length v)),[13],[(48,.mpt 2 0 4),(47,.msl 6 0 (length v))],y,y,kz,y,X5 ⟨pe,pe,pe,pe,pe,pe,pe,(pb y (pc (ZY c.Name 10 E) y y y w)),pe,pe,pe,pe,t⟩ ⟨nv,nv,(λ_ _=>⟨_,y,y,sto ti y y y<|⟨.any,[],[],y,y,kz,t,Hp (zl [0,1,2,6])⟩⟩),t⟩⟩⟩),nw,t⟩⟩⟩),nw,nw,t⟩) ?_;refine rl y<|u<|mv y<|u<|add ti y y<|u<|asg y<|zo ?_;cases h;exact ⟨_,y,zl [0,1,2,3]⟩
  ·
   replace h:=bF p h;refine zs ?_;cases h;exact ⟨y,_,y,zl [0,1,2,3]⟩
 ·
  rintro d rfl;replace h:I0 a e i l d=some r:=h;unfold I0 at h;refine zm ?_;refine ze ?_;refine rg y<|u<|asg y<|zo ?_;obtain ⟨o,ho,h⟩:=bs h;refine HD (X:=(List zb)×Int) (B:=(List zb)) (R:=T0×T0×T1×(List zj)×(List zb)) (λz=>[(1,.mpt 0 0 0),(2,.mpt 1 0 0),(3,.mpt 2 0 0),(6,iA z.2)]) (λz=>[some (6,[(zf a)]),some (6,[[sA [],sA [],bA false,nS,nS,nS]]),some (6,[[sA e,sA i,bA a.Interface,.fr (tL l),.msl 3 0 (length d),.msl 4 0 (length z.1)]]),some (3,map zv d),some (10,map Kq z.1)]) (λb=>[(2,.mpt 0 0 0),(3,.mpt 1 0 0)]) (λb=>[some (6,[[sA [],sA [],bA false,nS,nS,nS]]),some (6,[[sA e,sA i,bA a.Interface,.fr (tL l),.msl 2 0 (length d),.msl 3 0 (length b)]]),some (3,map zv d),some (10,map Kq b)]) (λr env st=>Ua prog f16 0 (.agg [sA r.1,sA r.2.1,bA a.Interface,.fr (tL r.2.2.1),.msl 0 0 (length r.2.2.2.1),.msl 1 0 (length r.2.2.2.2)]) [some (3,map zv r.2.2.2.1),some (10,map Kq r.2.2.2.2)] env st) ho ⟨[0,1,2,3,.fresh 10],cv y (.mpt y)<|cv y (.mpt y)<|cv y (.mpt y)<|ce y y<|cn,y,⟨⟨_,y,XG (ciL y)⟩,⟨_,y,XG (ciL y)⟩,⟨_,y,XG ⟨ci y,ci y,ci y,ci y,.msl y,.nilown y,t⟩⟩,⟨_,y,Zb (λ_=>y)⟩,w,t⟩,y,k⟩ ?_ ?_ ?_
  ·
   rintro ⟨K,x⟩ r h;replace h:DR a K x=some r:=h;unfold DR at h;refine ze ?_;refine rg y<|u<|mv y<|u<|fa ti y y y<|u<|ld ti y y<|u<|lnI ti y y<|u<|lss ti y y<|u<|mv y<|X1 (j:=5) 2 y y y y y gpn (λq=>g y q<|mv y<|g y q<|lss ti y y<|zo (egA [55,56] 2 q y y y y)) Hr<|zo ?_;refine U5 y (λs=>?_) (λs=>?_)
   ·
    replace h:=bT s h;refine zd ?_;refine ze ?_;refine zh ?_;obtain ⟨L,m,h⟩:=bs h;obtain ⟨M,S,h⟩:=bs h;obtain ⟨C,T,h⟩:=bs h;refine XA [(1,.mpt 0 0 0),(2,.mpt 1 0 0),(3,.mpt 2 0 0),(6,iA x)] [some (6,[(zf a)]),some (6,[[sA [],sA [],bA false,nS,nS,nS]]),some (6,[[sA e,sA i,bA a.Interface,.fr (tL l),.msl 3 0 (length d),.msl 4 0 (length C)]]),some (3,map zv d),some (10,map Kq C)] [8,9,11] [7,6,5,4,3,2,1,0] [(67,.agg (Kq M)),(66,.agg (zc L)),(65,.ipt 10 (map zc a.Methods) (Int.toNat x) 0),(64,iA x),(63,.isl 10 (map zc a.Methods)),(62,.mpt 0 0 5),(61,.msl 4 0 (length K)),(60,.mpt 2 0 5)] 3 (X5 ⟨(pb y (pc (zrL L S) y y y w)),(pb y (ldI ti y (zz m).2.2 y w)),(pb y (ixI ti y ti y y y m w)),pe,pe,pe,pe,pe,t⟩ ⟨(λ_ _=>⟨_,y,y,bl 5 ti y ti y (by decide) (by decide) y y y<|⟨(.msl 5 0 1),[],[(68,.msl 5 0 1)],y,y,kz,y,X5 ⟨pe,(pb y (ldI ti y (zz m).2.2 y w)),(pb y (ixI ti y ti y y y m w)),pe,pe,pe,pe,pe,t⟩ ⟨nv,(λ_ _=>⟨_,y,y,apM 6 ti y ti y y (by decide) ti y y y y (roX (f:=Kq) (z:=[M]) y y) (λ_=>y) y T<|⟨(.msl 6 0 (length C)),[10],[(70,.mpt 2 0 5),(69,.msl 6 0 (length C))],y,y,kz,y,X5 ⟨pe,pe,(pb y (ldI ti y (zz m).2.2 y w)),(pb y (ixI ti y ti y y y m w)),pe,pe,pe,pe,pe,t⟩ ⟨nv,nv,(λ_ _=>⟨_,y,y,sto ti y y y<|⟨.any,[],[],y,y,kz,t,Hp (zl [0,1,2,3,6])⟩⟩),t⟩⟩⟩),nw,t⟩⟩⟩),nw,nw,t⟩) ?_;refine rl y<|u<|mv y<|u<|add ti y y<|u<|asg y<|zo ?_;cases h;exact ⟨_,y,zl [0,1,2,3,4]⟩
   ·
    replace h:=bF s h;refine zs ?_;cases h;exact ⟨y,_,y,zl [1,2,3,4]⟩
  ·
   rintro U rfl;replace h:zoT e i l d U=some r:=h;unfold zoT at h;refine zm ?_;refine rg y<|u<|ld ti y y<|u<|sto ti y y y<|zo ?_;refine zy ?_;cases h;exact ⟨_,y,Xb [2,3]⟩
  ·
   rintro r' rfl env st hp;cases h;exact hp
 ·
  rintro r' rfl env st hp;cases h;exact hp
theorem zva(c:List za){r:(List za)}(h:Gh c=some r):SC prog 26 [cL c] [] (.msl 0 0 (length r)) [.many 6 (map DM r)]:=by
 refine ⟨⟨Xw (sz:=6) (λ_=>y),t⟩,zZ func26 y kz y ?_⟩;unfold Gh at h;refine rg y<|u<|asg y<|zo ?_;refine rg y<|u<|asg y<|zo ?_;refine ze ?_;refine rg y<|u<|asg y<|zo ?_;obtain ⟨o,ho,h⟩:=bs h;refine HD (X:=(List za)×Int) (B:=(List za)) (R:=(List za)) (λz=>[(0,cL c),(3,.msl 0 0 (length z.1)),(4,iA z.2)]) (λz=>[some (6,map DM z.1)]) (λb=>[(3,.msl 0 0 (length b))]) (λb=>[some (6,map DM b)]) (λr env st=>Ua prog f26 0 (.msl 0 0 (length r)) [some (6,map DM r)] env st) ho ⟨[.fresh 6],ce y y<|cv y (.nilown y)<|ce y y<|cn,y,⟨w,t⟩,y,k⟩ ?_ ?_ ?_
 ·
  rintro ⟨d,l⟩ r h;replace h:DU c d l=some r:=h;unfold DU at h;refine ze ?_;refine rg y<|u<|mv y<|u<|mv y<|u<|lnI ti y y<|u<|lss ti y y<|u<|mv y<|X1 (j:=4) 2 y y y y y gpn (λe=>g y e<|mv y<|g y e<|lss ti y y<|zo (egA [10,11] 2 e y y y y)) Hr<|zo ?_;refine U5 y (λf=>?_) (λf=>?_)
  ·
   replace h:=bT f h;refine zd ?_;refine ze ?_;refine zh ?_;obtain ⟨i,m,h⟩:=bs h;obtain ⟨a,q,h⟩:=bs h;obtain ⟨s,n,h⟩:=bs h;refine rl y<|u<|mv y<|u<|mv y<|u<|mv y<|u<|ixI ti y ti y y y m<|u<|ldI ti y (zz m).2.2 y<|u<|sx [] (zvc i q)<|zx (env0:=[(0,cL c),(4,iA l),(15,.msl 0 0 (length d)),(20,.agg [sA a.1,sA a.2.1,bA i.Interface,.fr (tL a.2.2.1),.msl 1 0 (length a.2.2.2.1),.msl 2 0 (length a.2.2.2.2)])]) (st0:=[some (6,map DM d),some (3,map zv a.2.2.2.1),some (10,map Kq a.2.2.2.2)]) (zl [0,1,2])<|u<|bl 3 ti y ti y (by decide) (by decide) y y y<|zx (env0:=[(0,cL c),(4,iA l),(15,.msl 0 0 (length d)),(21,.msl 1 0 (length [(za.mk a.1 a.2.1 i.Interface a.2.2.1 a.2.2.2.1 a.2.2.2.2)]))]) (st0:=[some (6,map DM d),some (6,map DM [(za.mk a.1 a.2.1 i.Interface a.2.2.1 a.2.2.2.1 a.2.2.2.2)])]) ⟨[0,3],ce y y<|ce y y<|cv y (.msl y)<|cv y (.msl y)<|cn,y,⟨⟨_,y,Zb (λ_=>y)⟩,⟨_,y,GA ⟨⟨(ci y),(ci y),(ci y),(ci y),(Bw zGy y y),(Bw zFx y y),t⟩,t⟩⟩,t⟩,y,k⟩<|u<|apM 2 ti y ti y y (by decide) ti y y y y (roM y) (λ_=>y) y n<|u<|asg y<|zo ?_;refine rl y<|u<|mv y<|u<|add ti y y<|u<|asg y<|zo ?_;cases h;exact ⟨_,y,zl [2]⟩
  ·
   replace h:=bF f h;refine zs ?_;cases h;exact ⟨y,_,y,zl [0]⟩
 ·
  rintro p rfl;replace h:zoS p=some r:=h;unfold zoS at h;refine zm ?_;refine rg y<|u<|mv y<|u<|asg y<|zo ?_;refine zy ?_;cases h;exact ⟨_,y,Xb [0]⟩
 ·
  rintro r' rfl env st hp;cases h;exact hp
theorem zDf{P:Program}{f:FuncId}{args:List AV}{st:St}{K:AV->St->Prop}{av0:AV}{st0:St}(h:Uv P f args st K)(hk:∀av st',K av st'->E7 st.length av0 st0 av st'):Uv P f args st (λav st'=>av=av0/\st'=st0):=
 ⟨h.1,λA m w vals hR hv=>(h.2 A m w vals hR hv).mono λe w' ⟨v,A',m',st',av,he,hR',hS,hv',hK⟩=>by
  obtain ⟨L,k1,k2,k3,k4,k5⟩:=hk av st' hK;have hs:=Ke.of k2 k3
  exact ⟨v,_,_,st0,av0,he,hR'.rs hs,hS.rs hs k4 k5,k1.v hR' hs hv',rfl,rfl⟩⟩
theorem zvb(v1:List za){r:List za}(h:Gh v1=some r):Xm prog 26 [.isl 6 (List.map zf v1)] (.fr (.isl 6 (List.map zf r))):=
 zua ((zDf (st:=[]) (st0:=[]) (av0:=.fr (.isl 6 (List.map zf r))) (zva v1 h).2 λav st' ⟨h1,h2⟩=>by
  subst h1;subst h2
  exact ⟨[],Bw zGx rfl rfl,rfl,trivial,rfl,Qv rfl⟩).mono λav st ⟨h1,_⟩=>by subst h1;exact .imm (.fr _))
theorem zqK(v1:List za){r:List za}(h:Gh v1=some r):Xm prog 26 [.isl 6 (List.map zf v1)] (.isl 6 (List.map zf r)):=
 zua ((zwp v1 h).2.mono λav st ⟨h1,h2⟩=>by subst h1;subst h2;exact X9 rfl (λ_=>rfl))

end
end Go.Proofs.YthmnlfenkhmmhaaGreat
