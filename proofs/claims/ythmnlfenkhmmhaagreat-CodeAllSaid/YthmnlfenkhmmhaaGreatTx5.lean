/- CodeAll holds. Part 5 of 9. -/
import Derived.Test.YthmnlfenkhmmhaaGreatTx4
namespace Go.Proofs.YthmnlfenkhmmhaaGreat
noncomputable section
open List (length map)
open IntKind (i64)
open Go.Proofs.Tryz
set_option linter.unusedSimpArgs false
set_option linter.unusedVariables false
set_option maxRecDepth 100000
set_option maxHeartbeats 4000000
variable {f:Bool}{i:Int}{a:Vr}{n b e:T0}{d Q F l:T1}{r:T1×Bool}{c:zb}
def B7(c:Vr)(f:T0)(i:zb)(j:T1)(l:T1)(b:Bool)(m:Int)(n:T1)(o:T1):Option (Bool):=(Oh c f i j l b m).bind λa=>cond a.2 ((WD c n a.1.Locals).bind λd=>cond d ((WD c o a.1.Stack).bind λe=>some (b||(!e))) (some (b||(!false)))) (some (b||(!false)))
theorem gj{r:Bool}(h:B7 a b c d l f i F Q=some r):VE 208 [Vg,iA i,tL F,tL Q] (tR a b c d l f []) (.tup []) (tR a b c d l r []):=by
 refine⟨⟨t,t⟩,zK func208 y kz y ?_⟩;obtain⟨e,p,h⟩:=bs h;refine A ?_;refine u<|sx [0] (gG p)<|zw (VC:=[(0,Vg),(2,tL F),(3,tL Q),(13,.tup [.agg (zV e.1),bA e.2])]) (VJ:=(sR a b c d l f [])) (zl [0])<|A ?_
 rcases bb e.2 with j|j
 .replace h:=bT j h;obtain⟨o,q,h⟩:=bs h
  rcases bb o with m|m
  .replace h:=bT m h;obtain⟨n,s,h⟩:=bs h;refine XA [] (sR a b c d l (f||(!n)) []) [22] Vb [(37,_),(36,_),(35,_),(34,_),(33,_),(32,_),(31,_),(30,_),(29,_),(28,_),(27,_),(26,_),(25,_),(24,_),(23,_),(22,_),(21,_),(20,_),(19,_),(18,_),(17,_),(16,_)] 1 (Xd (z:=by exact⟨(λ_ _=>⟨_,y,y,sc [0] (args:=[Vg,bA n]) (zt a b c d l f n y) y y y y ⟨(.mpt y),(Ln y),t⟩ ⟨⟨_,y,(Z0 y)⟩,t⟩<|⟨(.tup []),[],[(38,_)],y,y,y,y,Xg (z:=z6 [0])⟩⟩),t⟩)) ?_;exact Lz
  replace h:=bF m h;refine XA [] (sR a b c d l (f||(!false)) []) [22] Vb [(37,_),(36,_),(35,_),(34,_),(33,_),(32,_),(31,_),(30,_),(29,_),(28,_),(27,_),(26,_),(25,_),(24,_),(23,_),(22,_),(21,_),(20,_),(19,_),(18,_),(17,_),(16,_)] 1 (Xd (z:=by exact⟨(λ_ _=>⟨_,y,y,sc [0] (args:=[Vg,bA false]) (zt a b c d l f false y) y y y y ⟨(.mpt y),(Ln y),t⟩ ⟨⟨_,y,(Z0 y)⟩,t⟩<|⟨(.tup []),[],[(38,_)],y,y,y,y,Xg (z:=z6 [0])⟩⟩),t⟩)) ?_;exact Lz
 replace h:=bF j h;refine XA [] (sR a b c d l (f||(!false)) []) [22] Vc [(37,bA false),(36,Vq),(35,Vq),(34,Vq),(33,Vq),(32,Vq),(31,Vq),(30,Vq),(29,Vq),(28,bA false),(27,bA false),(26,Vq),(25,Vq),(24,Vq),(23,Vq),(22,Vq),(21,Vq),(20,Vq),(19,Vq),(18,bA e.2),(17,bA e.2),(16,Vg)] 1 (jZ ⟨(λ_ _=>⟨_,y,y,sc [0] (args:=[Vg,bA false]) (zt a b c d l f false y) y y y y ⟨(.mpt y),(Ln y),t⟩ ⟨⟨_,y,(Z0 y)⟩,t⟩<|⟨(.tup []),[],[(38,.tup [])],y,y,kz,y,M5 (zl [0])⟩⟩),t⟩) ?_;exact Lz
def Wz(a:HF):Option (T1×T1):=(Xu 16 ([]:T1) a.locals).bind λb=>(Xu 16 ([]:T1) a.stack).bind λc=>some (b,c)
theorem ic{c:HF}{r:T1×T1}(h:Wz c=some r):VE 209 [.agg (zDD c)] [] (.agg [.msl 0 0 (length r.1),.msl 1 0 (length r.2)]) [.many 1 (map Xe r.1),.many 1 (map Xe r.2)]:=by refine⟨⟨Xo (sz:=1) (λ_=>y),Xo (sz:=1) (λ_=>y),t⟩,zK func209 y kz y ?_⟩;unfold Wz at h;refine A ?_;obtain⟨a,d,h⟩:=bs h;obtain⟨b,e,h⟩:=bs h;refine Lc [(2,Vg)] [some (2,[[.msl 1 0 (length a),.msl 2 0 (length b)]]),sT a,sT b] [2,5,7] [0,1,3,4] [(7,_),(6,_),(4,_),(3,_)] 3 (Xd (z:=by exact⟨(λ_ _=>⟨_,y,y,MO (f:=Xe) 2 ti y ti y y YB ti y y y Mc (λ_=>y) y d<|⟨(.msl 2 0 (length a)),[],[(5,_)],y,y,y,y,Xd (z:=by exact⟨nv,(λ_ _=>⟨_,y,y,MO (f:=Xe) 3 ti y ti y y YB ti y y y Mc (λ_=>y) y e<|⟨(.msl 3 0 (length b)),[6],[(9,_),(8,_)],y,y,y,y,Xd (z:=by exact⟨nv,nv,(λ_ _=>⟨_,y,y,La ti y y y<|⟨.any,[],[],y,y,y,t,Xg (z:=z6 [1,2,3])⟩⟩),t⟩)⟩⟩),nw,t⟩)⟩⟩),nw,nw,t⟩)) ?_;apply zA;cases h;exact⟨_,y,Kl [1,2]⟩
def Aw(c:Vr)(f:T0)(i:zb)(j:T1)(l:T1)(b:Bool)(m:Int)(n:T1)(o:T1):Option (Bool):=(Oh c f i j l b m).bind λa=>cond a.2 ((WD c n a.1.Locals).bind λd=>cond d ((WD c o a.1.Stack).bind λe=>some (b||(!e))) (some (b||(!false)))) (some (b||(!false)))
theorem pZ{r:Bool}(h:Aw a e c d l f i F Q=some r):VE 208 [Vg,iA i,tL F,.msl 1 0 (length Q)] (tR a e c d l f [.many 1 (map Xe Q)]) (.tup []) (tR a e c d l r [.many 1 (map Xe Q)]):=by
 refine⟨⟨t,Xo (sz:=1) (λ_=>y),t⟩,zK func208 y kz y ?_⟩;obtain⟨j,q,h⟩:=bs h;refine A ?_;refine u<|sx [0] (gG q)<|zw (VC:=[(0,Vg),(2,tL F),(3,.msl 1 0 (length Q)),(13,.tup [.agg (zV j.1),bA j.2])]) (VJ:=(sR a e c d l f [sT Q])) (zl [0,1])<|A ?_
 rcases bb j.2 with n|n
 .replace h:=bT n h;obtain⟨p,v,h⟩:=bs h
  rcases bb p with m|m
  .replace h:=bT m h;obtain⟨o,s,h⟩:=bs h;refine XA [] (sR a e c d l (f||(!o)) [sT Q]) [22] Vb [(37,_),(36,_),(35,_),(34,_),(33,_),(32,_),(31,_),(30,_),(29,_),(28,_),(27,_),(26,_),(25,_),(24,_),(23,_),(22,_),(21,_),(20,_),(19,_),(18,_),(17,_),(16,_)] 1 (Xd ⟨F1,F1,F1,F1,F1,F1,F1,F1,F1,F1,F1,F1,F1,F1,F1,F1,F1,F1,F1,F1,(by exact λ_=>Le (b:=p) y y y y m y (Lj (iO a Q j.1.Stack s) y y (.cons (si y) (.cons (XU y (λ_=>y)) (.cons (si y) .nil))) Xx<|w)),F1,t⟩ (by exact⟨(λ_ _=>⟨_,y,y,sc [0] (args:=[Vg,bA o]) (zt a e c d l f o y) y y y y ⟨(.mpt y),(Ln y),t⟩ ⟨⟨_,y,(Z0 y)⟩,t⟩<|⟨(.tup []),[],[(38,_)],y,y,y,y,Xg (z:=z6 [0,1])⟩⟩),t⟩)) ?_;cases h;exact⟨_,y,Xb [0,1]⟩
  replace h:=bF m h;refine XA [] (sR a e c d l (f||(!false)) [sT Q]) [22] Vb [(37,_),(36,_),(35,_),(34,_),(33,_),(32,_),(31,_),(30,_),(29,_),(28,_),(27,_),(26,_),(25,_),(24,_),(23,_),(22,_),(21,_),(20,_),(19,_),(18,_),(17,_),(16,_)] 1 (Xd (z:=by exact⟨(λ_ _=>⟨_,y,y,sc [0] (args:=[Vg,bA false]) (zt a e c d l f false y) y y y y ⟨(.mpt y),(Ln y),t⟩ ⟨⟨_,y,(Z0 y)⟩,t⟩<|⟨(.tup []),[],[(38,_)],y,y,y,y,Xg (z:=z6 [0,1])⟩⟩),t⟩)) ?_;cases h;exact⟨_,y,Xb [0,1]⟩
 replace h:=bF n h;refine XA [] (sR a e c d l (f||(!false)) [sT Q]) [22] Vc [(37,bA false),(36,Vq),(35,Vq),(34,Vq),(33,Vq),(32,Vq),(31,Vq),(30,Vq),(29,Vq),(28,bA false),(27,bA false),(26,Vq),(25,Vq),(24,Vq),(23,Vq),(22,Vq),(21,Vq),(20,Vq),(19,Vq),(18,bA j.2),(17,bA j.2),(16,Vg)] 1 (jZ ⟨(λ_ _=>⟨_,y,y,sc [0] (args:=[Vg,bA false]) (zt a e c d l f false y) y y y y ⟨(.mpt y),(Ln y),t⟩ ⟨⟨_,y,(Z0 y)⟩,t⟩<|⟨(.tup []),[],[(38,.tup [])],y,y,kz,y,M5 (zl [0,1])⟩⟩),t⟩) ?_;cases h;exact⟨_,y,Xb [0,1]⟩
def n8(a:Bool):Option (Bool):=some a
def AQ(a:Int)(b:Bool):zL (Bool×Int) (Bool) (Bool):=some (.inl (b,(i64.wrap (a+1))))
def P8(f:Vr)(m:T0)(n:zb)(i:T1)(o:T1)(j:Int)(b:Bool)(c:Int)(a:zU)(d:T0):zL (Bool×Int) (Bool) (Bool):=(PH f d [84,104,114,111,119,110]).bind λe=>cond ((decide (a.From<=j))&&(decide (j<a.To))) ((Aw f m n i o (b||(!e)) a.At i [d]).bind λl=>AQ c l) (AQ c (b||(!e)))
def MQ(e:Vr)(f:T0)(d:zb)(i:T1)(j:T1)(l:Int)(c:Bool)(a:Int):zL (Bool×Int) (Bool) (Bool):=cond (decide (a<(length d.Traps:Int))) ((idx d.Traps a).bind λb=>cond (b.C==[]) (P8 e f d i j l c a b [84,104,114,111,119,110]) (P8 e f d i j l c a b b.C)) (some (.inr (.inl c)))
def WI(a:Vr)(c:T0)(d:zb)(e:T1)(f:T1)(i:Bool)(j:Int):Option (Bool):=(zk (λz=>MQ a c d e f j z.1 z.2) (i,0)).bind λo=>zE o (λb=>n8 b) some
theorem n0{r:Bool}(h:WI a e c d l f i=some r):VE 210 [Vg,iA i] (tR a e c d l f []) (.tup []) (tR a e c d l r []):=by
 refine⟨⟨t,t⟩,zK func210 y kz y ?_⟩;refine A ?_;obtain⟨o,ho,h⟩:=bs h;refine F7 ho (λz=>[(0,Vg),(1,iA i),(4,iA z.2)]) (λz=>(sR a e c d l z.1 [])) (λb=>[]) (λb=>(sR a e c d l b [])) (λr env st=>Uy prog f210 1 (.tup []) (sR a e c d l r []) env st) (z6 [0]) ?_ ?_
 .rintro⟨j,m⟩ r h;refine ze<|A ?_;apply Xa h y<;>intro B h
  .apply zc;refine zY (X:=Bool) (λz=>[(0,Vg),(1,iA i),(4,iA m)]) (λz=>(sR a e c d l z [])) (λz=>AQ m z=some r) ?_ ?_
   .apply zg;obtain⟨n,H,h⟩:=bs h;refine A ?_;refine A ?_;refine zY (X:=T0) (λz=>[(0,Vg),(1,iA i),(4,iA m),(5,Vh),(6,sA z)]) (λz=>(sR a e c d l j [some (4,[(XF n)])])) (λz=>P8 a e c d l i j m n z=some r) ?_ ?_
    .refine A ?_;apply Xa h y<;>intro v h;.refine A ?_;exact(⟨[84,104,114,111,119,110],h,zl [0,1]⟩)
     apply zc;exact⟨n.C,h,zl [0,1]⟩
    rintro q h;obtain⟨p,D,h⟩:=bs h;refine rg y<|u<|mv y<|u<|mv y<|u<|nc y y<|u<|fa ti y y y<|u<|ld ti y y<|u<|mv y<|u<|pc (iK D) y y y<|u<|sx [0] (zt a e c d l j p y)<|zw (VC:=[(0,Vg),(1,iA i),(4,iA m),(5,Vh),(6,sA q)]) (VJ:=(sR a e c d l (j||(!p)) [some (4,[(XF n)])])) (zl [0,1])<|zx ?_;refine A ?_;apply Xa h y<;>intro x h
    .obtain⟨s,E,h⟩:=bs h;refine XA [(0,_),(1,_),(4,_)] (sR a e c d l s []) [9,10] Y1 [(55,_),(54,_),(53,_),(52,_),(51,_),(50,_),(49,_),(48,_),(47,_)] 2 (Xd (z:=by exact⟨(λ_ _=>⟨_,y,y,bl 2 ti y ti y YB YB y y y<|⟨(.msl 2 0 1),[],[(56,_)],y,y,y,y,Xd (z:=by exact⟨nv,(λ_ _=>⟨_,y,y,sx [0,2] (pZ E)<|⟨(.tup []),[],[(57,_)],y,y,y,y,Xg (z:=z6 [0])⟩⟩),t⟩)⟩⟩),nw,t⟩)) ?_;exact⟨s,h,zl [0]⟩
    apply zc;exact⟨(j||(!p)),h,zl [0]⟩
   rintro F h;refine A ?_;exact LC
  exact Lv
 rintro G rfl;exact zm Lz
def KB(e:Vr)(f:T0)(i:zb)(j:T1)(a:T1)(b:Bool):Option (T0×T1×Bool):=cond ((length a:Int)==0) (some ([78],a,true)) ((idx a (i64.wrap ((length a:Int)-1))).bind λc=>(XR a 0 (i64.wrap ((length a:Int)-1))).bind λd=>some (c,d,b))
theorem Hb{e:Vr}{i:T0}{r:T0×T1×Bool}(h:KB e i c d l f=some r):VE 345 [Vg] (tR e i c d l f []) (sA r.1) (tR e i c d r.2.1 r.2.2 []):=by
 refine⟨⟨t,t⟩,zK func345 y kz y ?_⟩;refine A ?_;refine A ?_;refine ze<|A ?_;apply Xa h y<;>intro j h
 .refine A ?_;refine A ?_;exact LP
 apply zc;obtain⟨n,o,h⟩:=bs h;refine A ?_;obtain⟨p,m,h⟩:=bs h;refine A ?_;refine u<|Mi (a:=0) (b:=(i64.wrap ((length l:Int)-1))) ti y ti y y y (H8 y m) m<|A ?_;refine A ?_;exact LP
def nK(a:T1)(b:Bool):Option (T1×Bool):=some (a,b)
def Dz(e:Vr)(j:T0)(l:zb)(m:T1)(n:T1)(c:T1)(d:Bool)(a:Int):zL (T1×Bool×Int) (T1×Bool) (T1×Bool):=cond (decide (0<=a)) ((idx n a).bind λf=>(KB e j l m c d).bind λb=>(Dw e b.1 f).bind λi=>some (.inl (b.2.1,(b.2.2||(!i)),(i64.wrap (a-1))))) (some (.inr (.inl (c,d))))
def Ut(c:Vr)(d:T0)(e:zb)(f:T1)(i:T1)(j:Bool)(a:T1):Option (T1×Bool):=(zk (λz=>Dz c d e f a z.1 z.2.1 z.2.2) (i,j,(i64.wrap ((length a:Int)-1)))).bind λo=>zE o (λb=>nK b.1 b.2) some
theorem KA(h:Ut a e c d l f F=some r):VE 292 [Vg,tL F] (tR a e c d l f []) (.tup []) (tR a e c d r.1 r.2 []):=by
 refine⟨⟨t,t⟩,zK func292 y kz y ?_⟩;refine A ?_;obtain⟨o,ho,h⟩:=bs h;refine F7 ho (λz=>[(0,Vg),(1,tL F),(4,iA z.2.2)]) (λz=>(sR a e c d z.1 z.2.1 [])) (λb=>[]) (λb=>(sR a e c d b.1 b.2 [])) (λr env st=>Uy prog f292 1 (.tup []) (sR a e c d r.1 r.2 []) env st) (z6 [0]) ?_ ?_
 .rintro⟨m,n,s⟩ r h;refine ze<|A ?_;apply Xa h y<;>intro p h
  .refine zc<|ze<|zg ?_;obtain⟨v,C,i,q,j,D,h⟩:=LA h;refine XA [(0,_),(1,_),(4,_)] (sR a e c d i.2.1 (i.2.2||(!j)) []) [6,12] [0,1,2,3,4,5,7,8,9,10] [(22,_),(21,_),(20,_),(19,_),(17,_),(16,_),(15,_),(14,_),(13,_),(12,_)] 2 (Xd (z:=by exact⟨(λ_ _=>⟨_,y,y,sx [0] (Hb q)<|⟨(sA i.1),[11],[(23,_),(18,_)],y,y,y,y,Xd (z:=by exact⟨nv,(λ_ _=>⟨_,y,y,sx [0] (zt a e c d i.2.1 i.2.2 j y)<|⟨(.tup []),[],[(24,_)],y,y,y,y,Xg (z:=z6 [0])⟩⟩),t⟩)⟩⟩),nw,t⟩)) ?_;refine A ?_;exact LC
  exact Lv
 rintro⟨x,B⟩ rfl;exact zm Lz
def z7(i:Vr)(j:T0)(b:zb)(l:T1)(c:T1)(d:Bool)(e:T0):Option (T1×Bool):=(Xu 16 ([]:T1) c).bind λf=>(Xu 16 f [e]).bind λa=>some (a,(d||(!(decide ((length a:Int)<=b.Stack)))))
theorem zX{e:Bool}(h:z7 a b c d l e n=some r):VE 293 [Vg,sA n] (tR a b c d l e []) (.tup []) (tR a b c d r.1 r.2 []):=by refine⟨⟨t,t⟩,zK func293 y kz y ?_⟩;obtain⟨o,j,i,m,h⟩:=F6 h;refine A ?_;refine u<|MO (f:=Xe) 1 ti y ti y y YB ti y y y Mc (λ_=>y) y j<|A ?_;refine u<|Lo 3 ti y ti y y YB ti y y y y (Lx (f:=Xe) (z:=[n]) y y) (λ_=>y) y m<|A ?_;refine Ba (VC:=[(0,Vg)]) (VJ:=(sR a b c d i e [])) (zl [0]) ?_;refine XA [] (sR a b c d i (e||(!(decide ((length i:Int)<=c.Stack)))) []) [13] Y8 [(29,_),(28,_),(27,_),(26,_),(25,_),(24,_),(23,_),(22,_),(21,_),(20,_),(19,_),(18,_),(17,_)] 1 (Xd (z:=by exact⟨(λ_ _=>⟨_,y,y,sx [0] (zt a b c d i e (decide ((length i:Int)<=c.Stack)) y)<|⟨(.tup []),[],[(30,_)],y,y,y,y,Xg (z:=z6 [0])⟩⟩),t⟩)) ?_;exact Lz
def HP(b:Vr)(c:T0)(d:zb)(e:T1)(f:T1)(i:Bool):Option (T0×T1×Bool):=(KB b c d e f i).bind λa=>some (a.1,a.2.1,(a.2.2||(!(!(a.1==[73])))))
theorem Oc{r:T0×T1×Bool}(h:HP a b c d l f=some r):VE 346 [Vg] (tR a b c d l f []) (sA r.1) (tR a b c d r.2.1 r.2.2 []):=by refine⟨⟨t,t⟩,zK func346 y kz y ?_⟩;refine A ?_;obtain⟨e,i,h⟩:=bs h;refine rg y<|u<|mv y<|u<|sx [0] (Hb i)<|zw (VC:=[(0,Vg),(5,sA e.1)]) (VJ:=(sR a b c d e.2.1 e.2.2 [])) (zl [0])<|A ?_;refine A ?_;refine u<|sx [0] (zt a b c d e.2.1 e.2.2 (!(e.1==[73])) y)<|zw (VC:=[(3,sA e.1)]) (VJ:=(sR a b c d e.2.1 (e.2.2||(!(!(e.1==[73])))) [])) (zl [0])<|zx ?_;refine A ?_;exact LP
def WS(e:Vr)(f:T0)(i:zb)(b:T1)(j:zp)(a:T1)(c:Bool):Option (T1×Bool):=(B7 e f i b a c j.A b a).bind λd=>some (a,d)
def B6(a:Vr)(b:T0)(c:zb)(d:T1)(f:T1)(i:Bool)(e:zp):Option (T1×Bool):=cond (decide (e.Op<=26)) ((Ut a b c d f i ([[73]])).bind λn=>WS a b c d e n.1 n.2) (cond (decide (e.Op<=32)) ((Ut a b c d f i ([[73],[73]])).bind λo=>WS a b c d e o.1 o.2) (cond (decide (e.Op<=34)) ((HP a b c d f i).bind λj=>WS a b c d e j.2.1 j.2.2) ((HP a b c d f i).bind λl=>(HP a b c d l.2.1 l.2.2).bind λm=>WS a b c d e m.2.1 m.2.2)))
theorem nJ{B:zp}(h:B6 a b c d l f B=some r):VE 294 [Vg,.agg (zs B)] (tR a b c d l f []) (.tup []) (tR a b c d r.1 r.2 []):=by
 refine⟨⟨t,t⟩,zK func294 y kz y ?_⟩;refine A ?_;refine zY (X:=T1×Bool) (λz=>[(0,Vg),(3,Vh)]) (λz=>(sR a b c d z.1 z.2 [some (4,[(zs B)])])) (λz=>WS a b c d B z.1 z.2=some r) ?_ ?_
 .refine zg<|A ?_;apply Xa h y<;>intro p h
  .obtain⟨n,C,h⟩:=bs h;refine A ?_;exact zw (VC:=[(0,Vg),(3,Vh),(12,Vg),(13,tL ([[73]]))]) (VJ:=(sR a b c d l f [some (4,[(zs B)])])) (zl [0,1])<|u<|sx [0] (KA C)<|zw (VC:=[(0,Vg),(3,Vh)]) (VJ:=(sR a b c d n.1 n.2 [some (4,[(zs B)])])) (zl [0,1])<|zx (⟨⟨n.1,n.2⟩,h,zl [0,1]⟩)
  refine A ?_;apply Xa h y<;>intro q h;.obtain⟨o,D,h⟩:=bs h;refine A ?_;exact zw (VC:=[(0,Vg),(3,Vh),(19,Vg),(20,tL ([[73],[73]]))]) (VJ:=(sR a b c d l f [some (4,[(zs B)])])) (zl [0,1])<|u<|sx [0] (KA D)<|zw (VC:=[(0,Vg),(3,Vh)]) (VJ:=(sR a b c d o.1 o.2 [some (4,[(zs B)])])) (zl [0,1])<|zx (⟨⟨o.1,o.2⟩,h,zl [0,1]⟩)
  refine A ?_;apply Xa h y<;>intro s h;.obtain⟨e,E,h⟩:=bs h;exact rl y<|u<|mv y<|u<|sx [0] (Oc E)<|zw (VC:=[(0,Vg),(3,Vh)]) (VJ:=(sR a b c d e.2.1 e.2.2 [some (4,[(zs B)])])) (zl [0,1])<|zx (⟨⟨e.2.1,e.2.2⟩,h,zl [0,1]⟩)
  obtain⟨i,F,h⟩:=bs h;refine rg y<|u<|mv y<|u<|sx [0] (Oc F)<|zw (VC:=[(0,Vg),(3,Vh)]) (VJ:=(sR a b c d i.2.1 i.2.2 [some (4,[(zs B)])])) (zl [0,1])<|zx ?_;obtain⟨j,G,h⟩:=bs h;exact rl y<|u<|mv y<|u<|sx [0] (Oc G)<|zw (VC:=[(0,Vg),(3,Vh)]) (VJ:=(sR a b c d j.2.1 j.2.2 [some (4,[(zs B)])])) (zl [0,1])<|zx (⟨⟨j.2.1,j.2.2⟩,h,zl [0,1]⟩)
 rintro⟨m,v⟩ h;obtain⟨x,H,h⟩:=bs h;refine XA [] (sR a b c d m x []) [13] Y8 [(40,_),(39,_),(38,_),(37,_),(36,_),(35,_),(34,_),(33,_),(32,_),(31,_),(30,_),(29,_),(28,_)] 1 (Xd (z:=by exact⟨(λ_ _=>⟨_,y,y,sx [0] (gj H)<|⟨(.tup []),[],[(41,_)],y,y,y,y,Xg (z:=z6 [0])⟩⟩),t⟩)) ?_;exact Lz
def nI:Option (T0×zh×Bool):=some ([],(zh.mk [] [] false),false)
def IJ(e:Vr)(m:T0)(d:T1)(a:Int):zL (Int) (Unit) (T0×zh×Bool):=cond (decide (a<((length d):Int))) ((idx d a).bind λf=>(zR e f).bind λi=>(idx e i).bind λb=>(Ph b m).bind λc=>cond (decide (0<=c)) ((idx d a).bind λj=>(idx b.Fields c).bind λl=>some (.inr (.inr (j,l,true)))) (some (.inl (i64.wrap (a+1))))) (some (.inr (.inl ())))
def BV(a:Vr)(c:T0)(d:T0):Option (T0×zh×Bool):=(KY a c).bind λe=>(zk (λz=>IJ a d e z) 0).bind λo=>zE o (λb=>nI) some
instance (d:T0):VF 229 [.ipt 1 [[cL a]] 0 0,sA d,sA n] (BV a d n) (λr=>(.tup [sA r.1,.agg (zv r.2.1),bA r.2.2])):=⟨λr h=>by
 refine zi func229 y kz y y<|A ?_;obtain⟨c,l,h⟩:=bs h;refine A ?_;refine u<|sx [] (GL l)<|zw (VC:=[(0,.ipt 1 [[cL a]] 0 0),(2,sA n),(7,Vg),(15,.msl 1 0 (length c))]) (VJ:=[some (3,[[sA [],sA [],bA false]]),sT c]) (zl [0,1])<|A ?_;refine ze<|A ?_;obtain⟨o,ho,h⟩:=bs h;refine F7 ho (λz=>[(0,.ipt 1 [[cL a]] 0 0),(2,sA n),(7,Vg),(9,.msl 1 0 (length c)),(10,iA z)]) (λz=>[some (3,[[sA [],sA [],bA false]]),sT c]) (λb=>[(7,Vg)]) (λb=>[some (3,[[sA [],sA [],bA false]])]) (pG f229 (λr=>.tup [sA r.1,.agg (zv r.2.1),bA r.2.2])) (z6 [0,1]) ?_ ?_
 .rintro m r h;refine ze<|A ?_;apply Xa h y<;>intro e h
  .refine zc<|ze<|zg ?_;obtain⟨p,q,s,v,i,x,h⟩:=LA h;refine Lc [(0,_),(2,_),(7,_),(9,_),(10,_),(11,_)] [some (3,[[sA [],sA [],bA false]]),sT c,some (6,[(zf i)])] [12,13] Y4 [(33,_),(32,_),(31,_),(30,_),(29,_),(28,_),(27,_),(26,_),(25,_),(24,_),(23,_),(22,_)] 2 (Xd (z:=by exact⟨(λ_ _=>⟨_,y,y,al 2 ti y<|⟨(Vj),[],[(11,_)],y,y,y,y,Xd (z:=by exact⟨nv,(λ_ _=>⟨_,y,y,La ti y y y<|⟨.any,[],[],y,y,y,t,Xg (z:=z6 [0,1,2])⟩⟩),t⟩)⟩⟩),nw,t⟩)) ?_;obtain⟨B,C,h⟩:=bs h;refine A ?_;refine A ?_;apply Xa h y<;>intro f h
   .obtain⟨D,E,j,F,h⟩:=F6 h;refine Lc [(6,_),(7,_),(8,_)] [some (3,[(zv j)])] [10] Va [(6,_),(47,_),(46,_),(45,_),(44,_),(43,_),(42,_),(41,_),(40,_),(39,_)] 1 (Xd (z:=by exact⟨(λ_ _=>⟨_,y,y,La ti y y y<|⟨.any,[11],[(8,_)],y,y,y,t,Xg (z:=z6 [0])⟩⟩),t⟩)) ?_;apply zA;cases h;exact⟨_,y,_,y,Xb []⟩
   refine zc<|A ?_;exact LH
  exact Lv
 rintro⟨⟩ rfl;refine zm<|A ?_
 exact F4⟩
def On(f:Vr)(i:T0)(j:zb)(l:T1)(d:zp)(e:T0×zh×Bool)(a:T1)(b:Bool):Option (T1×Bool):=cond ((d.Op==38)||(d.Op==40)) ((z7 f i j l a b e.2.1.Type_).bind λc=>some (c.1,c.2)) (some (a,b))
def DB(f:Vr)(i:T0)(j:zb)(l:T1)(a:zp)(b:T0×zh×Bool)(c:T1)(d:Bool):Option (T1×Bool):=cond ((a.Op==38)||(a.Op==39)) ((Ut f i j l c d [a.C]).bind λe=>On f i j l a b e.1 e.2) (On f i j l a b c d)
def Oi(c:Vr)(f:T0)(i:zb)(j:T1)(d:T1)(e:Bool)(a:zp):Option (T1×Bool):=(zR c a.C).bind λn=>cond (decide (n<0)) (some (d,true)) (cond (a.Op==37) ((idx c n).bind λo=>(z7 c f i j d (e||(!(!o.Interface))) a.C).bind λl=>some (l.1,l.2)) ((BV c a.C a.M).bind λb=>cond (e||(!(b.2.2&&(b.2.1.Static==((a.Op==40)||(a.Op==41)))))) (some (d,(e||(!(b.2.2&&(b.2.1.Static==((a.Op==40)||(a.Op==41)))))))) (cond ((a.Op==39)||(a.Op==41)) ((Ut c f i j d (e||(!(b.2.2&&(b.2.1.Static==((a.Op==40)||(a.Op==41)))))) [b.2.1.Type_]).bind λm=>DB c f i j a b m.1 m.2) (DB c f i j a b d (e||(!(b.2.2&&(b.2.1.Static==((a.Op==40)||(a.Op==41))))))))))
theorem pi{B:zp}(h:Oi a b c d l f B=some r):VE 295 [Vg,.agg (zs B)] (tR a b c d l f []) (.tup []) (tR a b c d r.1 r.2 []):=by
 refine⟨⟨t,t⟩,zK func295 y kz y ?_⟩;refine A ?_;obtain⟨M,N,h⟩:=bs h;refine Lc [(0,_),(3,_),(4,_)] (sR a b c d l f [some (4,[(zs B)])]) [] YU [(4,_),(14,_),(13,_),(12,_),(11,_),(10,_),(9,_),(8,_)] 0 (Xg (z:=z6 [0,1])) ?_;refine ze<|A ?_;apply Xa h y<;>intro D h
 .refine A ?_;exact LP
 refine zc<|ze<|A ?_;apply Xa h y<;>intro E h
 .obtain⟨q,O,h⟩:=bs h;refine A ?_;refine u<|sx [0] (zt a b c d l f (!q.Interface) y)<|zw (VC:=[(0,Vg),(3,Vh)]) (VJ:=(sR a b c d l (f||(!(!q.Interface))) [some (4,[(zs B)])])) (zl [0,1])<|zx ?_;obtain⟨o,L,h⟩:=bs h;refine A ?_;refine u<|sx [0] (zX L)<|zw (VC:=[]) (VJ:=(sR a b c d o.1 o.2 [])) (zl [0])<|zx ?_;exact LP
 apply zc;obtain⟨e,P,h⟩:=bs h;refine Lc [(0,_),(3,_),(6,_),(7,_)] (sR a b c d l f [some (4,[(zs B)]),some (3,[(zv e.2.1)])]) [13,15] Y8 [(53,_),(52,_),(51,_),(41,_),(50,_),(49,_),(48,_),(47,_),(46,_),(45,_),(44,_),(43,_),(42,_)] 2 (Xd (z:=by exact⟨(λ_ _=>⟨_,y,y,al 2 ti y<|⟨(Vj),[14],[(5,_),(6,_)],y,y,y,y,Xd (z:=by exact⟨nv,(λ_ _=>⟨_,y,y,La ti y y y<|⟨.any,[16],[(7,_)],y,y,y,t,Xg (z:=z6 [0,1,2])⟩⟩),t⟩)⟩⟩),nw,t⟩)) ?_;refine A ?_;refine u<|sx [0] (zt a b c d l f (e.2.2&&(e.2.1.Static==((B.Op==40)||(B.Op==41)))) y)<|zw (VC:=[(0,Vg),(3,Vh),(6,Vj)]) (VJ:=(sR a b c d l (f||(!(e.2.2&&(e.2.1.Static==((B.Op==40)||(B.Op==41)))))) [some (4,[(zs B)]),some (3,[(zv e.2.1)])])) (zl [0,1,2])<|zx ?_;refine ze<|A ?_;apply Xa h y<;>intro F h
 .exact LP
 apply zc;refine zY (X:=T1×Bool) (λz=>[(0,Vg),(3,Vh),(6,Vj)]) (λz=>(sR a b c d z.1 z.2 [some (4,[(zs B)]),some (3,[(zv e.2.1)])])) (λz=>DB a b c d B e z.1 z.2=some r) ?_ ?_
 .refine A ?_;apply Xa h y<;>intro s h;.obtain⟨i,G,h⟩:=bs h;refine A ?_;exact zw (VC:=[(0,Vg),(3,Vh),(6,Vj),(82,Vg),(85,.isl 1 (map Xe [e.2.1.Type_]))]) (VJ:=(sR a b c d l (f||(!(e.2.2&&(e.2.1.Static==((B.Op==40)||(B.Op==41)))))) [some (4,[(zs B)]),some (3,[(zv e.2.1)])])) (zl [0,1,2])<|u<|sx [0] (KA G)<|zw (VC:=[(0,Vg),(3,Vh),(6,Vj)]) (VJ:=(sR a b c d i.1 i.2 [some (4,[(zs B)]),some (3,[(zv e.2.1)])])) (zl [0,1,2])<|zx (⟨⟨i.1,i.2⟩,h,zl [0,1,2]⟩)
  apply zc;exact⟨⟨l,(f||(!(e.2.2&&(e.2.1.Static==((B.Op==40)||(B.Op==41))))))⟩,h,zl [0,1,2]⟩
 rintro⟨m,n⟩ h;refine zY (X:=T1×Bool) (λz=>[(0,Vg),(3,Vh),(6,Vj)]) (λz=>(sR a b c d z.1 z.2 [some (4,[(zs B)]),some (3,[(zv e.2.1)])])) (λz=>On a b c d B e z.1 z.2=some r) ?_ ?_
 .refine A ?_;apply Xa h y<;>intro v h;.obtain⟨j,H,h⟩:=bs h;refine A ?_;exact zw (VC:=[(0,Vg),(3,Vh),(6,Vj),(95,Vg),(98,.isl 1 (map Xe [B.C]))]) (VJ:=(sR a b c d m n [some (4,[(zs B)]),some (3,[(zv e.2.1)])])) (zl [0,1,2])<|u<|sx [0] (KA H)<|zw (VC:=[(0,Vg),(3,Vh),(6,Vj)]) (VJ:=(sR a b c d j.1 j.2 [some (4,[(zs B)]),some (3,[(zv e.2.1)])])) (zl [0,1,2])<|zx (⟨⟨j.1,j.2⟩,h,zl [0,1,2]⟩)
  apply zc;exact⟨⟨m,n⟩,h,zl [0,1,2]⟩
 rintro⟨I,J⟩ h;refine A ?_;apply Xa h y<;>intro x h;.obtain⟨p,K,h⟩:=bs h;refine A ?_;refine u<|sx [0] (zX K)<|zw (VC:=[]) (VJ:=(sR a b c d p.1 p.2 [])) (zl [0])<|zx ?_;exact Lz
 exact zc Lz
def na:Option (T0×zb×Bool):=some ([],(zb.mk [] [] [] false false 0 0 [] [] []),false)
def IN(e:Vr)(m:T0)(d:T1)(a:Int):zL (Int) (Unit) (T0×zb×Bool):=cond (decide (a<((length d):Int))) ((idx d a).bind λf=>(zR e f).bind λi=>(idx e i).bind λb=>(Gk b m).bind λc=>cond (decide (0<=c)) ((idx d a).bind λj=>(idx b.Methods c).bind λl=>some (.inr (.inr (j,l,true)))) (some (.inl (i64.wrap (a+1))))) (some (.inr (.inl ())))
def E6(a:Vr)(c:T0)(e:T0):Option (T0×zb×Bool):=(zR a c).bind λd=>(cond (decide (d<0)) (some true) ((idx a d).bind λf=>some (!f.Interface))).bind λi=>cond i (some ([],(zb.mk [] [] [] false false 0 0 [] [] []),false)) ((If a c).bind λj=>(Xu 16 [c] j).bind λl=>(zk (λz=>IN a e l z) 0).bind λo=>zE o (λb=>na) some)
instance (c:T0):VF 231 [.ipt 1 [[cL a]] 0 0,sA c,sA n] (E6 a c n) (λr=>(.tup [sA r.1,.agg (zd r.2.1),bA r.2.2])):=⟨λr h=>by
 refine zi func231 y kz y y<|A ?_;obtain⟨K,L,h⟩:=bs h;refine A ?_;apply ze;obtain⟨M,N,h⟩:=bs h;refine A ?_;apply Xa h y<;>intro j h
 .refine A ?_;exact F4
 apply zc;obtain⟨O,q,d,s,h⟩:=F6 h;refine A ?_;refine u<|sx [] (ge q)<|u<|Lo (l:=[c]) (f:=Xe) 3 ti y ti y y YB ti y y y y (Mx y) (λ_=>y) y s<|A ?_;refine ze<|A ?_;obtain⟨o,ho,h⟩:=bs h;refine F7 ho (λz=>[(0,.ipt 1 [[cL a]] 0 0),(2,sA n),(7,Vg),(10,.msl 1 0 (length d)),(11,iA z)]) (λz=>[Zf,sT d]) (λb=>[(7,Vg)]) (λb=>[Zf]) (pG f231 (λr=>.tup [sA r.1,.agg (zd r.2.1),bA r.2.2])) (z6 [0,3]) ?_ ?_
 .rintro v r h;refine ze<|A ?_;apply Xa h y<;>intro e h
  .refine zc<|ze<|zg ?_;obtain⟨x,B,C,D,m,E,h⟩:=LA h;refine Lc [(0,_),(2,_),(7,_),(10,_),(11,_),(12,_)] [Zf,sT d,some (6,[(zf m)])] [12,13] Y4 [(54,_),(53,_),(52,_),(51,_),(50,_),(49,_),(48,_),(47,_),(46,_),(45,_),(44,_),(43,_)] 2 (Xd (z:=by exact⟨(λ_ _=>⟨_,y,y,al 2 ti y<|⟨(Vj),[],[(12,_)],y,y,y,y,Xd (z:=by exact⟨nv,(λ_ _=>⟨_,y,y,La ti y y y<|⟨.any,[],[],y,y,y,t,Xg (z:=z6 [0,1,2])⟩⟩),t⟩)⟩⟩),nw,t⟩)) ?_;obtain⟨F,G,h⟩:=bs h;refine A ?_;refine A ?_;apply Xa h y<;>intro i h
   .obtain⟨H,I,p,J,h⟩:=F6 h;refine Lc [(6,_),(7,_),(8,_)] [some (10,[(zd p)])] [10] Va [(6,_),(68,_),(67,_),(66,_),(65,_),(64,_),(63,_),(62,_),(61,_),(60,_)] 1 (Xd (z:=by exact⟨(λ_ _=>⟨_,y,y,La ti y y y<|⟨.any,[11],[(8,_)],y,y,y,t,Xg (z:=z6 [0])⟩⟩),t⟩)) ?_;apply zA;cases h;exact⟨_,y,_,y,Xb []⟩
   refine zc<|A ?_;exact LH
  exact Lv
 rintro⟨⟩ rfl;refine zm<|A ?_
 exact F4⟩
def nu:Option (T0×zb×Bool):=some ([],(zb.mk [] [] [] false false 0 0 [] [] []),false)
def IZ(e:Vr)(f:T0)(d:T1)(a:Int):zL (Int) (Unit) (T0×zb×Bool):=cond (decide (a<((length d):Int))) ((idx d a).bind λi=>(zR e i).bind λj=>(idx e j).bind λb=>(Gk b f).bind λc=>cond ((decide (0<=c))&&(!(f==[36,105,110,105,116]))) ((idx d a).bind λl=>(idx b.Methods c).bind λm=>some (.inr (.inr (l,m,true)))) (some (.inl (i64.wrap (a+1))))) (some (.inr (.inl ())))
def BU(a:Vr)(c:T0)(d:T0):Option (T0×zb×Bool):=(KY a c).bind λe=>(zk (λz=>IZ a d e z) 0).bind λo=>zE o (λb=>nu) some
instance (d:T0):VF 125 [.ipt 1 [[cL a]] 0 0,sA d,sA n] (BU a d n) (λr=>(.tup [sA r.1,.agg (zd r.2.1),bA r.2.2])):=⟨λr h=>by
 refine zi func125 y kz y y<|A ?_;obtain⟨c,l,h⟩:=bs h;refine A ?_;refine u<|sx [] (GL l)<|zw (VC:=[(0,.ipt 1 [[cL a]] 0 0),(2,sA n),(7,Vg),(15,.msl 1 0 (length c))]) (VJ:=[Zf,sT c]) (zl [0,1])<|A ?_;refine ze<|A ?_;obtain⟨o,ho,h⟩:=bs h;refine F7 ho (λz=>[(0,.ipt 1 [[cL a]] 0 0),(2,sA n),(7,Vg),(9,.msl 1 0 (length c)),(10,iA z)]) (λz=>[Zf,sT c]) (λb=>[(7,Vg)]) (λb=>[Zf]) (pG f125 (λr=>.tup [sA r.1,.agg (zd r.2.1),bA r.2.2])) (z6 [0,1]) ?_ ?_
 .rintro m r h;refine ze<|A ?_;apply Xa h y<;>intro e h
  .refine zc<|ze<|zg ?_;obtain⟨p,q,s,v,i,x,h⟩:=LA h;refine Lc [(0,_),(2,_),(7,_),(9,_),(10,_),(11,_)] [Zf,sT c,some (6,[(zf i)])] [12,13] Y4 [(33,_),(32,_),(31,_),(30,_),(29,_),(28,_),(27,_),(26,_),(25,_),(24,_),(23,_),(22,_)] 2 (Xd (z:=by exact⟨(λ_ _=>⟨_,y,y,al 2 ti y<|⟨(Vj),[],[(11,_)],y,y,y,y,Xd (z:=by exact⟨nv,(λ_ _=>⟨_,y,y,La ti y y y<|⟨.any,[],[],y,y,y,t,Xg (z:=z6 [0,1,2])⟩⟩),t⟩)⟩⟩),nw,t⟩)) ?_;obtain⟨B,C,h⟩:=bs h;refine A ?_;refine A ?_;apply Xa h y<;>intro f h
   .obtain⟨D,E,j,F,h⟩:=F6 h;refine Lc [(6,_),(7,_),(8,_)] [some (10,[(zd j)])] [10] Va [(6,_),(51,_),(50,_),(49,_),(48,_),(47,_),(46,_),(45,_),(44,_),(43,_)] 1 (Xd (z:=by exact⟨(λ_ _=>⟨_,y,y,La ti y y y<|⟨.any,[11],[(8,_)],y,y,y,t,Xg (z:=z6 [0])⟩⟩),t⟩)) ?_;apply zA;cases h;exact⟨_,y,_,y,Xb []⟩
   refine zc<|A ?_;exact LH
  exact Lv
 rintro⟨⟩ rfl;refine zm<|A ?_
 exact F4⟩
def WR(e:Vr)(f:T0)(i:zb)(j:T1)(a:zb)(b:T1)(c:Bool):Option (T1×Bool):=cond (!(a.Ret==[86])) ((z7 e f i j b c a.Ret).bind λd=>some (d.1,d.2)) (some (b,c))
def DA(b:Vr)(c:T0)(f:zb)(i:T1)(o:T1)(m:Bool)(n:zp)(d:zb)(p:T0)(j:Bool):Option (T1×Bool):=cond (m||(!j)) (some (o,(m||(!j)))) ((Ut b c f i o (m||(!j)) d.Params).bind λe=>cond (!(n.Op==42)) ((KB b c f i e.1 e.2).bind λa=>(Dw b a.1 n.C).bind λl=>cond (n.Op==44) ((KY b c).bind λq=>(D9 q p).bind λs=>cond s ((Dw b a.1 c).bind λv=>WR b c f i d a.2.1 ((a.2.2||(!l))||(!v))) (WR b c f i d a.2.1 ((a.2.2||(!l))||(!false)))) (WR b c f i d a.2.1 (a.2.2||(!l)))) (WR b c f i d e.1 e.2))
def IM(c:Vr)(e:T0)(f:zb)(i:T1)(j:T1)(l:Bool)(a:zp):Option (T1×Bool):=cond (a.Op==45) ((E6 c a.C a.M).bind λd=>DA c e f i j l a d.2.1 d.1 d.2.2) ((BU c a.C a.M).bind λb=>DA c e f i j l a b.2.1 b.1 ((b.2.2&&(b.2.1.Static==(a.Op==42)))&&(!b.2.1.Abstract)))
theorem pq{B:zp}(h:IM a b c d l f B=some r):VE 296 [Vg,.agg (zs B)] (tR a b c d l f []) (.tup []) (tR a b c d r.1 r.2 []):=by
 refine⟨⟨t,t⟩,zK func296 y kz y ?_⟩;refine A ?_;refine A ?_;refine A ?_;refine zY (X:=zb×T0×Bool) (λz=>[(0,Vg),(3,Vh),(4,Vj),(5,sA z.2.1),(6,bA z.2.2)]) (λz=>(sR a b c d l f [some (4,[(zs B)]),some (10,[(zd z.1)])])) (λz=>DA a b c d l f B z.1 z.2.1 z.2.2=some r) ?_ ?_
 .refine A ?_;apply Xa h y<;>intro H h;.obtain⟨C,S,h⟩:=bs h;refine XA [(0,_),(3,_),(4,_),(5,_),(6,_)] (sR a b c d l f [some (4,[(zs B)]),some (10,[(zd C.2.1)])]) [14] Y9 [(5,_),(23,_),(22,_),(21,_),(11,_),(20,_),(19,_),(18,_),(17,_),(16,_),(15,_),(14,_),(13,_),(12,_)] 1 (Xd (z:=by exact⟨(λ_ _=>⟨_,y,y,La ti y y y<|⟨.any,[15],[(6,_)],y,y,y,t,Xg (z:=z6 [0,1,2])⟩⟩),t⟩)) ?_;exact⟨⟨C.2.1,C.1,C.2.2⟩,h,zl [0,1,2]⟩
  obtain⟨v,T,h⟩:=bs h;refine Lc [(0,_),(3,_),(4,_),(5,_),(6,_)] (sR a b c d l f [some (4,[(zs B)]),some (10,[(zd v.2.1)])]) [14] Y9 [(5,_),(36,_),(35,_),(34,_),(24,_),(33,_),(32,_),(31,_),(30,_),(29,_),(28,_),(27,_),(26,_),(25,_)] 1 (Xd (z:=by exact⟨(λ_ _=>⟨_,y,y,La ti y y y<|⟨.any,[15],[(6,_)],y,y,y,t,Xg (z:=z6 [0,1,2])⟩⟩),t⟩)) ?_;refine A ?_;exact(⟨⟨v.2.1,v.1,((v.2.2&&(v.2.1.Static==(B.Op==42)))&&(!v.2.1.Abstract))⟩,h,zl [0,1,2]⟩)
 rintro⟨i,m,x⟩ h;refine A ?_;refine u<|sx [0] (zt a b c d l f x y)<|zw (VC:=[(0,Vg),(3,Vh),(4,Vj),(5,sA m)]) (VJ:=(sR a b c d l (f||(!x)) [some (4,[(zs B)]),some (10,[(zd i)])])) (zl [0,1,2])<|zx ?_;refine ze<|A ?_;apply Xa h y<;>intro I h
 .exact LP
 apply zc;obtain⟨n,O,h⟩:=bs h;refine A ?_;refine u<|sx [0] (KA O)<|zw (VC:=[(0,Vg),(3,Vh),(4,Vj),(5,sA m)]) (VJ:=(sR a b c d n.1 n.2 [some (4,[(zs B)]),some (10,[(zd i)])])) (zl [0,1,2])<|zx ?_;refine zY (X:=T1×Bool) (λz=>[(0,Vg),(4,Vh)]) (λz=>(sR a b c d z.1 z.2 [some (10,[(zd i)])])) (λz=>WR a b c d i z.1 z.2=some r) ?_ ?_
 .refine A ?_;apply Xa h y<;>intro J h
  .obtain⟨e,P,h⟩:=bs h;refine rg y<|u<|mv y<|u<|sx [0] (Hb P)<|zw (VC:=[(0,Vg),(3,Vh),(4,Vj),(5,sA m),(66,sA e.1)]) (VJ:=(sR a b c d e.2.1 e.2.2 [some (4,[(zs B)]),some (10,[(zd i)])])) (zl [0,1,2])<|A ?_;obtain⟨j,Q,h⟩:=bs h;refine Lc [(0,_),(3,_),(4,_),(5,_),(7,_)] (sR a b c d e.2.1 (e.2.2||(!j)) [some (4,[(zs B)]),some (10,[(zd i)])]) [9] Y1 [(75,_),(74,_),(73,_),(72,_),(71,_),(70,_),(69,_),(68,_),(67,_)] 1 (Xd (z:=by exact⟨(λ_ _=>⟨_,y,y,sx [0] (zt a b c d e.2.1 e.2.2 j y)<|⟨(.tup []),[],[(76,_)],y,y,y,y,Xg (z:=z6 [0,1,2])⟩⟩),t⟩)) ?_;refine A ?_;apply Xa h y<;>intro F h
   .obtain⟨o,D,K,q,h⟩:=F6 h
    rcases bb K with p|p
    .replace h:=bT p h;obtain⟨s,R,h⟩:=bs h;refine XA [(0,Vg),(4,Vh)] (sR a b c d e.2.1 ((e.2.2||(!j))||(!s)) [some (10,[(zd i)])]) [9,24] [0,1,2,3,4,5,6,7,8,10] [(90,_),(88,_),(87,_),(86,_),(85,_),(84,_),(83,_),(82,_),(81,_),(80,_)] 2 (Xd (z:=by exact⟨(λ_ _=>⟨_,y,y,sx [] (GL D)<|⟨(.msl 3 0 (length o)),[11,12,13,14,15,16,17,18,19,20,21,22,23],[(103,_),(102,_),(101,_),(100,_),(99,_),(98,_),(97,_),(96,_),(95,_),(94,_),(93,_),(92,_),(91,_),(89,_)],y,y,y,y,Xd ⟨(by exact pb y (Lj (Wl o m q) y y (.cons (XU y (λ_=>y)) (.cons (si y) .nil)) Xx<|w)),F1,F1,F1,F1,F1,F1,F1,F1,F1,F1,F1,F1,F1,F1,F1,F1,F1,F1,F1,F1,F1,F1,t⟩ (by exact⟨nv,(λ_ _=>⟨_,y,y,sc [0] (args:=[Vg,bA s]) (zt a b c d e.2.1 (e.2.2||(!j)) s y) y y y y ⟨(.mpt y),(Ln y),t⟩ ⟨⟨_,y,(Z0 y)⟩,t⟩<|⟨(.tup []),[],[(104,_)],y,y,y,y,Xg ⟨(by exact pb y (Lj (Wl o m q) y y (.cons (XU y (λ_=>y)) (.cons (si y) .nil)) Xx<|w)),F1,F1,F1,F1,F1,F1,F1,F1,F1,F1,F1,F1,F1,F1,F1,F1,F1,F1,F1,F1,F1,F1,t⟩ (z6 [0,2])⟩⟩),t⟩)⟩⟩),nw,t⟩)) ?_;exact⟨⟨e.2.1,((e.2.2||(!j))||(!s))⟩,h,zl [0,1]⟩
    replace h:=bF p h;refine XA [(0,Vg),(4,Vh)] (sR a b c d e.2.1 ((e.2.2||(!j))||(!false)) [some (10,[(zd i)])]) [9,24] [0,1,2,3,4,5,6,7,8,10] [(90,_),(88,_),(87,_),(86,_),(85,_),(84,_),(83,_),(82,_),(81,_),(80,_)] 2 (Xd (z:=by exact⟨(λ_ _=>⟨_,y,y,sx [] (GL D)<|⟨(.msl 3 0 (length o)),[11,12,13,14,15,16,17,18,19,20,21,22,23],[(103,_),(102,_),(101,_),(100,_),(99,_),(98,_),(97,_),(96,_),(95,_),(94,_),(93,_),(92,_),(91,_),(89,_)],y,y,y,y,Xd ⟨(by exact pb y (Lj (Wl o m q) y y (.cons (XU y (λ_=>y)) (.cons (si y) .nil)) Xx<|w)),F1,F1,F1,F1,F1,F1,F1,F1,F1,F1,F1,F1,F1,F1,F1,F1,F1,F1,F1,F1,F1,F1,t⟩ (by exact⟨nv,(λ_ _=>⟨_,y,y,sc [0] (args:=[Vg,bA false]) (zt a b c d e.2.1 (e.2.2||(!j)) false y) y y y y ⟨(.mpt y),(Ln y),t⟩ ⟨⟨_,y,(Z0 y)⟩,t⟩<|⟨(.tup []),[],[(104,_)],y,y,y,y,Xg ⟨(by exact pb y (Lj (Wl o m q) y y (.cons (XU y (λ_=>y)) (.cons (si y) .nil)) Xx<|w)),F1,F1,F1,F1,F1,F1,F1,F1,F1,F1,F1,F1,F1,F1,F1,F1,F1,F1,F1,F1,F1,F1,t⟩ (z6 [0,2])⟩⟩),t⟩)⟩⟩),nw,t⟩)) ?_;exact⟨⟨e.2.1,((e.2.2||(!j))||(!false))⟩,h,zl [0,1]⟩
   apply zc;exact⟨⟨e.2.1,(e.2.2||(!j))⟩,h,zl [0,2]⟩
  apply zc;exact⟨⟨n.1,n.2⟩,h,zl [0,2]⟩
 rintro⟨L,M⟩ h;refine A ?_;apply Xa h y<;>intro G h;.obtain⟨E,N,h⟩:=bs h;refine A ?_;refine u<|sx [0] (zX N)<|zw (VC:=[]) (VJ:=(sR a b c d E.1 E.2 [])) (zl [0])<|zx ?_;exact Lz
 exact zc Lz
def EC(a:T0):Option (T0):=(Ze [91] a).bind λb=>(Gz b).bind λc=>cond (!c) (some []) ((Ze [91] a).bind λd=>some d)
instance :VF 129 [sA b] (EC b) sA:=⟨λr h=>by
 refine zi func129 y kz y y<|A ?_;apply ze;obtain⟨c,d,e,f,h⟩:=F6 h;refine A ?_;apply Xa h y<;>intro a h
 .refine A ?_;exact F4
 apply zc;obtain⟨i,j,h⟩:=bs h;refine A ?_
 exact F4⟩
def SK(a:T0):Option (T0×Bool):=(Gz a).bind λb=>(cond (!b) (some true) ((idx a 0).bind λc=>some (!((c.toNat:Int)==91)))).bind λd=>cond d (some ([],false)) ((XR a 1 (length a:Int)).bind λe=>some (e,true))
instance (c:T0):VF 370 [sA c] (SK c) (λr=>(.tup [sA r.1,bA r.2])):=⟨λr h=>by
 refine zi func370 y kz y y<|A ?_;apply ze;obtain⟨f,i,j,l,h⟩:=F6 h;refine A ?_;apply Xa h y<;>intro d h
 .refine A ?_;exact F4
 apply zc;obtain⟨m,e,h⟩:=bs h;refine rg y<|u<|mv y<|u<|Mm (a:=1) (b:=(length c:Int)) ti y y (Gc y e) y e<|A ?_
 exact F4⟩
def PV(c:Vr)(d:T0)(e:zb)(f:T1)(i:T1)(j:Bool):Option (T0×T1×Bool):=(KB c d e f i j).bind λa=>cond (a.1==[78]) (some ([78],a.2.1,a.2.2)) ((SK a.1).bind λb=>some (b.1,a.2.1,(a.2.2||(!(b.2&&(!(b.1==[73])))))))
theorem iV{r:T0×T1×Bool}(h:PV a b c d l f=some r):VE 347 [Vg] (tR a b c d l f []) (sA r.1) (tR a b c d r.2.1 r.2.2 []):=by
 refine⟨⟨t,t⟩,zK func347 y kz y ?_⟩;refine A ?_;obtain⟨e,m,h⟩:=bs h;refine rg y<|u<|mv y<|u<|sx [0] (Hb m)<|zw (VC:=[(0,Vg),(7,sA e.1)]) (VJ:=(sR a b c d e.2.1 e.2.2 [])) (zl [0])<|A ?_;refine ze<|A ?_;apply Xa h y<;>intro j h
 .refine A ?_;exact LP
 apply zc;obtain⟨i,n,h⟩:=bs h;refine A ?_;refine A ?_;refine u<|sx [0] (zt a b c d e.2.1 e.2.2 (i.2&&(!(i.1==[73]))) y)<|zw (VC:=[(4,sA i.1)]) (VJ:=(sR a b c d e.2.1 (e.2.2||(!(i.2&&(!(i.1==[73]))))) [])) (zl [0])<|zx ?_;refine A ?_;exact LP
def HR(a:Vr)(b:T0)(c:zb)(d:T1)(e:T1)(f:Bool)(i:zp):Option (T1×Bool):=cond (i.Op==49) ((Ut a b c d e f ([[73]])).bind λG=>(z7 a b c d G.1 G.2 [91,73]).bind λH=>some (H.1,H.2)) (cond (i.Op==50) ((EC i.C).bind λl=>(cond (!(l==[])) ((zS a l).bind λI=>some I) (some false)).bind λJ=>(Ut a b c d e (f||(!J)) ([[73]])).bind λn=>(z7 a b c d n.1 n.2 l).bind λo=>some (o.1,o.2)) (cond (i.Op==51) ((KB a b c d e f).bind λj=>(cond (j.1==[78]) (some true) ((cond (decide (1<(length j.1:Int))) ((idx j.1 0).bind λK=>some ((K.toNat:Int)==91)) (some false)).bind λL=>some L)).bind λM=>(z7 a b c d j.2.1 (j.2.2||(!M)) [73]).bind λp=>some (p.1,p.2)) (cond (i.Op==52) ((Ut a b c d e f ([[91,73],[73]])).bind λq=>(z7 a b c d q.1 q.2 [73]).bind λs=>some (s.1,s.2)) (cond (i.Op==53) ((Ut a b c d e f ([[91,73],[73],[73]])).bind λv=>some (v.1,v.2)) (cond (i.Op==54) ((Ut a b c d e f ([[73]])).bind λx=>(PV a b c d x.1 x.2).bind λm=>(z7 a b c d m.2.1 m.2.2 m.1).bind λB=>some (B.1,B.2)) (cond (i.Op==55) ((HP a b c d e f).bind λD=>(Ut a b c d D.2.1 D.2.2 ([[73]])).bind λE=>(PV a b c d E.1 E.2).bind λF=>some (F.2.1,F.2.2)) (some (e,f))))))))
theorem pP{B:zp}(h:HR a b c d l f B=some r):VE 297 [Vg,.agg (zs B)] (tR a b c d l f []) (.tup []) (tR a b c d r.1 r.2 []):=by
 refine⟨⟨t,t⟩,zK func297 y kz y ?_⟩;refine A ?_;refine A ?_;refine zg<|A ?_;apply Xa h y<;>intro N h
 .obtain⟨x,q2,h⟩:=bs h;refine A ?_;refine zw (VC:=[(0,Vg),(10,Vg),(11,tL ([[73]]))]) (VJ:=(sR a b c d l f [])) (zl [0])<|u<|sx [0] (KA q2)<|zw (VC:=[(0,Vg)]) (VJ:=(sR a b c d x.1 x.2 [])) (zl [0])<|zx ?_;obtain⟨O,q3,h⟩:=bs h;refine rl y<|u<|mv y<|u<|sx [0] (zX q3)<|zw (VC:=[]) (VJ:=(sR a b c d O.1 O.2 [])) (zl [0])<|zx ?_;exact Lz
 refine A ?_;apply Xa h y<;>intro P h;.obtain⟨m,q5,h⟩:=bs h;refine A ?_;obtain⟨n,q8,h⟩:=bs h;refine A ?_;refine u<|sx [0] (zt a b c d l f n y)<|zw (VC:=[(0,Vg),(4,sA m)]) (VJ:=(sR a b c d l (f||(!n)) [])) (zl [0])<|zx ?_;obtain⟨o,q9,h⟩:=bs h;refine A ?_;refine zw (VC:=[(0,Vg),(4,sA m),(32,Vg),(33,tL ([[73]]))]) (VJ:=(sR a b c d l (f||(!n)) [])) (zl [0])<|u<|sx [0] (KA q9)<|zw (VC:=[(0,Vg),(4,sA m)]) (VJ:=(sR a b c d o.1 o.2 [])) (zl [0])<|zx ?_;obtain⟨C,Q,h⟩:=bs h;refine A ?_;refine u<|sx [0] (zX Q)<|zw (VC:=[]) (VJ:=(sR a b c d C.1 C.2 [])) (zl [0])<|zx ?_;exact Lz
 refine A ?_;apply Xa h y<;>intro I h;.obtain⟨e,R,h⟩:=bs h;refine rg y<|u<|mv y<|u<|sx [0] (Hb R)<|zw (VC:=[(0,Vg),(41,sA e.1)]) (VJ:=(sR a b c d e.2.1 e.2.2 [])) (zl [0])<|A ?_;obtain⟨v,q17,h⟩:=bs h;refine A ?_;refine u<|sx [0] (zt a b c d e.2.1 e.2.2 v y)<|zw (VC:=[(0,Vg)]) (VJ:=(sR a b c d e.2.1 (e.2.2||(!v)) [])) (zl [0])<|zx ?_;obtain⟨D,S,h⟩:=bs h;refine rl y<|u<|mv y<|u<|sx [0] (zX S)<|zw (VC:=[]) (VJ:=(sR a b c d D.1 D.2 [])) (zl [0])<|zx ?_;exact Lz
 refine A ?_;apply Xa h y<;>intro J h;.obtain⟨p,T,h⟩:=bs h;refine A ?_;refine zw (VC:=[(0,Vg),(60,Vg),(61,tL ([[91,73],[73]]))]) (VJ:=(sR a b c d l f [])) (zl [0])<|u<|sx [0] (KA T)<|zw (VC:=[(0,Vg)]) (VJ:=(sR a b c d p.1 p.2 [])) (zl [0])<|zx ?_;obtain⟨E,U,h⟩:=bs h;refine rl y<|u<|mv y<|u<|sx [0] (zX U)<|zw (VC:=[]) (VJ:=(sR a b c d E.1 E.2 [])) (zl [0])<|zx ?_;exact Lz
 refine A ?_;apply Xa h y<;>intro K h;.obtain⟨F,V,h⟩:=bs h;refine A ?_;refine zw (VC:=[(67,Vg),(68,tL ([[91,73],[73],[73]]))]) (VJ:=(sR a b c d l f [])) (zl [0])<|u<|sx [0] (KA V)<|zw (VC:=[]) (VJ:=(sR a b c d F.1 F.2 [])) (zl [0])<|zx ?_;exact Lz
 refine A ?_;apply Xa h y<;>intro L h;.obtain⟨q,W,h⟩:=bs h;refine A ?_;refine zw (VC:=[(0,Vg),(72,Vg),(73,tL ([[73]]))]) (VJ:=(sR a b c d l f [])) (zl [0])<|u<|sx [0] (KA W)<|zw (VC:=[(0,Vg)]) (VJ:=(sR a b c d q.1 q.2 [])) (zl [0])<|zx ?_;obtain⟨i,X,G,Y,h⟩:=F6 h;refine rl y<|u<|mv y<|u<|mv y<|u<|sx [0] (iV X)<|zw (VC:=[(75,Vg),(77,sA i.1)]) (VJ:=(sR a b c d i.2.1 i.2.2 [])) (zl [0])<|u<|sx [0] (zX Y)<|zw (VC:=[]) (VJ:=(sR a b c d G.1 G.2 [])) (zl [0])<|zx ?_;exact Lz
 refine A ?_;apply Xa h y<;>intro M h;.obtain⟨j,Z,h⟩:=bs h;refine rg y<|u<|mv y<|u<|sx [0] (Oc Z)<|zw (VC:=[(0,Vg)]) (VJ:=(sR a b c d j.2.1 j.2.2 [])) (zl [0])<|zx ?_;obtain⟨s,q30,h⟩:=bs h;refine A ?_;refine zw (VC:=[(0,Vg),(83,Vg),(84,tL ([[73]]))]) (VJ:=(sR a b c d j.2.1 j.2.2 [])) (zl [0])<|u<|sx [0] (KA q30)<|zw (VC:=[(0,Vg)]) (VJ:=(sR a b c d s.1 s.2 [])) (zl [0])<|zx ?_;obtain⟨H,q31,h⟩:=bs h;refine rl y<|u<|mv y<|u<|sx [0] (iV q31)<|zw (VC:=[]) (VJ:=(sR a b c d H.2.1 H.2.2 [])) (zl [0])<|zx ?_;exact Lz
 exact zc Lz
def Om(f:Vr)(i:T0)(j:zb)(b:T1)(d:T1)(l:zp)(a:Bool):Option (T1×T1×Bool):=cond (!a) ((idx b l.A).bind λe=>(z7 f i j b d a e).bind λc=>some (b,c.1,c.2)) (some (b,d,a))
def P9(f:Vr)(i:T0)(j:zb)(b:T1)(c:T1)(d:Bool)(e:Bool):Option (T1×T1×Bool):=cond e ((Ut f i j b c d ([[73]])).bind λa=>some (b,a.1,a.2)) (some (b,c,d))
def UH(d:Vr)(e:T0)(c:zb)(a:T1)(f:T1)(i:Bool)(b:zp):Option (T1×T1×Bool):=cond (b.Op==1) ((z7 d e c a f i [73]).bind λK=>some (a,K.1,K.2)) (cond (b.Op==2) ((z7 d e c a f i [78]).bind λL=>some (a,L.1,L.2)) (cond (b.Op==3) (cond (decide (b.A<(length a:Int))) ((idx a (if(i64.wrap ((length a:Int)-1))<b.A then(i64.wrap ((length a:Int)-1))else b.A)).bind λM=>Om d e c a f b (i||(!(!(M==[84]))))) (Om d e c a f b (i||(!false)))) (cond (b.Op==4) ((KB d e c a f i).bind λl=>cond (!(l.2.2||(!(decide (b.A<(length a:Int)))))) ((Wz (HF.mk a l.2.1)).bind λn=>(idx n.1 b.A).bind λR=>some ((List.set n.1 (Int.toNat b.A) l.1),n.2,(l.2.2||(!(decide (b.A<(length a:Int))))))) (some (a,l.2.1,(l.2.2||(!(decide (b.A<(length a:Int)))))))) (cond (b.Op==5) ((KB d e c a f i).bind λs=>some (a,s.2.1,s.2.2)) (cond (b.Op==6) ((KB d e c a f i).bind λm=>(z7 d e c a m.2.1 m.2.2 m.1).bind λv=>(z7 d e c a v.1 v.2 m.1).bind λx=>some (a,x.1,x.2)) (cond (b.Op==7) ((KB d e c a f i).bind λo=>(KB d e c a o.2.1 o.2.2).bind λp=>(z7 d e c a p.2.1 p.2.2 o.1).bind λB=>(z7 d e c a B.1 B.2 p.1).bind λD=>some (a,D.1,D.2)) (cond (b.Op==46) (some (a,f,(i||(!(c.Ret==[86]))))) (cond (b.Op==47) ((Ut d e c a f i ([[73]])).bind λE=>some (a,E.1,(E.2||(!(c.Ret==[73]))))) (cond (b.Op==48) ((HP d e c a f i).bind λj=>cond (!(c.Ret==[86])) (cond (!(c.Ret==[73])) ((Dw d j.1 c.Ret).bind λN=>some (a,j.2.1,(j.2.2||(!N)))) (some (a,j.2.1,(j.2.2||(!false))))) (some (a,j.2.1,(j.2.2||(!false))))) (cond (b.Op==56) ((HP d e c a f i).bind λF=>(zS d b.C).bind λO=>(z7 d e c a F.2.1 (F.2.2||(!O)) b.C).bind λG=>some (a,G.1,G.2)) (cond (b.Op==57) ((HP d e c a f i).bind λH=>(zS d b.C).bind λP=>(z7 d e c a H.2.1 (H.2.2||(!P)) [73]).bind λI=>some (a,I.1,I.2)) (cond (b.Op==58) ((KB d e c a f i).bind λq=>(Dw d q.1 [84,104,114,111,119,110]).bind λQ=>some (a,q.2.1,(q.2.2||(!Q)))) (cond (b.Op==59) ((z7 d e c a f i [73]).bind λJ=>some (a,J.1,J.2)) (cond (b.Op==60) (P9 d e c a f i (b.Op==60)) (P9 d e c a f i (b.Op==61))))))))))))))))
variable {i:Vr}{r:T1×T1×Bool}{x:za}
theorem n9{B:zp}(h:UH a e c d l f B=some r):VE 298 [Vg,.agg (zs B)] (tR a e c d l f []) (.tup []) (tR a e c r.1 r.2.1 r.2.2 []):=by
 refine⟨⟨t,t⟩,zK func298 y kz y ?_⟩;refine A ?_;refine A ?_;refine zg<|A ?_;apply Xa h y<;>intro hc1 h
 .obtain⟨v8,q2,h⟩:=bs h;refine rl y<|u<|mv y<|u<|sx [0] (zX q2)<|zw (VC:=[]) (VJ:=(sR a e c d v8.1 v8.2 [])) (zl [0])<|zx ?_;exact Lz
 refine A ?_;apply Xa h y<;>intro hc3 h;.obtain⟨v9,q4,h⟩:=bs h;refine rl y<|u<|mv y<|u<|sx [0] (zX q4)<|zw (VC:=[]) (VJ:=(sR a e c d v9.1 v9.2 [])) (zl [0])<|zx ?_;exact Lz
 refine A ?_;apply Xa h y<;>intro hc5 h
 .refine zY (X:=Bool) (λz=>[(0,Vg),(3,Vh)]) (λz=>(sR a e c d l z [some (4,[(zs B)])])) (λz=>Om a e c d l B z=some r) ?_ ?_
  .rcases bb (decide (B.A<(length d:Int)))with x|x
   .replace h:=bT x h;obtain⟨I,q7,h⟩:=bs h;exact LU [30] Vd [(50,_),(49,_),(48,_),(47,_),(46,_),(45,_),(44,_),(43,_),(42,_),(41,_),(40,_),(39,_),(38,_),(37,_),(36,_),(35,_),(34,_),(33,_),(32,_),(31,_),(30,_),(29,_),(28,_),(27,_),(26,_),(25,_),(24,_),(23,_),(22,_),(21,_)] 1 (Xd ⟨F1,F1,F1,F1,F1,F1,F1,F1,F1,F1,F1,F1,F1,F1,F1,F1,F1,F1,F1,F1,F1,F1,F1,F1,F1,(by exact λ_=>Le (b:=(decide (B.A<(length d:Int)))) y y y y x y (wz y y<|w)),F1,F1,F1,F1,t⟩ (by exact⟨(λ_ _=>⟨_,y,y,sc [0] (args:=[Vg,bA (!(I==[84]))]) (zt a e c d l f (!(I==[84])) y) y y y y ⟨(.mpt y),(Ln y),t⟩ ⟨⟨_,y,(Z0 y)⟩,t⟩<|⟨(.tup []),[],[(51,_)],y,y,y,y,Xg ⟨F1,F1,F1,F1,F1,F1,F1,F1,F1,F1,F1,F1,F1,F1,F1,F1,F1,F1,F1,F1,F1,F1,F1,F1,F1,(by exact λ_=>Le (b:=(decide (B.A<(length d:Int)))) y y y y x y (wz y y<|w)),F1,F1,F1,F1,t⟩ (by exact⟨(f||(!(!(I==[84])))),h,z6 [0,1]⟩)⟩⟩),t⟩))
   replace h:=bF x h;exact LU [30] Vd [(50,_),(49,_),(48,_),(47,_),(46,_),(45,_),(44,_),(43,_),(42,_),(41,_),(40,_),(39,_),(38,_),(37,_),(36,_),(35,_),(34,_),(33,_),(32,_),(31,_),(30,_),(29,_),(28,_),(27,_),(26,_),(25,_),(24,_),(23,_),(22,_),(21,_)] 1 (Xd (z:=by exact⟨(λ_ _=>⟨_,y,y,sc [0] (args:=[Vg,bA false]) (zt a e c d l f false y) y y y y ⟨(.mpt y),(Ln y),t⟩ ⟨⟨_,y,(Z0 y)⟩,t⟩<|⟨(.tup []),[],[(51,_)],y,y,y,y,Xg (z:=by exact⟨(f||(!false)),h,z6 [0,1]⟩)⟩⟩),t⟩))
  rintro v11 h;refine A ?_;apply Xa h y<;>intro hc8 h;.obtain⟨v12,q9,M,q10,h⟩:=F6 h;refine XA [] (sR a e c d M.1 M.2 []) [10] Va [(66,_),(65,_),(64,_),(63,_),(62,_),(61,_),(60,_),(59,_),(58,_),(57,_)] 1 (Xd (z:=by exact⟨(λ_ _=>⟨_,y,y,sx [0] (zX q10)<|⟨(.tup []),[],[(67,_)],y,y,y,y,Xg (z:=z6 [0])⟩⟩),t⟩)) ?_;exact Lz
  exact zc Lz
 refine A ?_;apply Xa h y<;>intro V h
 .obtain⟨j,q12,h⟩:=bs h;refine rg y<|u<|mv y<|u<|sx [0] (Hb q12)<|zw (VC:=[(0,Vg),(3,Vh),(71,sA j.1)]) (VJ:=(sR a e c d j.2.1 j.2.2 [some (4,[(zs B)])])) (zl [0,1])<|A ?_;refine Lc [(0,_),(3,_),(4,_)] (sR a e c d j.2.1 (j.2.2||(!(decide (B.A<(length d:Int))))) [some (4,[(zs B)])]) [10] Va [(81,_),(80,_),(79,_),(78,_),(77,_),(76,_),(75,_),(74,_),(73,_),(72,_)] 1 (Xd (z:=by exact⟨(λ_ _=>⟨_,y,y,sx [0] (zt a e c d j.2.1 j.2.2 (decide (B.A<(length d:Int))) y)<|⟨(.tup []),[],[(82,_)],y,y,y,y,Xg (z:=z6 [0,1])⟩⟩),t⟩)) ?_;refine A ?_;apply Xa h y<;>intro W h
  .obtain⟨s,q14,h⟩:=bs h;refine A ?_;refine u<|sx [] (ic q14)<|zw (VC:=[(0,Vg),(3,Vh),(4,sA j.1),(88,Vg),(93,.agg [.msl 2 0 (length s.1),.msl 3 0 (length s.2)])]) (VJ:=(sR a e c d j.2.1 (j.2.2||(!(decide (B.A<(length d:Int))))) [some (4,[(zs B)]),sT s.1,sT s.2])) (zl [0,1,2,3])<|A ?_;obtain⟨v16,q15,h⟩:=bs h;refine XA [] (sR a e c (List.set s.1 (Int.toNat B.A) j.1) s.2 (j.2.2||(!(decide (B.A<(length d:Int))))) []) [9] Y1 [(104,_),(103,_),(102,_),(101,_),(100,_),(99,_),(98,_),(97,_),(96,_)] 1 (Xd (z:=by exact⟨(λ_ _=>⟨_,y,y,W4 (c':=j.1) ti y y (zT q15).2.2 y y y y y<|⟨.any,[],[],y,y,y,t,Xg (z:=by exact⟨[0],cn,y,⟨⟨_,y,XN (RE y (by exact⟨tp (by simp) y y (λ_=>y),Gu y y (λ_=>y),ci y,t⟩))⟩,t⟩,y,k⟩)⟩⟩),t⟩)) ?_;exact Lz
  exact zc Lz
 refine A ?_;apply Xa h y<;>intro Y h;.obtain⟨N,q17,h⟩:=bs h;refine rl y<|u<|mv y<|u<|sx [0] (Hb q17)<|zw (VC:=[]) (VJ:=(sR a e c d N.2.1 N.2.2 [])) (zl [0])<|zx ?_;exact Lz
 refine A ?_;apply Xa h y<;>intro Z h;.obtain⟨m,q19,h⟩:=bs h;refine rg y<|u<|mv y<|u<|sx [0] (Hb q19)<|zw (VC:=[(0,Vg),(112,sA m.1)]) (VJ:=(sR a e c d m.2.1 m.2.2 [])) (zl [0])<|A ?_;obtain⟨G,q20,h⟩:=bs h;refine rg y<|u<|mv y<|u<|mv y<|u<|sx [0] (zX q20)<|zw (VC:=[(0,Vg),(5,sA m.1)]) (VJ:=(sR a e c d G.1 G.2 [])) (zl [0])<|zx ?_;obtain⟨O,q21,h⟩:=bs h;refine rl y<|u<|mv y<|u<|mv y<|u<|sx [0] (zX q21)<|zw (VC:=[]) (VJ:=(sR a e c d O.1 O.2 [])) (zl [0])<|zx ?_;exact Lz
 refine A ?_;apply Xa h y<;>intro hc22 h;.obtain⟨p,q23,q,q24,h⟩:=F6 h;refine rg y<|u<|mv y<|u<|sx [0] (Hb q23)<|zw (VC:=[(0,Vg),(122,sA p.1)]) (VJ:=(sR a e c d p.2.1 p.2.2 [])) (zl [0])<|u<|mv y<|u<|sx [0] (Hb q24)<|zw (VC:=[(0,Vg),(122,sA p.1),(124,sA q.1)]) (VJ:=(sR a e c d q.2.1 q.2.2 [])) (zl [0])<|A ?_;obtain⟨H,q25,h⟩:=bs h;refine rg y<|u<|mv y<|u<|mv y<|u<|sx [0] (zX q25)<|zw (VC:=[(0,Vg),(7,sA q.1)]) (VJ:=(sR a e c d H.1 H.2 [])) (zl [0])<|zx ?_;obtain⟨P,q26,h⟩:=bs h;refine rl y<|u<|mv y<|u<|mv y<|u<|sx [0] (zX q26)<|zw (VC:=[]) (VJ:=(sR a e c d P.1 P.2 [])) (zl [0])<|zx ?_;exact Lz
 refine A ?_;apply Xa h y<;>intro hc27 h;.refine A ?_;refine u<|sx [0] (zt a e c d l f (c.Ret==[86]) y)<|zw (VC:=[]) (VJ:=(sR a e c d l (f||(!(c.Ret==[86]))) [])) (zl [0])<|zx ?_;exact Lz
 refine A ?_;apply Xa h y<;>intro hc28 h;.obtain⟨v,q29,h⟩:=bs h;refine A ?_;refine zw (VC:=[(0,Vg),(143,Vg),(144,tL ([[73]]))]) (VJ:=(sR a e c d l f [])) (zl [0])<|u<|sx [0] (KA q29)<|zw (VC:=[(0,Vg)]) (VJ:=(sR a e c d v.1 v.2 [])) (zl [0])<|zx ?_;refine A ?_;refine u<|sx [0] (zt a e c d v.1 v.2 (c.Ret==[73]) y)<|zw (VC:=[]) (VJ:=(sR a e c d v.1 (v.2||(!(c.Ret==[73]))) [])) (zl [0])<|zx ?_;exact Lz
 refine A ?_;apply Xa h y<;>intro hc30 h
 .obtain⟨i,q31,h⟩:=bs h;refine rg y<|u<|mv y<|u<|sx [0] (Oc q31)<|zw (VC:=[(0,Vg),(157,sA i.1)]) (VJ:=(sR a e c d i.2.1 i.2.2 [])) (zl [0])<|A ?_
  rcases bb (!(c.Ret==[86]))with E|E
  .replace h:=bT E h
   rcases bb (!(c.Ret==[73]))with F|F
   .replace h:=bT F h;obtain⟨J,q34,h⟩:=bs h;refine XA [] (sR a e c d i.2.1 (i.2.2||(!J)) []) [28] Ve [(185,_),(184,_),(183,_),(182,_),(181,_),(180,_),(179,_),(178,_),(177,_),(176,_),(175,_),(174,_),(173,_),(172,_),(171,_),(170,_),(169,_),(168,_),(167,_),(166,_),(165,_),(164,_),(163,_),(162,_),(161,_),(160,_),(159,_),(158,_)] 1 (Xd (z:=by exact⟨(λ_ _=>⟨_,y,y,sc [0] (args:=[Vg,bA J]) (zt a e c d i.2.1 i.2.2 J y) y y y y ⟨(.mpt y),(Ln y),t⟩ ⟨⟨_,y,(Z0 y)⟩,t⟩<|⟨(.tup []),[],[(186,_)],y,y,y,y,Xg (z:=z6 [0])⟩⟩),t⟩)) ?_;exact Lz
   replace h:=bF F h;refine XA [] (sR a e c d i.2.1 (i.2.2||(!false)) []) [28] Ve [(185,_),(184,_),(183,_),(182,_),(181,_),(180,_),(179,_),(178,_),(177,_),(176,_),(175,_),(174,_),(173,_),(172,_),(171,_),(170,_),(169,_),(168,_),(167,_),(166,_),(165,_),(164,_),(163,_),(162,_),(161,_),(160,_),(159,_),(158,_)] 1 (Xd (z:=by exact⟨(λ_ _=>⟨_,y,y,sc [0] (args:=[Vg,bA false]) (zt a e c d i.2.1 i.2.2 false y) y y y y ⟨(.mpt y),(Ln y),t⟩ ⟨⟨_,y,(Z0 y)⟩,t⟩<|⟨(.tup []),[],[(186,_)],y,y,y,y,Xg (z:=z6 [0])⟩⟩),t⟩)) ?_;exact Lz
  replace h:=bF E h;refine XA [] (sR a e c d i.2.1 (i.2.2||(!false)) []) [28] Vf [(185,bA false),(184,Vq),(183,Vq),(182,Vq),(181,Vq),(180,Vq),(179,Vq),(178,Vq),(177,Vq),(176,Vq),(175,Vq),(174,Vq),(173,bA false),(172,bA false),(171,Vq),(170,Vq),(169,Vq),(168,Vq),(167,Vq),(166,Vq),(165,bA (!(c.Ret==[86]))),(164,bA (!(c.Ret==[86]))),(163,sA c.Ret),(162,.mpt 0 0 4),(161,.mpt 0 0 2),(160,Vg),(159,Vg),(158,Vg)] 1 (Z1 ⟨pe,pe,pe,pe,pe,pe,pe,pe,pe,pe,pe,pe,pe,pe,pe,pe,pe,pe,pe,pe,pe,(pb y (MI ti y y w)),(pb y (ld ti y y w)),(pb y (fa ti y y y w)),(pb y (fa ti y y y w)),pe,pe,pe,t⟩ ⟨(λ_ _=>⟨_,y,y,sc [0] (args:=[Vg,bA false]) (zt a e c d i.2.1 i.2.2 false y) y y y y ⟨(.mpt y),(Ln y),t⟩ ⟨⟨_,y,(Z0 y)⟩,t⟩<|⟨(.tup []),[],[(186,.tup [])],y,y,kz,y,U5 ⟨pe,pe,pe,pe,pe,pe,pe,pe,pe,pe,pe,pe,pe,pe,pe,pe,pe,pe,pe,pe,pe,(pb y (MI ti y y w)),(pb y (ld ti y y w)),(pb y (fa ti y y y w)),(pb y (fa ti y y y w)),pe,pe,pe,t⟩ (zl [0])⟩⟩),t⟩) ?_;exact Lz
 refine A ?_;apply Xa h y<;>intro hc35 h;.obtain⟨n,q36,h⟩:=bs h;refine rg y<|u<|mv y<|u<|sx [0] (Oc q36)<|zw (VC:=[(0,Vg),(3,Vh)]) (VJ:=(sR a e c d n.2.1 n.2.2 [some (4,[(zs B)])])) (zl [0,1])<|zx ?_;obtain⟨K,q37,h⟩:=bs h;refine Lc [(0,_),(3,_)] (sR a e c d n.2.1 (n.2.2||(!K)) [some (4,[(zs B)])]) [8] YU [(198,_),(197,_),(196,_),(195,_),(194,_),(193,_),(192,_),(191,_)] 1 (Xd (z:=by exact⟨(λ_ _=>⟨_,y,y,sx [0] (zt a e c d n.2.1 n.2.2 K y)<|⟨(.tup []),[],[(199,_)],y,y,y,y,Xg (z:=z6 [0,1])⟩⟩),t⟩)) ?_;obtain⟨Q,q38,h⟩:=bs h;refine A ?_;refine u<|sx [0] (zX q38)<|zw (VC:=[]) (VJ:=(sR a e c d Q.1 Q.2 [])) (zl [0])<|zx ?_;exact Lz
 refine A ?_;apply Xa h y<;>intro hc39 h;.obtain⟨o,q40,h⟩:=bs h;refine rg y<|u<|mv y<|u<|sx [0] (Oc q40)<|zw (VC:=[(0,Vg),(3,Vh)]) (VJ:=(sR a e c d o.2.1 o.2.2 [some (4,[(zs B)])])) (zl [0,1])<|zx ?_;obtain⟨L,q41,h⟩:=bs h;refine Lc [(0,_)] (sR a e c d o.2.1 (o.2.2||(!L)) []) [8] YU [(215,_),(214,_),(213,_),(212,_),(211,_),(210,_),(209,_),(208,_)] 1 (Xd (z:=by exact⟨(λ_ _=>⟨_,y,y,sx [0] (zt a e c d o.2.1 o.2.2 L y)<|⟨(.tup []),[],[(216,_)],y,y,y,y,Xg (z:=z6 [0])⟩⟩),t⟩)) ?_;obtain⟨R,q42,h⟩:=bs h;refine rl y<|u<|mv y<|u<|sx [0] (zX q42)<|zw (VC:=[]) (VJ:=(sR a e c d R.1 R.2 [])) (zl [0])<|zx ?_;exact Lz
 refine A ?_;apply Xa h y<;>intro hc43 h;.obtain⟨D,q44,S,q45,h⟩:=F6 h;refine XA [] (sR a e c d D.2.1 (D.2.2||(!S)) []) [6,8] [0,1,2,3,4,5] [(226,_),(225,_),(224,_),(223,_),(222,_),(221,_)] 2 (Xd (z:=by exact⟨(λ_ _=>⟨_,y,y,sx [0] (Hb q44)<|⟨(sA D.1),[7],[(228,_),(227,_)],y,y,y,y,Xd (z:=by exact⟨nv,(λ_ _=>⟨_,y,y,sx [0] (zt a e c d D.2.1 D.2.2 S y)<|⟨(.tup []),[],[(229,_)],y,y,y,y,Xg (z:=z6 [0])⟩⟩),t⟩)⟩⟩),nw,t⟩)) ?_;exact Lz
 refine A ?_;apply Xa h y<;>intro hc46 h;.obtain⟨T,q47,h⟩:=bs h;refine rl y<|u<|mv y<|u<|sx [0] (zX q47)<|zw (VC:=[]) (VJ:=(sR a e c d T.1 T.2 [])) (zl [0])<|zx ?_;exact Lz
 refine zY (X:=Bool) (λz=>[(0,Vg),(234,bA z)]) (λz=>(sR a e c d l f [])) (λz=>P9 a e c d l f z=some r) ?_ ?_
 .refine A ?_;apply Xa h y<;>intro hc48 h;.apply zc;exact⟨(B.Op==60),h,zl [0]⟩
  refine A ?_;exact(⟨(B.Op==61),h,zl [0]⟩)
 rintro v37 h;apply Xa h y<;>intro hc49 h;.obtain⟨U,q50,h⟩:=bs h;refine A ?_;refine zw (VC:=[(237,Vg),(238,tL ([[73]]))]) (VJ:=(sR a e c d l f [])) (zl [0])<|u<|sx [0] (KA q50)<|zw (VC:=[]) (VJ:=(sR a e c d U.1 U.2 [])) (zl [0])<|zx ?_;exact Lz
 exact zc Lz
def Ra(e:Vr)(f:T0)(i:zb)(b:T1)(c:T1)(d:Bool):Option (T1×T1×Bool):=(z7 e f i b c d [73]).bind λa=>some (b,a.1,a.2)
def zq(c:Vr)(d:T0)(e:zb)(b:T1)(f:T1)(i:Bool)(a:zp):Option (T1×T1×Bool):=cond ((decide (8<=a.Op))&&(decide (a.Op<=19))) ((Ut c d e b f i ([[73]])).bind λl=>cond (!(a.Op==13)) ((Ut c d e b l.1 l.2 ([[73]])).bind λq=>Ra c d e b q.1 q.2) (Ra c d e b l.1 l.2)) (cond ((decide (21<=a.Op))&&(decide (a.Op<=36))) ((B6 c d e b f i a).bind λm=>some (b,m.1,m.2)) (cond (a.Op==20) ((B7 c d e b f i a.A b f).bind λs=>some (b,f,s)) (cond ((decide (37<=a.Op))&&(decide (a.Op<=41))) ((Oi c d e b f i a).bind λn=>some (b,n.1,n.2)) (cond ((decide (42<=a.Op))&&(decide (a.Op<=45))) ((IM c d e b f i a).bind λo=>some (b,o.1,o.2)) (cond ((decide (49<=a.Op))&&(decide (a.Op<=55))) ((HR c d e b f i a).bind λp=>some (b,p.1,p.2)) ((UH c d e b f i a).bind λj=>some (j.1,j.2.1,j.2.2)))))))
theorem pg{B:zp}(h:zq a b c d l f B=some r):VE 211 [Vg,.agg (zs B)] (tR a b c d l f []) (.tup []) (tR a b c r.1 r.2.1 r.2.2 []):=by
 refine⟨⟨t,t⟩,zK func211 y kz y ?_⟩;refine A ?_;refine zg<|A ?_;apply Xa h y<;>intro D h
 .obtain⟨e,O,h⟩:=bs h;refine A ?_;refine zw (VC:=[(0,Vg),(3,Vh),(16,Vg),(17,tL ([[73]]))]) (VJ:=(sR a b c d l f [some (4,[(zs B)])])) (zl [0,1])<|u<|sx [0] (KA O)<|zw (VC:=[(0,Vg),(3,Vh)]) (VJ:=(sR a b c d e.1 e.2 [some (4,[(zs B)])])) (zl [0,1])<|zx ?_;refine zY (X:=T1×Bool) (λz=>[(0,Vg)]) (λz=>(sR a b c d z.1 z.2 [])) (λz=>Ra a b c d z.1 z.2=some r) ?_ ?_
  .refine A ?_;apply Xa h y<;>intro E h;.obtain⟨j,P,h⟩:=bs h;refine A ?_;exact zw (VC:=[(0,Vg),(22,Vg),(23,tL ([[73]]))]) (VJ:=(sR a b c d e.1 e.2 [])) (zl [0])<|u<|sx [0] (KA P)<|zw (VC:=[(0,Vg)]) (VJ:=(sR a b c d j.1 j.2 [])) (zl [0])<|zx (⟨⟨j.1,j.2⟩,h,zl [0]⟩)
   apply zc;exact⟨⟨e.1,e.2⟩,h,zl [0]⟩
  rintro⟨F,G⟩ h;obtain⟨m,Q,h⟩:=bs h;refine rl y<|u<|mv y<|u<|sx [0] (zX Q)<|zw (VC:=[]) (VJ:=(sR a b c d m.1 m.2 [])) (zl [0])<|zx ?_;exact Lz
 refine A ?_;apply Xa h y<;>intro H h;.obtain⟨n,R,h⟩:=bs h;refine A ?_;refine u<|sx [0] (nJ R)<|zw (VC:=[]) (VJ:=(sR a b c d n.1 n.2 [])) (zl [0])<|zx ?_;exact Lz
 refine A ?_;apply Xa h y<;>intro s h;.obtain⟨I,J,h⟩:=bs h;refine XA [] (sR a b c d l I []) [13] Y8 [(55,_),(54,_),(53,_),(52,_),(51,_),(50,_),(49,_),(48,_),(47,_),(46,_),(45,_),(44,_),(43,_)] 1 (Xd (z:=by exact⟨(λ_ _=>⟨_,y,y,sx [0] (gj J)<|⟨(.tup []),[],[(56,_)],y,y,y,y,Xg (z:=z6 [0])⟩⟩),t⟩)) ?_;exact Lz
 refine A ?_;apply Xa h y<;>intro v h;.obtain⟨o,K,h⟩:=bs h;refine A ?_;refine u<|sx [0] (pi K)<|zw (VC:=[]) (VJ:=(sR a b c d o.1 o.2 [])) (zl [0])<|zx ?_;exact Lz
 refine A ?_;apply Xa h y<;>intro x h;.obtain⟨p,L,h⟩:=bs h;refine A ?_;refine u<|sx [0] (pq L)<|zw (VC:=[]) (VJ:=(sR a b c d p.1 p.2 [])) (zl [0])<|zx ?_;exact Lz
 refine A ?_;apply Xa h y<;>intro C h;.obtain⟨q,M,h⟩:=bs h;refine A ?_;refine u<|sx [0] (pP M)<|zw (VC:=[]) (VJ:=(sR a b c d q.1 q.2 [])) (zl [0])<|zx ?_;exact Lz
 obtain⟨i,N,h⟩:=bs h;refine A ?_;refine u<|sx [0] (n9 N)<|zw (VC:=[]) (VJ:=(sR a b c i.1 i.2.1 i.2.2 [])) (zl [0])<|zx ?_;exact Lz
def iU(c:T1)(d:T1)(a:Bool)(b:Bool):Option (Bool):=some ((!a)&&(!b))
def Ax(i:T0)(j:zG)(b:zb)(l:Bool)(c:Int)(m:zZ×Bool)(n:Bool)(d:T1)(e:T1):zL (T1×T1×Bool×Bool×Int) (T1×T1×Bool×Bool) (Bool):=(WI j.L i b d e (n||(!(m.2||l))) c).bind λo=>(idx b.Code c).bind λp=>(zq j.L i b d e o p).bind λa=>(idx b.Code c).bind λf=>some (.inl (a.1,a.2.1,a.2.2,(!(Di f.Op)),(i64.wrap (c+1))))
def P5(i:T0)(j:zG)(b:zb)(l:T1)(m:T1)(c:Bool)(d:Int)(a:zZ×Bool)(e:Bool):zL (T1×T1×Bool×Bool×Int) (T1×T1×Bool×Bool) (Bool):=cond a.2 ((Wz (HF.mk a.1.Locals a.1.Stack)).bind λf=>Ax i j b c d a e f.1 f.2) (Ax i j b c d a e l m)
def HS(j:T0)(l:zG)(c:zb)(a:T1)(b:T1)(d:Bool)(f:Bool)(e:Int):zL (T1×T1×Bool×Bool×Int) (T1×T1×Bool×Bool) (Bool):=cond ((decide (e<(length c.Code:Int)))&&(!d)) ((Oh l.L j c a b d e).bind λi=>cond (i.2&&f) ((B7 l.L j c a b d e a b).bind λm=>P5 j l c a b f e i m) (P5 j l c a b f e i d)) (some (.inr (.inl (a,b,d,f))))
def iJ(f:T0)(e:zG)(a:zb)(c:Bool):Option (Bool):=(cond (a.Ret==[86]) (some true) ((zS e.L a.Ret).bind λi=>some i)).bind λd=>(PU e.L f a [] [] (c||(!d))).bind λj=>(zk (λz=>HS f e a z.1 z.2.1 z.2.2.1 z.2.2.2.1 z.2.2.2.2) (j,[],(c||(!d)),true,0)).bind λo=>zE o (λb=>iU b.1 b.2.1 b.2.2.1 b.2.2.2) some
def IX(f:zG)(b:zb)(c:Bool)(a:Int):zL (Bool×Int) (Bool) (Bool):=cond (decide (a<(length b.Params:Int))) ((idx b.Params a).bind λd=>(zS f.L d).bind λe=>some (.inl ((c||(!e)),(i64.wrap (a+1))))) (some (.inr (.inl c)))
def gt(e:T0)(c:zG)(a:zb)(d:Bool):Option (Bool):=(zk (λz=>IX c a z.1 z.2) (d,0)).bind λo=>zE o (λb=>iJ e c a b) some
def ns(a:Int)(b:Bool):zL (Bool×Int) (Bool) (Bool):=some (.inl (b,(i64.wrap (a+1))))
def IY(m:zG)(b:T1)(c:Bool)(a:Int):zL (Bool×Int) (Bool) (Bool):=cond (decide (a<((length b):Int))) ((idx b a).bind λd=>(cond (d==[84]) (some true) ((idx b a).bind λe=>some (e==[78]))).bind λf=>(cond f (some true) ((idx b a).bind λi=>(zS m.L i).bind λj=>some j)).bind λl=>some (.inl ((c||(!l)),(i64.wrap (a+1))))) (some (.inr (.inl c)))
def Of(l:zG)(c:zb)(d:Bool)(a:Int):zL (Bool×Int) (Bool) (Bool):=cond (decide (a<(length c.Maps:Int))) ((idx c.Maps a).bind λe=>(idx c.Maps a).bind λf=>(Xu 16 ([]:T1) e.Locals).bind λi=>(Xu 16 i f.Stack).bind λj=>(zk (λz=>IY l j z.1 z.2) (d,0)).bind λo=>zE o (λb=>ns a b) (λr=>some (.inr (.inr r)))) (some (.inr (.inl d)))
def kZ(l:Option zG)(f:T0)(c:Int):Option (Bool):=ZG l (none) (λa=>(zR a.L f).bind λd=>(cond ((decide (d<0))||(decide (c<0))) (some true) ((idx a.L d).bind λm=>some (decide ((length m.Methods:Int)<=c)))).bind λn=>(cond n (some true) ((idx a.L d).bind λp=>(idx p.Methods c).bind λq=>some q.Abstract)).bind λi=>cond i (some false) ((idx a.L d).bind λj=>(idx j.Methods c).bind λe=>(zk (λz=>Of a e z.1 z.2) (false,0)).bind λo=>zE o (λb=>gt f a e b) some))
def Oj(a:Bool):Option (Bool):=some a
def T6(b:Vr)(a:zp):Option (Bool):=(cond (!(a.C==[])) ((zS b a.C).bind λc=>some (!c)) (some false)).bind λd=>cond d (some false) (cond ((decide (38<=a.Op))&&(decide (a.Op<=41))) ((BV b a.C a.M).bind λe=>Oj e.2.2) (cond ((decide (42<=a.Op))&&(decide (a.Op<=44))) ((BU b a.C a.M).bind λf=>cond f.2.2 ((zR b a.C).bind λi=>(idx b i).bind λj=>Oj (!j.Interface)) (Oj false)) (cond (a.Op==45) ((E6 b a.C a.M).bind λl=>Oj l.2.2) (Oj true))))
instance (B:zp):VF 311 [.ipt 1 [[cL a]] 0 0,.agg (zs B)] (T6 a B) bA:=⟨λr h=>by
 refine zi func311 y kz y y<|A ?_;apply ze;obtain⟨v,x,h⟩:=bs h;refine A ?_;apply Xa h y<;>intro d h
 .refine A ?_;exact F4
 refine zc<|A ?_;refine zY (X:=Bool) (λz=>[(5,bA z)]) (λz=>[]) (λz=>Oj z=some r) ?_ ?_
 .refine zg<|A ?_;apply Xa h y<;>intro e h
  .obtain⟨i,C,h⟩:=bs h;refine A ?_;exact(⟨i.2.2,h,zl []⟩)
  refine A ?_;apply Xa h y<;>intro f h
  .obtain⟨j,n,h⟩:=bs h;refine A ?_
   rcases bb j.2.2 with b|b
   .replace h:=bT b h;obtain⟨D,o,l,p,h⟩:=F6 h;refine XA [(5,_)] [] [] [0,1,2,3,4,5,6,7,8,9,10,11,12,13,14,15] [(5,_),(68,_),(67,_),(66,_),(65,_),(64,_),(63,_),(62,_),(61,_),(60,_),(59,_),(58,_),(57,_),(56,_),(55,_),(54,_)] 0 (Xg (z:=z6 [])) ?_;exact⟨(!l.Interface),h,zl []⟩
   replace h:=bF b h;refine XA [(5,_)] [] [] [0,1,2,3,4,5,6,7,8,9,10,11,12,13,14,15] [(5,_),(68,_),(67,_),(66,_),(65,_),(64,_),(63,_),(62,_),(61,_),(60,_),(59,_),(58,_),(57,_),(56,_),(55,_),(54,_)] 0 (Xg (z:=z6 [])) ?_;exact⟨false,h,zl []⟩
  refine A ?_;apply Xa h y<;>intro c h;.obtain⟨m,q,h⟩:=bs h;refine A ?_;exact(⟨m.2.2,h,zl []⟩)
  apply zc;exact⟨true,h,zl []⟩
 rintro s h;refine A ?_
 exact F4⟩
def nq:Option (Bool):=some true
def iC(a:Int):zL (Int) (Unit) (Bool):=some (.inl (i64.wrap (a+1)))
def IQ(e:Vr)(b:zb)(a:Int):zL (Int) (Unit) (Bool):=cond (decide (a<(length b.Code:Int))) ((idx b.Code a).bind λc=>(T6 e c).bind λd=>cond (!d) (some (.inr (.inr false))) (some (.inl (i64.wrap (a+1))))) (some (.inr (.inl ())))
def iD(d:Vr)(a:Int)(c:zb):zL (Int) (Unit) (Bool):=(zk (λz=>IQ d c z) 0).bind λo=>zE o (λb=>iC a) (λr=>some (.inr (.inr r)))
def IR(i:Vr)(b:zb)(a:Int):zL (Int) (Unit) (Bool):=cond (decide (a<(length b.Traps:Int))) ((idx b.Traps a).bind λc=>(cond (!(c.C==[])) ((idx b.Traps a).bind λd=>(zR i d.C).bind λe=>some (decide (e<0))) (some false)).bind λf=>cond f (some (.inr (.inr false))) (some (.inl (i64.wrap (a+1))))) (some (.inr (.inl ())))
def iE(c:Vr)(d:Int)(a:zb):zL (Int) (Unit) (Bool):=(zk (λz=>IR c a z) 0).bind λo=>zE o (λb=>iD c d a) (λr=>some (.inr (.inr r)))
def IG(e:Vr)(b:zb)(a:Int):zL (Int) (Unit) (Bool):=cond (decide (a<(length b.Params:Int))) ((idx b.Params a).bind λc=>(zS e c).bind λd=>cond (!d) (some (.inr (.inr false))) (some (.inl (i64.wrap (a+1))))) (some (.inr (.inl ())))
def I8(d:Vr)(e:za)(c:Int):zL (Int) (Unit) (Bool):=cond (decide (c<(length e.Methods:Int))) ((idx e.Methods c).bind λa=>(cond (!(a.Ret==[86])) ((zS d a.Ret).bind λf=>some (!f)) (some false)).bind λi=>cond i (some (.inr (.inr false))) ((zk (λz=>IG d a z) 0).bind λo=>zE o (λb=>iE d c a) (λr=>some (.inr (.inr r))))) (some (.inr (.inl ())))
def ig(a:Vr)(c:za):Option (Bool):=(zk (λz=>I8 a c z) 0).bind λo=>zE o (λb=>nq) some
def IH(c:Vr)(b:za)(a:Int):zL (Int) (Unit) (Bool):=cond (decide (a<(length b.Fields:Int))) ((idx b.Fields a).bind λd=>(zS c d.Type_).bind λe=>cond (!e) (some (.inr (.inr false))) (some (.inl (i64.wrap (a+1))))) (some (.inr (.inl ())))
def T5(a:Vr)(c:za):Option (Bool):=(zk (λz=>IH a c z) 0).bind λo=>zE o (λb=>ig a c) some
instance :VF 216 [.ipt 1 [[cL a]] 0 0,.agg (zf x)] (T5 a x) bA:=⟨λr h=>by
 refine zi func216 y kz y y<|A ?_;refine ze<|A ?_;obtain⟨o,ho,h⟩:=bs h;refine F7 ho (λz=>[(0,.ipt 1 [[cL a]] 0 0),(3,Vg),(5,iA z)]) (λz=>[some (6,[(zf x)])]) (λb=>[(0,.ipt 1 [[cL a]] 0 0),(3,Vg)]) (λb=>[some (6,[(zf x)])]) (pG f216 bA) (z6 [0]) ?_ ?_
 .rintro S r h;refine ze<|A ?_;apply Xa h y<;>intro q h
  .refine zc<|ze<|zg ?_;obtain⟨T,U,V,W,h⟩:=F6 h;refine A ?_;apply Xa h y<;>intro s h
   .refine A ?_;apply zA;cases h;exact⟨_,y,_,y,Xb []⟩
   refine zc<|A ?_;exact LC
  exact Lv
 rintro⟨⟩ rfl;refine zm<|ze<|A ?_;obtain⟨o,ho,h⟩:=bs h;refine F7 ho (λz=>[(0,.ipt 1 [[cL a]] 0 0),(3,Vg),(6,iA z)]) (λz=>[some (6,[(zf x)])]) (λb=>[]) (λb=>[]) (pG f216 bA) (z6 [0]) ?_ ?_
 .rintro c r h;refine ze<|A ?_;apply Xa h y<;>intro e h
  .refine zc<|ze<|zg ?_;obtain⟨d,v,h⟩:=bs h;refine A ?_;apply ze;obtain⟨B,C,h⟩:=bs h;refine A ?_;apply Xa h y<;>intro f h
   .refine A ?_;apply zA;cases h;exact⟨_,y,_,y,Xb []⟩
   refine zc<|ze<|A ?_;obtain⟨o,ho,h⟩:=bs h;refine LG ho (λz=>[(0,.ipt 1 [[cL a]] 0 0),(3,Vg),(6,iA c),(7,Vh),(8,iA z)]) (λz=>[some (6,[(zf x)]),some (10,[(zd d)])]) (λb=>[(0,.ipt 1 [[cL a]] 0 0),(3,Vg),(6,iA c),(7,Vh)]) (λb=>[some (6,[(zf x)]),some (10,[(zd d)])]) (pG f216 bA) (z6 [0,1]) ?_ ?_ ?_
   .rintro D r h;refine ze<|A ?_;apply Xa h y<;>intro i h
    .refine zc<|ze<|zg ?_;obtain⟨E,F,G,H,h⟩:=F6 h;refine A ?_;apply Xa h y<;>intro j h
     .refine A ?_;apply zA;cases h;exact⟨_,y,_,y,Xb []⟩
     refine zc<|A ?_;exact LH
    exact LW
   .rintro⟨⟩ rfl;refine zm<|ze<|A ?_;obtain⟨o,ho,h⟩:=bs h;refine LG ho (λz=>[(0,.ipt 1 [[cL a]] 0 0),(3,Vg),(6,iA c),(7,Vh),(9,iA z)]) (λz=>[some (6,[(zf x)]),some (10,[(zd d)])]) (λb=>[(0,.ipt 1 [[cL a]] 0 0),(3,Vg),(6,iA c),(7,Vh)]) (λb=>[some (6,[(zf x)]),some (10,[(zd d)])]) (pG f216 bA) (z6 [0,1]) ?_ ?_ ?_
    .rintro I r h;refine ze<|A ?_;apply Xa h y<;>intro l h
     .refine zc<|ze<|zg ?_;obtain⟨J,K,L,M,h⟩:=F6 h;refine A ?_;apply Xa h y<;>intro m h
      .refine A ?_;apply zA;cases h;exact⟨_,y,_,y,Xb []⟩
      refine zc<|A ?_;exact LH
     exact LW
    .rintro⟨⟩ rfl;refine zm<|A ?_;obtain⟨o,ho,h⟩:=bs h;refine LG ho (λz=>[(0,.ipt 1 [[cL a]] 0 0),(3,Vg),(6,iA c),(7,Vh),(10,iA z)]) (λz=>[some (6,[(zf x)]),some (10,[(zd d)])]) (λb=>[(0,.ipt 1 [[cL a]] 0 0),(3,Vg),(6,iA c)]) (λb=>[some (6,[(zf x)])]) (pG f216 bA) (z6 [0,1]) ?_ ?_ ?_
     .rintro N r h;refine ze<|A ?_;apply Xa h y<;>intro n h
      .refine zc<|ze<|zg ?_;obtain⟨O,P,Q,R,h⟩:=F6 h;refine A ?_;apply Xa h y<;>intro p h
       .refine A ?_;apply zA;cases h;exact⟨_,y,_,y,Xb []⟩
       refine zc<|A ?_;exact LH
      exact Lv
     .rintro⟨⟩ rfl;refine zm<|A ?_;exact LC
     rintro r' rfl env st hp;cases h;exact⟨_,y,hp⟩
    rintro r' rfl env st hp;cases h;exact⟨_,y,hp⟩
   rintro r' rfl env st hp;cases h;exact⟨_,y,hp⟩
  exact Ll
 rintro⟨⟩ rfl;refine zm<|A ?_
 exact F4⟩
def BB(a:zb)(b:zb):Option (Bool):=(BG a.Params b.Params).bind λc=>some (c&&(a.Ret==b.Ret))
theorem kA(c:zb)(O:zb){r:Bool}(h:BB c O=some r):VD 312 [.agg (zd c),.agg (zd O)] (bA r):=by refine zi func312 y kz y y<|A ?_;obtain⟨a,b,h⟩:=bs h;refine A ?_;exact F4
instance (O:zb):VF 312 [.agg (zd c),.agg (zd O)] (BB c O) bA:=⟨λ_=>kA c O⟩
def nV:Option (T0×Bool):=some ([],false)
def I4(e:Vr)(n:T0)(d:T1)(a:Int):zL (Int) (Unit) (T0×Bool):=cond (decide (a<((length d):Int))) ((idx d a).bind λf=>(zR e f).bind λi=>(idx e i).bind λb=>(Gk b n).bind λc=>(cond (decide (0<=c)) ((idx b.Methods c).bind λj=>some (!j.Static)) (some false)).bind λl=>cond l ((idx d a).bind λm=>some (.inr (.inr (m,true)))) (some (.inl (i64.wrap (a+1))))) (some (.inr (.inl ())))
def Ah(a:Vr)(c:T0)(e:T0):Option (T0×Bool):=(zR a c).bind λd=>(cond (decide (d<0)) (some true) ((idx a d).bind λf=>some f.Interface)).bind λi=>cond i (some ([],false)) ((KY a c).bind λj=>(zk (λz=>I4 a e j z) 0).bind λo=>zE o (λb=>nV) some)
instance (d:T0):VF 352 [.ipt 1 [[cL a]] 0 0,sA d,sA n] (Ah a d n) (λr=>(.tup [sA r.1,bA r.2])):=⟨λr h=>by
 refine zi func352 y kz y y<|A ?_;obtain⟨H,I,h⟩:=bs h;refine A ?_;apply ze;obtain⟨J,K,h⟩:=bs h;refine A ?_;apply Xa h y<;>intro i h
 .refine A ?_;exact F4
 apply zc;obtain⟨c,l,h⟩:=bs h;refine A ?_;refine u<|sx [] (GL l)<|zw (VC:=[(0,.ipt 1 [[cL a]] 0 0),(2,sA n),(30,.msl 0 0 (length c))]) (VJ:=[sT c]) (zl [0])<|A ?_;refine ze<|A ?_;obtain⟨o,ho,h⟩:=bs h;refine F7 ho (λz=>[(0,.ipt 1 [[cL a]] 0 0),(2,sA n),(9,.msl 0 0 (length c)),(10,iA z)]) (λz=>[sT c]) (λb=>[]) (λb=>[]) (pG f352 (λr=>.tup [sA r.1,bA r.2])) (z6 [0]) ?_ ?_
 .rintro m r h;refine ze<|A ?_;apply Xa h y<;>intro e h
  .refine zc<|ze<|zg ?_;obtain⟨p,q,s,v,j,x,h⟩:=LA h;refine Lc [(0,_),(2,_),(9,_),(10,_),(11,_)] [sT c,some (6,[(zf j)])] [12,13] Y4 [(48,_),(47,_),(46,_),(45,_),(44,_),(43,_),(42,_),(41,_),(40,_),(39,_),(38,_),(37,_)] 2 (Xd (z:=by exact⟨(λ_ _=>⟨_,y,y,al 1 ti y<|⟨(Vh),[],[(11,_)],y,y,y,y,Xd (z:=by exact⟨nv,(λ_ _=>⟨_,y,y,La ti y y y<|⟨.any,[],[],y,y,y,t,Xg (z:=z6 [0,1])⟩⟩),t⟩)⟩⟩),nw,t⟩)) ?_;obtain⟨B,C,h⟩:=bs h;refine A ?_;obtain⟨D,E,h⟩:=bs h;refine A ?_;apply Xa h y<;>intro f h
   .obtain⟨F,G,h⟩:=bs h;refine A ?_;apply zA;cases h;exact⟨_,y,_,y,Xb []⟩
   refine zc<|A ?_;exact LC
  exact Ll
 rintro⟨⟩ rfl;refine zm<|A ?_
 exact F4⟩
def ij(c:Vr)(e:za)(d:zb):Option (Bool):=cond e.Interface (some true) ((Ah c e.Name d.Name).bind λa=>cond (!a.2) (some false) ((zR c a.1).bind λf=>(idx c f).bind λb=>(Gk b d.Name).bind λi=>(idx b.Methods i).bind λj=>(BB j d).bind λl=>some l))
def Ar(a:Int)(b:Bool):zL (Int) (Unit) (Bool):=cond b (some (.inr (.inr false))) (some (.inl (i64.wrap (a+1))))
def II(d:Vr)(e:T1)(f:zb)(a:Int):zL (Int) (Unit) (Bool):=cond (decide (a<(length e:Int))) ((idx e a).bind λi=>(zR d i).bind λj=>(idx d j).bind λb=>(Gk b f.Name).bind λc=>cond (decide (0<=c)) ((idx b.Methods c).bind λl=>(BB l f).bind λm=>Ar a (!m)) (Ar a false)) (some (.inr (.inl ())))
def PM(a:Vr)(d:za)(e:T1)(c:zb):Option (Bool):=(zk (λz=>II a e c z) 0).bind λo=>zE o (λb=>ij a d c) some
theorem ii(a:Vr)(x:za)(d:T1)(c:zb){r:Bool}(h:PM a x d c=some r):VD 314 [.ipt 1 [[cL a]] 0 0,.agg (zf x),tL d,.agg (zd c)] (bA r):=by
 refine zi func314 y kz y y<|A ?_;refine ze<|A ?_;obtain⟨o,ho,h⟩:=bs h;refine F7 ho (λz=>[(0,.ipt 1 [[cL a]] 0 0),(2,tL d),(5,Vg),(7,Vh),(9,iA z)]) (λz=>[some (6,[(zf x)]),some (10,[(zd c)])]) (λb=>[(0,.ipt 1 [[cL a]] 0 0),(5,Vg),(7,Vh)]) (λb=>[some (6,[(zf x)]),some (10,[(zd c)])]) (pG f314 bA) (z6 [0,1]) ?_ ?_
 .rintro f r h;refine ze<|A ?_;apply Xa h y<;>intro i h
  .refine zc<|ze<|zg ?_;obtain⟨v,B,C,D,n,E,h⟩:=LA h;refine Lc [(0,_),(2,_),(5,_),(7,_),(9,_),(10,_)] [some (6,[(zf x)]),some (10,[(zd c)]),some (6,[(zf n)])] [12,13] Y4 [(32,_),(31,_),(30,_),(29,_),(28,_),(27,_),(26,_),(25,_),(24,_),(23,_),(22,_),(21,_)] 2 (Xd (z:=by exact⟨(λ_ _=>⟨_,y,y,al 2 ti y<|⟨(Vj),[],[(10,_)],y,y,y,y,Xd (z:=by exact⟨nv,(λ_ _=>⟨_,y,y,La ti y y y<|⟨.any,[],[],y,y,y,t,Xg (z:=z6 [0,1,2])⟩⟩),t⟩)⟩⟩),nw,t⟩)) ?_;obtain⟨p,F,h⟩:=bs h;refine A ?_;refine zY (X:=Bool) (λz=>[(0,.ipt 1 [[cL a]] 0 0),(2,tL d),(5,Vg),(7,Vh),(9,iA f),(48,bA z)]) (λz=>[some (6,[(zf x)]),some (10,[(zd c)])]) (λz=>Ar f z=some r) ?_ ?_
   .rcases bb (decide (0<=p))with e|e
    .replace h:=bT e h;obtain⟨G,H,q,I,h⟩:=F6 h;exact LU [] Y4 [(48,_),(47,_),(46,_),(45,_),(44,_),(43,_),(42,_),(41,_),(40,_),(39,_),(38,_),(37,_)] 0 (Xg (z:=by exact⟨(!q),h,z6 [0,1]⟩))
    replace h:=bF e h;exact LU [] Y4 [(48,_),(47,_),(46,_),(45,_),(44,_),(43,_),(42,_),(41,_),(40,_),(39,_),(38,_),(37,_)] 0 (Xg (z:=by exact⟨false,h,z6 [0,1]⟩))
   rintro J h;apply Xa h y<;>intro j h;.refine A ?_;apply zA;cases h;exact⟨_,y,_,y,Xb []⟩
   refine zc<|A ?_;exact LH
  exact LW
 rintro⟨⟩ rfl;refine zm<|ze<|A ?_;apply Xa h y<;>intro l h
 .refine A ?_;exact F4
 apply zc;obtain⟨K,L,h⟩:=bs h;refine A ?_;refine ze<|A ?_;apply Xa h y<;>intro m h
 .refine A ?_;exact F4
 apply zc;obtain⟨M,N,s,O,h⟩:=F6 h;refine Lc [(7,Vg),(14,Vh)] [some (10,[(zd c)]),some (6,[(zf s)])] [9,10] Y1 [(70,_),(69,_),(68,_),(67,_),(66,_),(65,_),(64,_),(63,_),(62,_)] 2 (Xd (z:=by exact⟨(λ_ _=>⟨_,y,y,al 2 ti y<|⟨(Vj),[],[(14,_)],y,y,y,y,Xd (z:=by exact⟨nv,(λ_ _=>⟨_,y,y,La ti y y y<|⟨.any,[],[],y,y,y,t,Xg (z:=z6 [1,2])⟩⟩),t⟩)⟩⟩),nw,t⟩)) ?_;obtain⟨P,Q,R,S,T,U,h⟩:=LA h;refine Lc [(8,_)] [] [] Y0 [(8,_),(80,_),(79,_),(78,_),(77,_),(76,_),(75,_),(74,_),(73,_),(72,_),(71,_)] 0 (Xg (z:=z6 [])) ?_;exact F4
instance :VF 314 [.ipt 1 [[cL a]] 0 0,.agg (zf x),tL d,.agg (zd c)] (PM a x d c) bA:=⟨λ_=>ii a x d c⟩
def iF:Option (Bool):=some true
def iG(a:Int):zL (Int) (Unit) (Bool):=some (.inl (i64.wrap (a+1)))
def IT(f:Vr)(i:za)(c:T1)(b:za)(a:Int):zL (Int) (Unit) (Bool):=cond (decide (a<(length b.Methods:Int))) ((idx b.Methods a).bind λd=>(PM f i c d).bind λe=>cond (!e) (some (.inr (.inr false))) (some (.inl (i64.wrap (a+1))))) (some (.inr (.inl ())))
def IS(d:Vr)(j:za)(a:T1)(c:Int):zL (Int) (Unit) (Bool):=cond (decide (c<((length a):Int))) ((idx a c).bind λe=>(zR d e).bind λf=>(idx d f).bind λi=>(zk (λz=>IT d j a i z) 0).bind λo=>zE o (λb=>iG c) (λr=>some (.inr (.inr r)))) (some (.inr (.inl ())))
def gq(a:Vr)(c:za):Option (Bool):=(If a c.Name).bind λd=>(zk (λz=>IS a c d z) 0).bind λo=>zE o (λb=>iF) some
def iH(a:Int):zL (Int) (Unit) (Bool):=some (.inl (i64.wrap (a+1)))
def AK(a:Int):zL (Int) (Unit) (Bool):=some (.inl (i64.wrap (a+1)))
def PW(a:Int)(b:Bool):zL (Int) (Unit) (Bool):=cond b (some (.inr (.inr false))) (AK a)
def IV(f:Vr)(e:za)(i:T1)(b:Int)(a:Int):zL (Int) (Unit) (Bool):=cond (decide (a<(length i:Int))) ((idx i a).bind λj=>(zR f j).bind λl=>(idx f l).bind λc=>(idx e.Methods b).bind λm=>(Gk c m.Name).bind λd=>(cond (decide (d<0)) (some true) ((idx e.Methods b).bind λn=>some (n.Name==[36,105,110,105,116]))).bind λo=>cond o (AK a) ((idx c.Methods d).bind λp=>(idx e.Methods b).bind λq=>(BB p q).bind λs=>cond (!s) (PW a true) ((idx c.Methods d).bind λv=>cond v.Static (PW a true) ((idx e.Methods b).bind λx=>PW a x.Static)))) (some (.inr (.inl ())))
def IU(d:Vr)(c:za)(e:T1)(a:Int):zL (Int) (Unit) (Bool):=cond (decide (a<(length c.Methods:Int))) ((zk (λz=>IV d c e a z) 0).bind λo=>zE o (λb=>iH a) (λr=>some (.inr (.inr r)))) (some (.inr (.inl ())))
def T7(a:Vr)(c:za):Option (Bool):=(KY a c.Name).bind λd=>(XR d 1 (length d:Int)).bind λe=>(zk (λz=>IU a c e z) 0).bind λo=>zE o (λb=>gq a c) some
instance :VF 217 [.ipt 1 [[cL i]] 0 0,.agg (zf x)] (T7 i x) bA:=⟨λr h=>by
 refine zi func217 y kz y y<|A ?_;obtain⟨G,V,D,S,h⟩:=F6 h;refine A ?_;refine u<|sx [] (GL V)<|zw (VC:=[(0,.ipt 1 [[cL i]] 0 0),(3,Vg),(17,.msl 1 0 (length G))]) (VJ:=[some (6,[(zf x)]),sT G]) (zl [0,1])<|zw (VC:=[(0,.ipt 1 [[cL i]] 0 0),(3,Vg),(17,tL G)]) (VJ:=[some (6,[(zf x)])]) (zl [0])<|u<|Mi (a:=1) (b:=(length G:Int)) ti y ti y y (Gc y S) y S<|A ?_;refine ze<|A ?_;obtain⟨o,ho,h⟩:=bs h;refine F7 ho (λz=>[(0,.ipt 1 [[cL i]] 0 0),(3,Vg),(5,tL D),(6,iA z)]) (λz=>[some (6,[(zf x)])]) (λb=>[(0,.ipt 1 [[cL i]] 0 0),(3,Vg)]) (λb=>[some (6,[(zf x)])]) (pG f217 bA) (z6 [0]) ?_ ?_
 .rintro j r h;refine ze<|A ?_;apply Xa h y<;>intro L h
  .refine zc<|ze<|zg<|A ?_;obtain⟨o,ho,h⟩:=bs h;refine LG ho (λz=>[(0,.ipt 1 [[cL i]] 0 0),(3,Vg),(5,tL D),(6,iA j),(7,iA z)]) (λz=>[some (6,[(zf x)])]) (λb=>[(0,.ipt 1 [[cL i]] 0 0),(3,Vg),(5,tL D),(6,iA j)]) (λb=>[some (6,[(zf x)])]) (pG f217 bA) (z6 [0]) ?_ ?_ ?_
   .rintro p r h;refine ze<|A ?_;apply Xa h y<;>intro M h
    .apply zc;refine zY (X:=Unit) (λz=>[(0,.ipt 1 [[cL i]] 0 0),(3,Vg),(5,tL D),(6,iA j),(7,iA p)]) (λz=>[some (6,[(zf x)])]) (λz=>AK p=some r) ?_ ?_
     .apply zg;obtain⟨W,Y,Z,q61,e,q62,h⟩:=LA h;refine Lc [(0,_),(3,_),(5,_),(6,_),(7,_),(8,_)] [some (6,[(zf x)]),some (6,[(zf e)])] [12,13] Y4 [(43,_),(42,_),(41,_),(40,_),(39,_),(38,_),(37,_),(36,_),(35,_),(34,_),(33,_),(32,_)] 2 (Xd (z:=by exact⟨(λ_ _=>⟨_,y,y,al 1 ti y<|⟨(Vh),[],[(8,_)],y,y,y,y,Xd (z:=by exact⟨nv,(λ_ _=>⟨_,y,y,La ti y y y<|⟨.any,[],[],y,y,y,t,Xg (z:=z6 [0,1])⟩⟩),t⟩)⟩⟩),nw,t⟩)) ?_;obtain⟨v53,q63,n,q64,h⟩:=F6 h;refine Lc [(0,_),(3,_),(5,_),(6,_),(7,_),(8,_),(9,_)] [some (6,[(zf x)]),some (6,[(zf e)])] [] Y1 [(9,_),(51,_),(50,_),(49,_),(48,_),(47,_),(46,_),(45,_),(44,_)] 0 (Xg (z:=z6 [0,1])) ?_;apply ze;obtain⟨v56,q67,h⟩:=bs h;refine A ?_;apply Xa h y<;>intro N h;.apply zr;exact⟨(),h,zl [0]⟩
      apply zc;refine zY (X:=Bool) (λz=>[(0,.ipt 1 [[cL i]] 0 0),(3,Vg),(5,tL D),(6,iA j),(7,iA p),(90,bA z)]) (λz=>[some (6,[(zf x)])]) (λz=>PW p z=some r) ?_ ?_
      .obtain⟨q,s,v,B,d,I,h⟩:=LA h
       rcases bb (!d)with c|c
       .replace h:=bT c h;exact LU [] Ve [(90,_),(89,_),(88,_),(87,_),(86,_),(85,_),(84,_),(83,_),(82,_),(81,_),(80,_),(79,_),(78,_),(77,_),(76,_),(75,_),(74,_),(73,_),(72,_),(71,_),(70,_),(69,_),(68,_),(67,_),(66,_),(65,_),(64,_),(63,_)] 0 (Xg (z:=by exact⟨true,h,z6 [0]⟩))
       replace h:=bF c h;obtain⟨f,C,h⟩:=bs h
       rcases bb f.Static with l|l
       .replace h:=bT l h;exact GH [] Vf [(90,bA true),(89,Vq),(88,Vq),(87,Vq),(86,Vq),(85,Vq),(84,Vq),(83,bA f.Static),(82,bA f.Static),(81,bA f.Static),(80,.ipt 10 (map zd e.Methods) (Int.toNat n) 3),(79,.ipt 10 (map zd e.Methods) (Int.toNat n) 0),(78,iA n),(77,.isl 10 (map zd e.Methods)),(76,.mpt 1 0 5),(75,bA (!d)),(74,bA (!d)),(73,bA d),(72,.agg (zd v)),(71,.ipt 10 (map zd x.Methods) (Int.toNat j) 0),(70,iA j),(69,.isl 10 (map zd x.Methods)),(68,Vi),(67,.agg (zd q)),(66,.ipt 10 (map zd e.Methods) (Int.toNat n) 0),(65,iA n),(64,.isl 10 (map zd e.Methods)),(63,.mpt 1 0 5)] 0 kz kz y kz (U5 ⟨pe,pe,pe,pe,pe,pe,pe,pe,pe,(λ_=>Le (b:=(!d)) y y y y c y (Lt ti y (zT C).2.2 y<|w)),(λ_=>Le (b:=(!d)) y y y y c y (fa ti y y y<|w)),(λ_=>Le (b:=(!d)) y y y y c y (Lp ti y ti y y y C<|w)),pe,(λ_=>Le (b:=(!d)) y y y y c y (ld ti y y<|w)),(λ_=>Le (b:=(!d)) y y y y c y (fa ti y y y<|w)),pe,pe,(pb y (pc (kA q v I) y y y w)),(pb y (Lt ti y (zT B).2.2 y w)),(pb y (Lp ti y ti y y y B w)),pe,(pb y (ld ti y y w)),(pb y (fa ti y y y w)),(pb y (Lt ti y (zT s).2.2 y w)),(pb y (Lp ti y ti y y y s w)),pe,(pb y (ld ti y y w)),(pb y (fa ti y y y w)),t⟩ ⟨true,h,zl [0]⟩)
       replace h:=bF l h;obtain⟨E,J,h⟩:=bs h;exact GH [] Vf [(90,bA E.Static),(89,bA E.Static),(88,.ipt 10 (map zd x.Methods) (Int.toNat j) 3),(87,.ipt 10 (map zd x.Methods) (Int.toNat j) 0),(86,iA j),(85,.isl 10 (map zd x.Methods)),(84,Vi),(83,bA f.Static),(82,bA f.Static),(81,bA f.Static),(80,.ipt 10 (map zd e.Methods) (Int.toNat n) 3),(79,.ipt 10 (map zd e.Methods) (Int.toNat n) 0),(78,iA n),(77,.isl 10 (map zd e.Methods)),(76,.mpt 1 0 5),(75,bA (!d)),(74,bA (!d)),(73,bA d),(72,.agg (zd v)),(71,.ipt 10 (map zd x.Methods) (Int.toNat j) 0),(70,iA j),(69,.isl 10 (map zd x.Methods)),(68,Vi),(67,.agg (zd q)),(66,.ipt 10 (map zd e.Methods) (Int.toNat n) 0),(65,iA n),(64,.isl 10 (map zd e.Methods)),(63,.mpt 1 0 5)] 0 kz kz y kz (U5 ⟨pe,(λ_=>Le (b:=f.Static) y y y y l y (Lt ti y (zT J).2.2 y<|w)),(λ_=>Le (b:=f.Static) y y y y l y (fa ti y y y<|w)),(λ_=>Le (b:=f.Static) y y y y l y (Lp ti y ti y y y J<|w)),pe,(λ_=>Le (b:=f.Static) y y y y l y (ld ti y y<|w)),(λ_=>Le (b:=f.Static) y y y y l y (fa ti y y y<|w)),pe,pe,(λ_=>Le (b:=(!d)) y y y y c y (Lt ti y (zT C).2.2 y<|w)),(λ_=>Le (b:=(!d)) y y y y c y (fa ti y y y<|w)),(λ_=>Le (b:=(!d)) y y y y c y (Lp ti y ti y y y C<|w)),pe,(λ_=>Le (b:=(!d)) y y y y c y (ld ti y y<|w)),(λ_=>Le (b:=(!d)) y y y y c y (fa ti y y y<|w)),pe,pe,(pb y (pc (kA q v I) y y y w)),(pb y (Lt ti y (zT B).2.2 y w)),(pb y (Lp ti y ti y y y B w)),pe,(pb y (ld ti y y w)),(pb y (fa ti y y y w)),(pb y (Lt ti y (zT s).2.2 y w)),(pb y (Lp ti y ti y y y s w)),pe,(pb y (ld ti y y w)),(pb y (fa ti y y y w)),t⟩ ⟨E.Static,h,zl [0]⟩)
      rintro v62 h;apply Xa h y<;>intro O h;.refine A ?_;apply zA;cases h;exact⟨_,y,_,y,Xb []⟩
      apply zc;exact⟨(),h,zl [0]⟩
     rintro⟨⟩ h;refine A ?_;exact LC
    exact Lv
   .rintro⟨⟩ rfl;refine zm<|A ?_;exact LC
   rintro r' rfl env st hp;cases h;exact⟨_,y,hp⟩
  exact Lv
 rintro⟨⟩ rfl;apply zm;obtain⟨m,T,h⟩:=bs h;refine A ?_;refine u<|sx [] (ge T)<|zw (VC:=[(0,.ipt 1 [[cL i]] 0 0),(3,Vg),(94,.msl 1 0 (length m))]) (VJ:=[some (6,[(zf x)]),sT m]) (zl [0,1])<|A ?_;refine ze<|A ?_;obtain⟨o,ho,h⟩:=bs h;refine F7 ho (λz=>[(0,.ipt 1 [[cL i]] 0 0),(3,Vg),(10,.msl 1 0 (length m)),(11,iA z)]) (λz=>[some (6,[(zf x)]),sT m]) (λb=>[]) (λb=>[]) (pG f217 bA) (z6 [0,1]) ?_ ?_
 .rintro K r h;refine ze<|A ?_;apply Xa h y<;>intro P h
  .refine zc<|ze<|zg ?_;obtain⟨v75,q91,v76,q92,F,q93,h⟩:=LA h;refine Lc [(0,_),(3,_),(10,_),(11,_),(12,_)] [some (6,[(zf x)]),sT m,some (6,[(zf F)])] [12,13] Y4 [(112,_),(111,_),(110,_),(109,_),(108,_),(107,_),(106,_),(105,_),(104,_),(103,_),(102,_),(101,_)] 2 (Xd (z:=by exact⟨(λ_ _=>⟨_,y,y,al 2 ti y<|⟨(Vj),[],[(12,_)],y,y,y,y,Xd (z:=by exact⟨nv,(λ_ _=>⟨_,y,y,La ti y y y<|⟨.any,[],[],y,y,y,t,Xg (z:=z6 [0,1,2])⟩⟩),t⟩)⟩⟩),nw,t⟩)) ?_;refine A ?_;obtain⟨o,ho,h⟩:=bs h;refine LG ho (λz=>[(0,.ipt 1 [[cL i]] 0 0),(3,Vg),(10,.msl 1 0 (length m)),(11,iA K),(12,Vj),(13,iA z)]) (λz=>[some (6,[(zf x)]),sT m,some (6,[(zf F)])]) (λb=>[(0,.ipt 1 [[cL i]] 0 0),(3,Vg),(10,.msl 1 0 (length m)),(11,iA K)]) (λb=>[some (6,[(zf x)]),sT m]) (pG f217 bA) (z6 [0,1,2]) ?_ ?_ ?_
   .rintro v81 r h;refine ze<|A ?_;apply Xa h y<;>intro Q h
    .refine zc<|ze<|zg ?_;obtain⟨U,q99,v83,R,h⟩:=F6 h;refine Lc [(0,_),(3,_),(10,_),(11,_),(12,_),(13,_),(129,_)] [some (6,[(zf x)]),sT m,some (6,[(zf F)])] [] Va [(129,_),(128,_),(127,_),(126,_),(125,_),(124,_),(123,_),(122,_),(121,_),(120,_)] 0 (Xg ⟨F1,F1,F1,F1,F1,F1,F1,F1,(by exact pb y (Lj (ii i x m U R) y y (.cons (si y) (.cons (si y) (.cons (XU y (λ_=>y)) (.cons (si y) .nil)))) Xx<|w)),F1,t⟩ (z6 [0,1,2])) ?_;apply Xa h y<;>intro H h
     .refine A ?_;apply zA;cases h;exact⟨_,y,_,y,Xb []⟩
     refine zc<|A ?_;exact Mh
    exact LW
   .rintro⟨⟩ rfl;refine zm<|A ?_;exact LH
   rintro r' rfl env st hp;cases h;exact⟨_,y,hp⟩
  exact Ll
 rintro⟨⟩ rfl;refine zm<|A ?_
 exact F4⟩
def nR:Option (Int):=some 0
def I0(b:zG)(a:Int):zL (Int) (Unit) (Int):=cond (decide (a<(length b.L:Int))) ((idx b.L a).bind λc=>(T7 b.L c).bind λd=>cond (!d) (some (.inr (.inr 1))) (some (.inl (i64.wrap (a+1))))) (some (.inr (.inl ())))
def iM(a:zG):Option (Int):=(zk (λz=>I0 a z) 0).bind λo=>zE o (λb=>nR) some
def I1(a:zG)(b:Int):zL (Int) (Unit) (Int):=cond (decide (b<(length a.L:Int))) ((idx a.L b).bind λc=>(T5 a.L c).bind λd=>cond (!d) (some (.inr (.inr 4))) (some (.inl (i64.wrap (b+1))))) (some (.inr (.inl ())))
variable {V5:Vt}{K:Option zG}{D:Option zu}{r:T1}{e:T2}
def IE(c:Option zG):Option (Int):=ZG c (none) (λa=>(zk (λz=>I1 a z) 0).bind λo=>zE o (λb=>iM a) some)
theorem iL(K:Option zG){r:Int}(h:IE K=some r):VD 122 [Xz 1 Kx K] (iA r):=by
 refine zi func122 y kz y y ?_;unfold IE at h
 rcases K with _|a
 .replace h:=L9 h;refine A ?_;refine ze<|A ?_;cases h
 replace h:=L8 h;refine A ?_;refine ze<|A ?_;obtain⟨o,ho,h⟩:=bs h;refine F7 ho (λz=>[(0,.ipt 1 [[cL a.L]] 0 0),(3,iA z)]) (λz=>[]) (λb=>[(0,.ipt 1 [[cL a.L]] 0 0)]) (λb=>[]) (pG f122 iA) (z6 []) ?_ ?_
 .rintro p r h;refine ze<|A ?_;apply Xa h y<;>intro e h
  .refine zc<|ze<|zg ?_;obtain⟨q,s,v,x,h⟩:=F6 h;refine A ?_;apply Xa h y<;>intro f h
   .refine A ?_;apply zA;cases h;exact⟨_,y,_,y,Xb []⟩
   refine zc<|A ?_;exact LB
  exact Ll
 rintro⟨⟩ rfl;refine zm<|ze<|A ?_;obtain⟨o,ho,h⟩:=bs h;refine F7 ho (λz=>[(0,.ipt 1 [[cL a.L]] 0 0),(4,iA z)]) (λz=>[]) (λb=>[]) (λb=>[]) (pG f122 iA) (z6 []) ?_ ?_
 .rintro i r h;refine ze<|A ?_;apply Xa h y<;>intro c h
  .refine zc<|ze<|zg ?_;obtain⟨j,l,m,n,h⟩:=F6 h;refine A ?_;apply Xa h y<;>intro d h
   .refine A ?_;apply zA;cases h;exact⟨_,y,_,y,Xb []⟩
   refine zc<|A ?_;exact LB
  exact Ll
 rintro⟨⟩ rfl;refine zm<|A ?_;exact F4
instance :VF 122 [Xz 1 Kx K] (IE K) iA:=⟨λ_=>iL K⟩
def pA:Option (T0×zb×Bool):=some ([],(zb.mk [] [] [] false false 0 0 [] [] []),false)
def pz(e:T0)(f:zG)(d:T1)(a:Int):zL (Int) (Unit) (T0×zb×Bool):=cond (decide (a<((length d):Int))) ((idx d a).bind λi=>(zR f.L i).bind λj=>(idx f.L j).bind λb=>(Gk b e).bind λc=>cond ((decide (0<=c))&&(!(e==[36,105,110,105,116]))) ((idx d a).bind λl=>(idx b.Methods c).bind λm=>some (.inr (.inr (l,m,true)))) (some (.inl (i64.wrap (a+1))))) (some (.inr (.inl ())))
def PS(c:Option zG)(d:T0)(e:T0):Option (T0×zb×Bool):=ZG c (none) (λa=>(KY a.L d).bind λf=>(zk (λz=>pz e a f z) 0).bind λo=>zE o (λb=>pA) some)
theorem iY(K:Option zG)(c:T0)(n:T0){r:T0×zb×Bool}(h:PS K c n=some r):VD 125 [Xz 1 Kx K,sA c,sA n] (.tup [sA r.1,.agg (zd r.2.1),bA r.2.2]):=by
 refine zi func125 y kz y y ?_;unfold PS at h
 rcases K with _|d
 .replace h:=L9 h;refine A ?_;cases h
 replace h:=L8 h;refine A ?_;obtain⟨a,l,h⟩:=bs h;refine A ?_;refine u<|sx [] (GL l)<|zw (VC:=[(0,.ipt 1 [[cL d.L]] 0 0),(2,sA n),(7,Vg),(15,.msl 1 0 (length a))]) (VJ:=[Zf,sT a]) (zl [0,1])<|A ?_;refine ze<|A ?_;obtain⟨o,ho,h⟩:=bs h;refine F7 ho (λz=>[(0,.ipt 1 [[cL d.L]] 0 0),(2,sA n),(7,Vg),(9,.msl 1 0 (length a)),(10,iA z)]) (λz=>[Zf,sT a]) (λb=>[(7,Vg)]) (λb=>[Zf]) (pG f125 (λr=>.tup [sA r.1,.agg (zd r.2.1),bA r.2.2])) (z6 [0,1]) ?_ ?_
 .rintro m r h;refine ze<|A ?_;apply Xa h y<;>intro e h
  .refine zc<|ze<|zg ?_;obtain⟨p,q,s,v,i,x,h⟩:=LA h;refine Lc [(0,_),(2,_),(7,_),(9,_),(10,_),(11,_)] [Zf,sT a,some (6,[(zf i)])] [12,13] Y4 [(33,_),(32,_),(31,_),(30,_),(29,_),(28,_),(27,_),(26,_),(25,_),(24,_),(23,_),(22,_)] 2 (Xd (z:=by exact⟨(λ_ _=>⟨_,y,y,al 2 ti y<|⟨(Vj),[],[(11,_)],y,y,y,y,Xd (z:=by exact⟨nv,(λ_ _=>⟨_,y,y,La ti y y y<|⟨.any,[],[],y,y,y,t,Xg (z:=z6 [0,1,2])⟩⟩),t⟩)⟩⟩),nw,t⟩)) ?_;obtain⟨B,C,h⟩:=bs h;refine A ?_;refine A ?_;apply Xa h y<;>intro f h
   .obtain⟨D,E,j,F,h⟩:=F6 h;refine Lc [(6,_),(7,_),(8,_)] [some (10,[(zd j)])] [10] Va [(6,_),(51,_),(50,_),(49,_),(48,_),(47,_),(46,_),(45,_),(44,_),(43,_)] 1 (Xd (z:=by exact⟨(λ_ _=>⟨_,y,y,La ti y y y<|⟨.any,[11],[(8,_)],y,y,y,t,Xg (z:=z6 [0])⟩⟩),t⟩)) ?_;apply zA;cases h;exact⟨_,y,_,y,Xb []⟩
   refine zc<|A ?_;exact LH
  exact Lv
 rintro⟨⟩ rfl;refine zm<|A ?_;exact F4
instance :VF 125 [Xz 1 Kx K,sA b,sA n] (PS K b n) (λr=>(.tup [sA r.1,.agg (zd r.2.1),bA r.2.2])):=⟨λ_=>iY K b n⟩
def rb(c:T1)(d:T1)(a:Bool)(b:Bool):Option (Bool):=some ((!a)&&(!b))
def gI(i:Vr)(j:T0)(a:zb)(l:Bool)(b:Int)(m:zZ×Bool)(n:Bool)(d:T1)(e:T1):zL (T1×T1×Bool×Bool×Int) (T1×T1×Bool×Bool) (Bool):=(WI i j a d e (n||(!(m.2||l))) b).bind λo=>(idx a.Code b).bind λp=>(zq i j a d e o p).bind λc=>(idx a.Code b).bind λf=>some (.inl (c.1,c.2.1,c.2.2,(!(Di f.Op)),(i64.wrap (b+1))))
def gJ(i:Vr)(j:T0)(b:zb)(l:T1)(m:T1)(c:Bool)(d:Int)(a:zZ×Bool)(e:Bool):zL (T1×T1×Bool×Bool×Int) (T1×T1×Bool×Bool) (Bool):=cond a.2 ((Wz (HF.mk a.1.Locals a.1.Stack)).bind λf=>gI i j b c d a e f.1 f.2) (gI i j b c d a e l m)
def ra(j:Vr)(l:T0)(c:zb)(a:T1)(b:T1)(d:Bool)(f:Bool)(e:Int):zL (T1×T1×Bool×Bool×Int) (T1×T1×Bool×Bool) (Bool):=cond ((decide (e<(length c.Code:Int)))&&(!d)) ((Oh j l c a b d e).bind λi=>cond (i.2&&f) ((B7 j l c a b d e a b).bind λm=>gJ j l c a b f e i m) (gJ j l c a b f e i d)) (some (.inr (.inl (a,b,d,f))))
def pT(e:Vr)(f:T0)(a:zb)(c:Bool):Option (Bool):=(cond (a.Ret==[86]) (some true) ((zS e a.Ret).bind λi=>some i)).bind λd=>(PU e f a [] [] (c||(!d))).bind λj=>(zk (λz=>ra e f a z.1 z.2.1 z.2.2.1 z.2.2.2.1 z.2.2.2.2) (j,[],(c||(!d)),true,0)).bind λo=>zE o (λb=>rb b.1 b.2.1 b.2.2.1 b.2.2.2) some
def pQ(f:Vr)(b:zb)(c:Bool)(a:Int):zL (Bool×Int) (Bool) (Bool):=cond (decide (a<(length b.Params:Int))) ((idx b.Params a).bind λd=>(zS f d).bind λe=>some (.inl ((c||(!e)),(i64.wrap (a+1))))) (some (.inr (.inl c)))
def pU(c:Vr)(e:T0)(a:zb)(d:Bool):Option (Bool):=(zk (λz=>pQ c a z.1 z.2) (d,0)).bind λo=>zE o (λb=>pT c e a b) some
def pu(a:Int)(b:Bool):zL (Bool×Int) (Bool) (Bool):=some (.inl (b,(i64.wrap (a+1))))
def pS(m:Vr)(b:T1)(c:Bool)(a:Int):zL (Bool×Int) (Bool) (Bool):=cond (decide (a<((length b):Int))) ((idx b a).bind λd=>(cond (d==[84]) (some true) ((idx b a).bind λe=>some (e==[78]))).bind λf=>(cond f (some true) ((idx b a).bind λi=>(zS m i).bind λj=>some j)).bind λl=>some (.inl ((c||(!l)),(i64.wrap (a+1))))) (some (.inr (.inl c)))
def pR(l:Vr)(c:zb)(d:Bool)(a:Int):zL (Bool×Int) (Bool) (Bool):=cond (decide (a<(length c.Maps:Int))) ((idx c.Maps a).bind λe=>(idx c.Maps a).bind λf=>(Xu 16 ([]:T1) e.Locals).bind λi=>(Xu 16 i f.Stack).bind λj=>(zk (λz=>pS l j z.1 z.2) (d,0)).bind λo=>zE o (λb=>pu a b) (λr=>some (.inr (.inr r)))) (some (.inr (.inl d)))
def gr(a:Vr)(f:T0)(c:Int):Option (Bool):=(zR a f).bind λd=>(cond ((decide (d<0))||(decide (c<0))) (some true) ((idx a d).bind λj=>some (decide ((length j.Methods:Int)<=c)))).bind λl=>(cond l (some true) ((idx a d).bind λm=>(idx m.Methods c).bind λn=>some n.Abstract)).bind λp=>cond p (some false) ((idx a d).bind λi=>(idx i.Methods c).bind λe=>(zk (λz=>pR a e z.1 z.2) (false,0)).bind λo=>zE o (λb=>pU a f e b) some)
instance (d:T0)(i:Int):VF 119 [.ipt 1 [[cL a]] 0 0,sA d,iA i] (gr a d i) bA:=⟨λr h=>by
 refine zi func119 y kz y y<|A ?_;obtain⟨v4,q1,h⟩:=bs h;refine A ?_;apply ze;obtain⟨v6,q5,v9,q9,h⟩:=F6 h;refine A ?_;apply Xa h y<;>intro P h
 .refine A ?_;exact F4
 apply zc;obtain⟨v10,q11,c,q12,h⟩:=F6 h;refine A ?_;refine ze<|A ?_;obtain⟨o,ho,h⟩:=bs h;refine F7 ho (λz=>[(0,.ipt 1 [[cL a]] 0 0),(8,Vg),(9,iA z.2)]) (λz=>[some (15,[(rK a d c (nS) (nS) (bA z.1))])]) (λb=>[(0,.ipt 1 [[cL a]] 0 0),(8,Vg)]) (λb=>[some (15,[(rK a d c (nS) (nS) (bA b))])]) (pG f119 bA) (z6 [0]) ?_ ?_
 .rintro⟨W,n⟩ r h;refine ze<|A ?_;apply Xa h y<;>intro Q h
  .refine zc<|ze<|zg ?_;obtain⟨Y,B,Z,x,I,q39,p,q40,h⟩:=Me h;refine Lc [(0,.ipt 1 [[cL a]] 0 0),(8,Vg),(9,iA n),(10,.msl 1 0 (length p))] [some (15,[(rK a d c (nS) (nS) (bA W))]),sT p] [9,19] [18,17,16,15,14,13,12,11,10,8,7,6,5,4,3,2,1,0] [(96,tL Z.Stack),(95,.ipt 3 (map zV c.Maps) (Int.toNat n) 2),(94,.ipt 3 (map zV c.Maps) (Int.toNat n) 0),(93,iA n),(92,.isl 3 (map zV c.Maps)),(91,.mpt 0 0 10),(90,.mpt 0 0 2),(89,Vg),(88,Vg),(86,tL Y.Locals),(85,.ipt 3 (map zV c.Maps) (Int.toNat n) 1),(84,.ipt 3 (map zV c.Maps) (Int.toNat n) 0),(83,iA n),(82,.isl 3 (map zV c.Maps)),(81,.mpt 0 0 10),(80,.mpt 0 0 2),(79,Vg),(78,Vg)] 2 (Z1 ⟨(pb y (Lt ti y (zT x).2.2 y w)),(pb y (fa ti y y y w)),(pb y (Lp ti y ti y y y x w)),pe,(pb y (ld ti y y w)),(pb y (fa ti y y y w)),(pb y (fa ti y y y w)),pe,pe,(pb y (Lt ti y (zT B).2.2 y w)),(pb y (fa ti y y y w)),(pb y (Lp ti y ti y y y B w)),pe,(pb y (ld ti y y w)),(pb y (fa ti y y y w)),(pb y (fa ti y y y w)),pe,pe,t⟩ ⟨(λ_ _=>⟨_,y,y,MO (f:=Xe) 1 ti y ti y y YB ti y y y Mc (λ_=>y) y q39<|⟨(.msl 1 0 (length I)),[],[(87,.msl 1 0 (length I))],y,y,kz,y,Z1 ⟨(pb y (Lt ti y (zT x).2.2 y w)),(pb y (fa ti y y y w)),(pb y (Lp ti y ti y y y x w)),pe,(pb y (ld ti y y w)),(pb y (fa ti y y y w)),(pb y (fa ti y y y w)),pe,pe,pe,(pb y (fa ti y y y w)),(pb y (Lp ti y ti y y y B w)),pe,(pb y (ld ti y y w)),(pb y (fa ti y y y w)),(pb y (fa ti y y y w)),pe,pe,t⟩ ⟨nv,(λ_ _=>⟨_,y,y,Lo 2 ti y ti y y YB ti y y y y Mc (λ_=>y) y q40<|⟨(.msl 2 0 (length p)),[20],[(10,.msl 2 0 (length p)),(97,.msl 2 0 (length p))],y,y,kz,y,U5 ⟨pe,pe,(pb y (fa ti y y y w)),(pb y (Lp ti y ti y y y x w)),pe,(pb y (ld ti y y w)),(pb y (fa ti y y y w)),(pb y (fa ti y y y w)),pe,pe,pe,(pb y (fa ti y y y w)),(pb y (Lp ti y ti y y y B w)),pe,(pb y (ld ti y y w)),(pb y (fa ti y y y w)),(pb y (fa ti y y y w)),pe,pe,t⟩ (zl [0,2])⟩⟩),t⟩⟩⟩),nw,t⟩) ?_;refine A ?_;obtain⟨o,ho,h⟩:=bs h;refine LG ho (λz=>[(0,.ipt 1 [[cL a]] 0 0),(8,Vg),(9,iA n),(10,.msl 1 0 (length p)),(11,iA z.2)]) (λz=>[some (15,[(rK a d c (nS) (nS) (bA z.1))]),sT p]) (λb=>[(0,.ipt 1 [[cL a]] 0 0),(8,Vg),(9,iA n)]) (λb=>[some (15,[(rK a d c (nS) (nS) (bA b))])]) (pG f119 bA) (z6 [0,1]) ?_ ?_ ?_
   .rintro⟨J,v50⟩ r h;refine ze<|A ?_;apply Xa h y<;>intro R h
    .refine zc<|ze<|zg ?_;obtain⟨v51,q51,v53,q54,K,q58,h⟩:=LA h;refine A ?_;refine u<|sx [0] (gi a d c J K y)<|zw (VC:=[(0,.ipt 1 [[cL a]] 0 0),(8,Vg),(9,iA n),(10,.msl 1 0 (length p)),(11,iA v50)]) (VJ:=[some (15,[(rK a d c (nS) (nS) (bA (J||(!K))))]),sT p]) (zl [0,1])<|zx ?_;refine A ?_;exact LH
    exact Lv
   .rintro v57 rfl;refine zm<|A ?_;exact LC
   rintro r' rfl env st hp;cases h;exact⟨_,y,hp⟩
  exact Lv
 rintro v58 rfl;refine zm<|ze<|A ?_;obtain⟨o,ho,h⟩:=bs h;refine F7 ho (λz=>[(0,.ipt 1 [[cL a]] 0 0),(8,Vg),(12,iA z.2)]) (λz=>[some (15,[(rK a d c (nS) (nS) (bA z.1))])]) (λb=>[(0,.ipt 1 [[cL a]] 0 0),(8,Vg)]) (λb=>[some (15,[(rK a d c (nS) (nS) (bA b))])]) (pG f119 bA) (z6 [0]) ?_ ?_
 .rintro⟨L,v64⟩ r h;refine ze<|A ?_;apply Xa h y<;>intro S h
  .refine zc<|ze<|zg ?_;obtain⟨v65,q63,M,q64,h⟩:=F6 h;refine A ?_;refine u<|sx [0] (gi a d c L M y)<|zw (VC:=[(0,.ipt 1 [[cL a]] 0 0),(8,Vg),(12,iA v64)]) (VJ:=[some (15,[(rK a d c (nS) (nS) (bA (L||(!M))))])]) (zl [0])<|zx ?_;refine A ?_;exact LC
  exact Lv
 rintro D rfl;apply zm;obtain⟨E,q67,h⟩:=bs h;refine A ?_;refine u<|sx [0] (gi a d c D E y)<|zw (VC:=[(8,Vg)]) (VJ:=[some (15,[(rK a d c (nS) (nS) (bA (D||(!E))))])]) (zl [0])<|zx ?_;obtain⟨v70,q68,h⟩:=bs h;refine rg y<|u<|mv y<|ph 1<|ph 1<|u<|sc [0,1,2] (pj q68) y y y y ⟨(.mpt y),t⟩ ⟨⟨_,y,(Hd y ⟨(.nil0 y),(.nil0 y),(Ln y),t⟩)⟩,⟨y,LD (λ_=>y)⟩,⟨y,LD (λ_=>y)⟩,t⟩<|zx ?_;refine A ?_;refine ze<|A ?_;obtain⟨o,ho,h⟩:=bs h;refine F7 ho (λz=>[(8,Vg),(13,bA z.2.2.2.1),(14,iA z.2.2.2.2)]) (λz=>(sR a d c z.1 z.2.1 z.2.2.1 [])) (λb=>[(8,Vg),(13,bA b.2.2.2)]) (λb=>(sR a d c b.1 b.2.1 b.2.2.1 [])) (pG f119 bA) (z6 [0]) ?_ ?_
 .rintro⟨l,m,C,q,j⟩ r h;refine ze<|A ?_;apply Xa h y<;>intro T h
  .refine zc<|ze<|zg ?_;obtain⟨e,q84,h⟩:=bs h;refine A ?_;refine u<|sx [0] (gG q84)<|zw (VC:=[(8,Vg),(13,bA q),(14,iA j),(187,.tup [.agg (zV e.1),bA e.2])]) (VJ:=(sR a d c l m C [])) (zl [0])<|A ?_;refine zY (X:=Bool) (λz=>[(8,Vg),(13,bA q),(14,iA j),(15,Vh),(16,bA e.2)]) (λz=>(sR a d c l m z [some (3,[(zV e.1)])])) (λz=>gJ a d c l m q j e z=some r) ?_ ?_
   .refine A ?_;apply Xa h y<;>intro U h;.obtain⟨N,q87,h⟩:=bs h;refine XA [(8,_),(13,_),(14,_),(15,_),(16,_)] (sR a d c l m N [some (3,[(zV e.1)])]) [12] Y4 [(205,_),(204,_),(203,_),(202,_),(201,_),(200,_),(199,_),(198,_),(197,_),(196,_),(195,_),(194,_)] 1 (Xd (z:=by exact⟨(λ_ _=>⟨_,y,y,sx [0] (gj q87)<|⟨(.tup []),[],[(206,_)],y,y,y,y,Xg (z:=z6 [0,1])⟩⟩),t⟩)) ?_;exact⟨N,h,zl [0,1]⟩
    apply zc;exact⟨C,h,zl [0,1]⟩
   rintro s h;refine A ?_;refine u<|sx [0] (zt a d c l m s (e.2||q) y)<|zw (VC:=[(8,Vg),(14,iA j),(15,Vh),(16,bA e.2)]) (VJ:=(sR a d c l m (s||(!(e.2||q))) [some (3,[(zV e.1)])])) (zl [0,1])<|zx ?_;refine zY (X:=T1×T1) (λz=>[(8,Vg),(14,iA j)]) (λz=>(sR a d c z.1 z.2 (s||(!(e.2||q))) [])) (λz=>gI a d c q j e s z.1 z.2=some r) ?_ ?_
   .refine A ?_;apply Xa h y<;>intro V h;.obtain⟨v,q90,h⟩:=bs h;refine A ?_;refine u<|sx [] (ic q90)<|zw (VC:=[(8,Vg),(14,iA j),(214,Vg),(220,.agg [.msl 1 0 (length v.1),.msl 2 0 (length v.2)])]) (VJ:=(sR a d c l m (s||(!(e.2||q))) [sT v.1,sT v.2])) (zl [0,2,3])<|A ?_;exact(⟨⟨v.1,v.2⟩,h,zl [0]⟩)
    apply zc;exact⟨⟨l,m⟩,h,zl [0]⟩
   rintro⟨F,G⟩ h;obtain⟨O,q91,h⟩:=bs h;refine rg y<|u<|mv y<|u<|mv y<|u<|sx [0] (n0 q91)<|zw (VC:=[(8,Vg),(14,iA j)]) (VJ:=(sR a d c F G O [])) (zl [0])<|zx ?_;obtain⟨v98,q92,H,q93,h⟩:=F6 h;refine A ?_;refine u<|sx [0] (pg q93)<|zw (VC:=[(8,Vg),(14,iA j)]) (VJ:=(sR a d c H.1 H.2.1 H.2.2 [])) (zl [0])<|zx ?_;obtain⟨v100,q94,h⟩:=bs h;refine A ?_;refine A ?_;exact LC
  exact Lv
 rintro⟨v101,v102,v103,v104⟩ rfl;refine zm<|A ?_
 exact F4⟩
def lC(a:Vr):Option ((Option zG)×Int):=some ((some (zG.mk a)),0)
def o6(a:Int)(b:zG):zL ((Option zG)×Int) ((Vr)) ((Option zG)×Int):=some (.inl ((some b),(i64.wrap (a+1))))
def EX(c:Int)(a:zG)(b:Int):zL (Int) (Unit) ((Option zG)×Int):=(idx a.L c).bind λd=>cond (decide (b<(length d.Methods:Int))) ((idx a.L c).bind λe=>(idx e.Methods b).bind λf=>(cond (!f.Abstract) ((idx a.L c).bind λi=>(gr a.L i.Name b).bind λj=>some (!j)) (some false)).bind λl=>cond l (some (.inr (.inr (none,5)))) (some (.inl (i64.wrap (b+1))))) (some (.inr (.inl ())))
def Wo(d:Option zG)(c:Int):zL ((Option zG)×Int) ((Vr)) ((Option zG)×Int):=ZG d (none) (λa=>cond (decide (c<(length a.L:Int))) ((zk (λz=>EX c a z) 0).bind λo=>zE o (λb=>o6 c a) (λr=>some (.inr (.inr r)))) (some (.inr (.inl a.L))))
def Pe(f:Vr)(d:X9):Option ((Option zG)×Int):=(Sy f).bind λa=>cond (!(a.2==0)) (some (none,a.2)) ((IE a.1).bind λe=>cond (!(e==0)) (some (none,e)) ((PS a.1 d.C d.M).bind λc=>cond ((((!c.2.2)||(!c.2.1.Static))||(decide (0<(length c.2.1.Params:Int))))||(!(c.2.1.Ret==[86]))) (some (none,4)) ((zk (λz=>Wo z.1 z.2) (a.1,0)).bind λo=>zE o (λb=>lC b) some)))
theorem o5(a:Vr)(H:X9){r:(Option zG)×Int}(h:Pe a H=some r):VD 43 [cL a,.agg (KR H)] (.tup [Xz 1 Kx r.1,iA r.2]):=by
 refine zi func43 y kz y (xi (Kk (Zo (λ_=>y)) (y))) ?_;refine A ?_;obtain⟨l,N,h⟩:=bs h;refine A ?_;refine ze<|A ?_;apply Xa h y<;>intro m h
 .refine A ?_;exact F4
 refine zc<|ze ?_;obtain⟨O,q,h⟩:=bs h;refine rg y<|u<|mv y<|u<|pc (iL l.1 q) y y (Kk (Zo (λ_=>y)) (y))<|A ?_;refine A ?_;apply Xa h y<;>intro n h
 .refine A ?_;exact F4
 apply zc;obtain⟨P,s,h⟩:=bs h;refine A ?_;refine u<|pc (iY l.1 H.C H.M s) y y (Kk (Zo (λ_=>y)) (y))<|A ?_;refine ze<|A ?_;apply Xa h y<;>intro p h
 .refine A ?_;exact F4
 refine zc<|ze<|A ?_;obtain⟨o,ho,h⟩:=bs h;refine F7 ho (λz=>[(6,Xz 1 Kx z.1),(12,iA z.2)]) (λz=>[]) (λb=>[(6,.ipt 1 [[cL b]] 0 0)]) (λb=>[]) (pG f43 (λr=>.tup [Xz 1 Kx r.1,iA r.2])) (z6 []) ?_ ?_
 .rintro⟨d,c⟩ r h;replace h:Wo d c=some r:=h;unfold Wo at h;apply ze;refine rg y<|u<|mv y<|u<|mv y<|?_
  rcases d with _|e
  .replace h:=L9 h;cases h
  replace h:=L8 h;refine u<|nc y y<|u<|fa ti y y y<|u<|ld ti y y<|u<|Mu ti y y<|u<|lss ti y y<|zx ?_;apply Xa h y<;>intro f h
  .refine zc<|ze<|zg<|A ?_;obtain⟨o,ho,h⟩:=bs h;refine LG ho (λz=>[(6,.ipt 1 [[cL e.L]] 0 0),(12,iA c),(13,iA z)]) (λz=>[]) (λb=>[(6,.ipt 1 [[cL e.L]] 0 0),(12,iA c)]) (λb=>[]) (pG f43 (λr=>.tup [Xz 1 Kx r.1,iA r.2])) (z6 []) ?_ ?_ ?_
   .rintro v r h;apply ze;obtain⟨x,B,h⟩:=bs h;refine A ?_;apply Xa h y<;>intro i h
    .refine zc<|ze<|zg ?_;obtain⟨D,E,F,G,I,J,h⟩:=LA h;refine A ?_;apply Xa h y<;>intro j h
     .refine A ?_;apply zA;cases h;exact⟨_,y,_,y,Xb []⟩
     refine zc<|A ?_;exact LB
    exact Ll
   .rintro⟨⟩ rfl;refine zm<|A ?_;exact LB
   rintro r' rfl env st hp;cases h;exact⟨_,y,hp⟩
  exact Ll
 rintro K rfl;refine zm<|A ?_;exact F4
instance (H:X9):VF 43 [cL a,.agg (KR H)] (Pe a H) (λr=>(.tup [Xz 1 Kx r.1,iA r.2])):=⟨λ_=>o5 a H⟩
def wY(x:X9):Prop:=(wS) x.C/\(wS) x.M
theorem zDg{n:Nat}(h:ZF prog (n+2) 84 V5):∃x:X9,V5=KR x/\wY x:=by
 obtain⟨parts,rfl,hl,hg⟩:=ML underlying84 h
 match parts,hl with
 |[p0,p1],_ =>
  obtain⟨x0,rfl,w0⟩:=L6 underlying9 (hg 0 _ p0 rfl rfl);obtain⟨x1,rfl,w1⟩:=L6 underlying9 (hg 1 _ p1 rfl rfl);exact⟨⟨x0,x1⟩,rfl,w0,w1⟩
structure G6 where
  L:Vr
  E:X9
  In:List Int
  Fuel:Int
def SX(x:G6):Vt:=[cL x.L,sA x.E.C,sA x.E.M,.isl 1 (map (rI .i32) x.In),iA x.Fuel]
def pB(a:T1):Option (T1):=some a
def AN(a:T1)(b:T0)(c:T0)(e:Bool):zL (T1×T0×T0×Bool) (T1) (T1):=(cond e ((zO a b).bind λf=>some (!f)) (some false)).bind λi=>cond i ((Xu 16 a [b]).bind λj=>(GE c).bind λd=>some (.inl (j,c,d.1,d.2))) (some (.inr (.inl a)))
def I6(e:Vr)(f:T2)(d:T1)(i:T1)(j:T1)(a:T0):Option (T1):=(GE a).bind λc=>(zk (λz=>AN z.1 z.2.1 z.2.2.1 z.2.2.2) (d,a,c.1,c.2)).bind λo=>zE o (λb=>pB b) some
theorem gw{p:T0}(h:I6 a e d l F p=some r):VE 126 [Vg,sA p] [.one 4 [.ipt 2 [[cL a,mI e]] 0 0,.msl 1 0 (length d),.msl 2 0 (length l),.msl 3 0 (length F)],.many 1 (map Xe d),.many 1 (map Xe l),.many 1 (map Xe F)] (.tup []) [.one 4 [.ipt 2 [[cL a,mI e]] 0 0,.msl 4 0 (length r),.msl 2 0 (length l),.msl 3 0 (length F)],.no,.many 1 (map Xe l),.many 1 (map Xe F),.many 1 (map Xe r)]:=by
 refine⟨⟨t,t,Xo (sz:=1) (λ_=>y),Xo (sz:=1) (λ_=>y),Xo (sz:=1) (λ_=>y),t⟩,zK func126 y kz y ?_⟩;obtain⟨K,L,h⟩:=bs h;refine A ?_;obtain⟨o,ho,h⟩:=bs h;refine F7 ho (λz=>[(0,Vg),(1,sA z.2.1),(4,sA z.2.2.1),(5,bA z.2.2.2)]) (λz=>[some (4,[[.ipt 2 [[cL a,mI e]] 0 0,.msl 4 0 (length z.1),.msl 2 0 (length l),.msl 3 0 (length F)]]),none,sT l,sT F,sT z.1]) (λb=>[]) (λb=>[some (4,[[.ipt 2 [[cL a,mI e]] 0 0,.msl 4 0 (length b),.msl 2 0 (length l),.msl 3 0 (length F)]]),none,sT l,sT F,sT b]) (λr env st=>Uy prog f126 4 (.tup []) [some (4,[[.ipt 2 [[cL a,mI e]] 0 0,.msl 4 0 (length r),.msl 2 0 (length l),.msl 3 0 (length F)]]),none,sT l,sT F,sT r] env st) (z6 [0,.dead,2,3,1]) ?_ ?_
 .rintro⟨q,m,C,D⟩ r h;apply ze;obtain⟨s,i,h⟩:=bs h;refine A ?_;refine XV (x:=s) (j:=1) 7 y y y y y Lr (λc=>by replace i:=bT c i;obtain⟨E,B,i⟩:=bs i;obtain rfl:=sm i;exact g y c<|mv y<|g y c<|nc y y<|g y c<|fa ti y y y<|g y c<|ld ti y y<|g y c<|mv y<|g y c<|Lj (WT q m B) y y (.cons (XU y (λ_=>y)) (.cons (si y) .nil)) Xx<|g y c<|nt y<|zx (eg [13,14,15,16,17,18,19] 7 y y y y)) (λhb=>(sm (bF hb i)).symm)<|zx ?_;apply Xa h y<;>intro n h
  .refine zc<|ze<|zg ?_;obtain⟨G,v,h⟩:=bs h;refine A ?_;refine u<|Lo 6 ti y ti y y YB ti y y y y (Lx (f:=Xe) (z:=[m]) y y) (λ_=>y) y v<|A ?_;refine A ?_;obtain⟨H,I,h⟩:=bs h;refine A ?_;cases h;exact⟨_,y,zl [0,.dead,2,3,6]⟩
  apply zr;cases h;exact⟨y,_,y,zl [0,.dead,2,3,4]⟩
 rintro J rfl;apply zm;cases h;exact⟨_,y,Xb [0,.dead,2,3,4]⟩
def Ay(c:Vr)(d:T2)(a:T1)(e:T1)(f:T1)(i:zp)(j:Bool):Option (T1):=cond j ((I6 c d a e f i.C).bind λb=>some b) (some a)
def Ae(b:Vr)(c:T2)(d:T1)(e:T1)(f:T1)(a:zp):Option (T1):=cond (a.Op==50) ((ED a.C).bind λi=>(I6 b c d e f i).bind λj=>some j) (cond (a.Op==56) (Ay b c d e f a (a.Op==56)) (Ay b c d e f a (a.Op==57)))
theorem pt{B:zp}(h:Ae a e d l F B=some r):VE 127 [Vg,.agg (zs B)] [.one 4 [.ipt 2 [[cL a,mI e]] 0 0,.msl 1 0 (length d),.msl 2 0 (length l),.msl 3 0 (length F)],.many 1 (map Xe d),.many 1 (map Xe l),.many 1 (map Xe F)] (.tup []) [.one 4 [.ipt 2 [[cL a,mI e]] 0 0,.msl 4 0 (length r),.msl 2 0 (length l),.msl 3 0 (length F)],.no,.many 1 (map Xe l),.many 1 (map Xe F),.many 1 (map Xe r)]:=by
 refine⟨⟨t,t,Xo (sz:=1) (λ_=>y),Xo (sz:=1) (λ_=>y),Xo (sz:=1) (λ_=>y),t⟩,zK func127 y kz y ?_⟩;refine A ?_;refine A ?_;refine zg<|A ?_;apply Xa h y<;>intro c h
 .obtain⟨m,p,f,n,h⟩:=F6 h;refine A ?_;refine u<|sx [0,1,2,3] (gw n)<|zw (VC:=[]) (VJ:=[some (4,[[.ipt 2 [[cL a,mI e]] 0 0,.msl 4 0 (length f),.msl 2 0 (length l),.msl 3 0 (length F)]]),none,sT l,sT F,sT f]) (zl [0,.dead,2,3,5])<|zx ?_;cases h;exact⟨_,y,Xb [0,.dead,2,3,4]⟩
 refine zY (X:=Bool) (λz=>[(0,Vg),(3,Vl),(13,bA z)]) (λz=>[some (4,[[.ipt 2 [[cL a,mI e]] 0 0,.msl 1 0 (length d),.msl 2 0 (length l),.msl 3 0 (length F)]]),sT d,sT l,sT F,some (4,[(zs B)])]) (λz=>Ay a e d l F B z=some r) ?_ ?_
 .refine A ?_;apply Xa h y<;>intro i h;.apply zc;exact⟨(B.Op==56),h,zl [0,1,2,3,4]⟩
  refine A ?_;exact(⟨(B.Op==57),h,zl [0,1,2,3,4]⟩)
 rintro q h;apply Xa h y<;>intro j h;.obtain⟨b,o,h⟩:=bs h;refine A ?_;refine u<|sx [0,1,2,3] (gw o)<|zw (VC:=[]) (VJ:=[some (4,[[.ipt 2 [[cL a,mI e]] 0 0,.msl 4 0 (length b),.msl 2 0 (length l),.msl 3 0 (length F)]]),none,sT l,sT F,sT b]) (zl [0,.dead,2,3,5])<|zx ?_;cases h;exact⟨_,y,Xb [0,.dead,2,3,4]⟩
 apply zc;cases h;exact⟨_,y,Xb [0,.dead,2,3,1]⟩
def mc(d:zu)(a:T1)(b:T1)(c:T1):Option ((Vr)×T2×T1×T1×T1):=some (d.l,d.at_,a,b,c)
def md(c:Int)(d:T1)(a:T1)(b:T1):zL (T1×T1×T1×Int) (T1×T1×T1) ((Vr)×T2×T1×T1×T1):=some (.inl (a,b,d,(i64.wrap (c+1))))
def mg(a:Int)(b:T1)(c:T1):zL (T1×T1×Int) (T1×T1) ((Vr)×T2×T1×T1×T1):=some (.inl (c,b,(i64.wrap (a+1))))
def Ww(i:zu)(j:T1)(b:zb)(d:T1)(c:T1)(a:Int):zL (T1×Int) (T1) ((Vr)×T2×T1×T1×T1):=cond (decide (a<(length b.Code:Int))) ((idx b.Code a).bind λe=>(Ae i.l i.at_ c d j e).bind λf=>some (.inl (f,(i64.wrap (a+1))))) (some (.inr (.inl c)))
def Wv(p:zu)(m:T0)(i:za×Bool)(n:T1)(c:T1)(d:T1)(a:Int):zL (T1×T1×Int) (T1×T1) ((Vr)×T2×T1×T1×T1):=cond (decide (a<(length i.1.Methods:Int))) ((idx i.1.Methods a).bind λe=>(Ze m [46]).bind λj=>(Ze j e.Name).bind λl=>(Xu 16 d [l]).bind λf=>(zk (λz=>Ww p n e f z.1 z.2) (c,0)).bind λo=>zE o (λb=>mg a f b) (λr=>some (.inr (.inr r)))) (some (.inr (.inl (c,d))))
def ei(j:zu)(c:T1)(d:Int)(e:T0)(f:za×Bool)(i:T1)(a:T1):zL (T1×T1×T1×Int) (T1×T1×T1) ((Vr)×T2×T1×T1×T1):=(zk (λz=>Wv j e f a z.1 z.2.1 z.2.2) (i,c,0)).bind λo=>zE o (λb=>md d a b.1 b.2) (λr=>some (.inr (.inr r)))
def TP(a:Int)(b:T1)(c:T1):zL (T1×T1×Int) (T1×T1) ((Vr)×T2×T1×T1×T1):=some (.inl (b,c,(i64.wrap (a+1))))
def Wx(i:zu)(j:T1)(m:T0)(d:za×Bool)(e:T1)(a:T1)(b:Int):zL (T1×T1×Int) (T1×T1) ((Vr)×T2×T1×T1×T1):=cond (decide (b<(length d.1.Fields:Int))) ((idx d.1.Fields b).bind λc=>(I6 i.l i.at_ e j a c.Type_).bind λf=>cond c.Static ((Ze m [46]).bind λn=>(Ze n c.Name).bind λo=>(Xu 16 a [o]).bind λp=>TP b f p) (TP b f a)) (some (.inr (.inl (e,a))))
def BQ(e:zu)(m:T1)(f:T1)(a:T1)(i:T1)(c:Int):zL (T1×T1×T1×Int) (T1×T1×T1) ((Vr)×T2×T1×T1×T1):=cond (decide (c<((length m):Int))) ((idx m c).bind λd=>(zI e.l e.at_ d).bind λj=>(zk (λz=>Wx e a d j z.1 z.2.1 z.2.2) (f,i,0)).bind λo=>zE o (λb=>ei e a c d j b.1 b.2) (λr=>some (.inr (.inr r)))) (some (.inr (.inl (f,a,i))))
def Bz(c:Option zu):Option ((Vr)×T2×T1×T1×T1):=ZG c (none) (λa=>(WM a.l a.at_).bind λd=>(Xu 16 d ([[91,73]])).bind λe=>(WM a.l a.at_).bind λf=>(zk (λz=>BQ a f z.1 z.2.1 z.2.2.1 z.2.2.2) (e,[],[],0)).bind λo=>zE o (λb=>mc a b.1 b.2.1 b.2.2) some)
theorem kC{r:(Vr)×T2×T1×T1×T1}(h:Bz D=some r):VE 44 [Xz 2 XX D] [] (Vg) [.one 4 [.ipt 2 [[cL r.1,mI r.2.1]] 0 0,.msl 1 0 (length r.2.2.1),.msl 2 0 (length r.2.2.2.1),.msl 3 0 (length r.2.2.2.2)],.many 1 (map Xe r.2.2.1),.many 1 (map Xe r.2.2.2.1),.many 1 (map Xe r.2.2.2.2)]:=by
 refine⟨⟨t,Xo (sz:=1) (λ_=>y),Xo (sz:=1) (λ_=>y),Xo (sz:=1) (λ_=>y),t⟩,zK func44 y kz y ?_⟩;unfold Bz at h
 rcases D with _|a
 .replace h:=L9 h;cases h
 replace h:=L8 h;refine A ?_;obtain⟨P,Y,Q,Z,h⟩:=F6 h;refine A ?_;refine u<|sx [] (Rf Y)<|zw (VC:=[(0,.ipt 2 [[cL a.l,mI a.at_]] 0 0),(14,.ipt 2 [[cL a.l,mI a.at_]] 0 0),(16,.msl 0 0 (length P))]) (VJ:=[sT P]) (zl [0])<|A ?_;refine u<|Lo 2 ti y ti y y YB ti y y y y (Lx (f:=Xe) (z:=[[91,73]]) y y) (λ_=>y) y Z<|A ?_;apply ze;obtain⟨c,q3,h⟩:=bs h;refine rg y<|u<|mv y<|u<|sx [] (Rf q3)<|zw (VC:=[(0,.ipt 2 [[cL a.l,mI a.at_]] 0 0),(3,Vg),(22,.msl 2 0 (length c))]) (VJ:=[some (4,[[.ipt 2 [[cL a.l,mI a.at_]] 0 0,.msl 1 0 (length Q),nS,nS]]),sT Q,sT c]) (zl [3,2,4])<|A ?_;obtain⟨o,ho,h⟩:=bs h;refine F7 ho (λz=>[(0,.ipt 2 [[cL a.l,mI a.at_]] 0 0),(3,Vg),(22,.msl 4 0 (length c)),(23,iA ((length c):Int)),(24,iA z.2.2.2)]) (λz=>[some (4,[[.ipt 2 [[cL a.l,mI a.at_]] 0 0,.msl 1 0 (length z.1),.msl 2 0 (length z.2.1),.msl 3 0 (length z.2.2.1)]]),sT z.1,sT z.2.1,sT z.2.2.1,sT c]) (λb=>[(3,Vg)]) (λb=>[some (4,[[.ipt 2 [[cL a.l,mI a.at_]] 0 0,.msl 1 0 (length b.1),.msl 2 0 (length b.2.1),.msl 3 0 (length b.2.2)]]),sT b.1,sT b.2.1,sT b.2.2]) (pF f44 (λr=>Vg) λr=>[some (4,[[.ipt 2 [[cL r.1,mI r.2.1]] 0 0,.msl 1 0 (length r.2.2.1),.msl 2 0 (length r.2.2.2.1),.msl 3 0 (length r.2.2.2.2)]]),sT r.2.2.1,sT r.2.2.2.1,sT r.2.2.2.2]) ⟨[0,1,.fresh 1,.fresh 1,2],ce y y<|cv y (.mpt y)<|cv y (.msl y)<|ce y y<|ce y y<|cn,y,⟨⟨_,y,XN ⟨ci y,.msl y,.nilown y,.nilown y,t⟩⟩,⟨_,y,XL (λ_=>y)⟩,w,w,⟨_,y,XL (λ_=>y)⟩,t⟩,y,k⟩ ?_ ?_
 .rintro⟨v68,j,v70,m⟩ r h;refine A ?_;apply ze;apply Xa h y<;>intro G h
  .refine zc<|ze<|zg ?_;obtain⟨n,q44,h⟩:=bs h;refine A ?_;obtain⟨d,q45,h⟩:=bs h;refine A ?_;refine ze<|A ?_;obtain⟨o,ho,h⟩:=bs h;refine LG ho (λz=>[(0,.ipt 2 [[cL a.l,mI a.at_]] 0 0),(3,Vg),(5,sA n),(6,Vl),(22,.msl 5 0 (length c)),(23,iA ((length c):Int)),(24,iA m),(35,.isl 3 (map zv d.1.Fields)),(36,iA (length d.1.Fields:Int)),(37,iA z.2.2)]) (λz=>[some (4,[[.ipt 2 [[cL a.l,mI a.at_]] 0 0,.msl 1 0 (length z.1),.msl 2 0 (length j),.msl 3 0 (length z.2.1)]]),sT z.1,sT j,sT z.2.1,some (6,[(zf d.1)]),sT c]) (λb=>[(0,.ipt 2 [[cL a.l,mI a.at_]] 0 0),(3,Vg),(5,sA n),(6,Vl),(22,.msl 5 0 (length c)),(23,iA ((length c):Int)),(24,iA m)]) (λb=>[some (4,[[.ipt 2 [[cL a.l,mI a.at_]] 0 0,.msl 1 0 (length b.1),.msl 2 0 (length j),.msl 3 0 (length b.2)]]),sT b.1,sT j,sT b.2,some (6,[(zf d.1)]),sT c]) (pF f44 (λr=>Vg) λr=>[some (4,[[.ipt 2 [[cL r.1,mI r.2.1]] 0 0,.msl 1 0 (length r.2.2.1),.msl 2 0 (length r.2.2.2.1),.msl 3 0 (length r.2.2.2.2)]]),sT r.2.2.1,sT r.2.2.2.1,sT r.2.2.2.2]) (z6 [0,1,2,3,5,4]) ?_ ?_ ?_
   .rintro⟨R,v,x⟩ r h;refine A ?_;apply ze;apply Xa h y<;>intro H h
    .apply zc;refine zY (X:=T1×T1) (λz=>[(0,.ipt 2 [[cL a.l,mI a.at_]] 0 0),(3,Vg),(5,sA n),(6,Vl),(22,.msl 5 0 (length c)),(23,iA ((length c):Int)),(24,iA m),(35,.isl 3 (map zv d.1.Fields)),(36,iA (length d.1.Fields:Int)),(37,iA x)]) (λz=>[some (4,[[.ipt 2 [[cL a.l,mI a.at_]] 0 0,.msl 1 0 (length z.1),.msl 2 0 (length j),.msl 3 0 (length z.2)]]),sT z.1,sT j,sT z.2,some (6,[(zf d.1)]),sT c]) (λz=>TP x z.1 z.2=some r) ?_ ?_
     .apply zg;obtain⟨F,q54,h⟩:=bs h;refine A ?_;obtain⟨q,S,h⟩:=bs h;refine A ?_;refine u<|sx [0,1,2,3] (gw S)<|zw (VC:=[(0,.ipt 2 [[cL a.l,mI a.at_]] 0 0),(3,Vg),(5,sA n),(6,Vl),(9,Vm),(22,.msl 6 0 (length c)),(23,iA ((length c):Int)),(24,iA m),(35,.isl 3 (map zv d.1.Fields)),(36,iA (length d.1.Fields:Int)),(37,iA x)]) (VJ:=[some (4,[[.ipt 2 [[cL a.l,mI a.at_]] 0 0,.msl 1 0 (length q),.msl 2 0 (length j),.msl 3 0 (length v)]]),sT q,sT j,sT v,some (6,[(zf d.1)]),some (3,[(zv F)]),sT c]) (zl [0,7,2,3,4,6,5])<|zx ?_;refine A ?_;apply Xa h y<;>intro I h
      .obtain⟨v89,q57,T,q58,B,U,h⟩:=LA h;refine XA [(0,.ipt 2 [[cL a.l,mI a.at_]] 0 0),(3,Vg),(5,sA n),(6,Vl),(22,.msl 5 0 (length c)),(23,iA ((length c):Int)),(24,iA m),(35,.isl 3 (map zv d.1.Fields)),(36,iA (length d.1.Fields:Int)),(37,iA x)] [some (4,[[.ipt 2 [[cL a.l,mI a.at_]] 0 0,.msl 1 0 (length q),.msl 2 0 (length j),.msl 3 0 (length B)]]),sT q,sT j,sT B,some (6,[(zf d.1)]),sT c] [10,11,14] Va [(56,_),(55,_),(54,_),(53,_),(52,_),(51,_),(50,_),(49,_),(48,_),(47,_)] 3 (Xd (z:=by exact⟨(λ_ _=>⟨_,y,y,bl 7 ti y ti y YB YB y y y<|⟨(.msl 7 0 1),[],[(57,_)],y,y,y,y,Xd (z:=by exact⟨nv,(λ_ _=>⟨_,y,y,Lo 8 ti y ti y y YB ti y y y y (Lx (f:=Xe) (z:=[T]) y y) (λ_=>y) y U<|⟨(.msl 8 0 (length B)),[12,13],[(60,_),(59,_),(58,_)],y,y,y,y,Xd (z:=by exact⟨nv,nv,(λ_ _=>⟨_,y,y,La ti y y y<|⟨.any,[],[],y,y,y,t,Xg (z:=z6 [0,1,2,8,4,6])⟩⟩),t⟩)⟩⟩),nw,t⟩)⟩⟩),nw,nw,t⟩)) ?_;exact⟨⟨q,B⟩,h,zl [0,1,2,3,4,5]⟩
      apply zc;exact⟨⟨q,v⟩,h,zl [0,1,2,3,4,6]⟩
     rintro⟨v92,v93⟩ h;refine A ?_;cases h;exact⟨_,y,zl [0,1,2,3,4,5]⟩
    apply zr;cases h;exact⟨y,_,y,zl [0,1,2,3,4,5]⟩
   .rintro⟨v94,i⟩ rfl;refine zm<|A ?_;obtain⟨o,ho,h⟩:=bs h;refine LG ho (λz=>[(0,.ipt 2 [[cL a.l,mI a.at_]] 0 0),(3,Vg),(5,sA n),(22,.msl 4 0 (length c)),(23,iA ((length c):Int)),(24,iA m),(63,.isl 10 (map zd d.1.Methods)),(64,iA (length d.1.Methods:Int)),(65,iA z.2.2)]) (λz=>[some (4,[[.ipt 2 [[cL a.l,mI a.at_]] 0 0,.msl 1 0 (length z.1),.msl 2 0 (length z.2.1),.msl 3 0 (length i)]]),sT z.1,sT z.2.1,sT i,sT c]) (λb=>[(0,.ipt 2 [[cL a.l,mI a.at_]] 0 0),(3,Vg),(22,.msl 4 0 (length c)),(23,iA ((length c):Int)),(24,iA m)]) (λb=>[some (4,[[.ipt 2 [[cL a.l,mI a.at_]] 0 0,.msl 1 0 (length b.1),.msl 2 0 (length b.2),.msl 3 0 (length i)]]),sT b.1,sT b.2,sT i,sT c]) (pF f44 (λr=>Vg) λr=>[some (4,[[.ipt 2 [[cL r.1,mI r.2.1]] 0 0,.msl 1 0 (length r.2.2.1),.msl 2 0 (length r.2.2.2.1),.msl 3 0 (length r.2.2.2.2)]]),sT r.2.2.1,sT r.2.2.2.1,sT r.2.2.2.2]) (z6 [0,1,2,3,5]) ?_ ?_ ?_
    .rintro⟨C,v113,s⟩ r h;refine A ?_;apply ze;apply Xa h y<;>intro J h
     .refine zc<|ze<|zg ?_;obtain⟨p,q72,h⟩:=bs h;refine A ?_;obtain⟨v116,q73,K,q74,e,V,h⟩:=LA h;refine Lc [(0,.ipt 2 [[cL a.l,mI a.at_]] 0 0),(3,Vg),(5,sA n),(11,Vl),(22,.msl 5 0 (length c)),(23,iA ((length c):Int)),(24,iA m),(63,.isl 10 (map zd d.1.Methods)),(64,iA (length d.1.Methods:Int)),(65,iA s)] [some (4,[[.ipt 2 [[cL a.l,mI a.at_]] 0 0,.msl 1 0 (length C),.msl 2 0 (length e),.msl 3 0 (length i)]]),sT C,sT e,sT i,some (10,[(zd p)]),sT c] [10,11,14] Va [(78,_),(77,_),(76,_),(75,_),(74,_),(73,_),(72,_),(71,_),(70,_),(69,_)] 3 (Xd (z:=by exact⟨(λ_ _=>⟨_,y,y,bl 6 ti y ti y YB YB y y y<|⟨(.msl 6 0 1),[],[(79,_)],y,y,y,y,Xd (z:=by exact⟨nv,(λ_ _=>⟨_,y,y,Lo 7 ti y ti y y YB ti y y y y (Lx (f:=Xe) (z:=[K]) y y) (λ_=>y) y V<|⟨(.msl 7 0 (length e)),[12,13],[(82,_),(81,_),(80,_)],y,y,y,y,Xd (z:=by exact⟨nv,nv,(λ_ _=>⟨_,y,y,La ti y y y<|⟨.any,[],[],y,y,y,t,Xg (z:=z6 [0,1,7,3,5,4])⟩⟩),t⟩)⟩⟩),nw,t⟩)⟩⟩),nw,nw,t⟩)) ?_;refine A ?_;obtain⟨o,ho,h⟩:=bs h;refine LG ho (λz=>[(0,.ipt 2 [[cL a.l,mI a.at_]] 0 0),(3,Vg),(5,sA n),(22,.msl 4 0 (length c)),(23,iA ((length c):Int)),(24,iA m),(63,.isl 10 (map zd d.1.Methods)),(64,iA (length d.1.Methods:Int)),(65,iA s),(84,.isl 4 (map zs p.Code)),(85,iA (length p.Code:Int)),(86,iA z.2)]) (λz=>[some (4,[[.ipt 2 [[cL a.l,mI a.at_]] 0 0,.msl 1 0 (length z.1),.msl 2 0 (length e),.msl 3 0 (length i)]]),sT z.1,sT e,sT i,sT c]) (λb=>[(0,.ipt 2 [[cL a.l,mI a.at_]] 0 0),(3,Vg),(5,sA n),(22,.msl 4 0 (length c)),(23,iA ((length c):Int)),(24,iA m),(63,.isl 10 (map zd d.1.Methods)),(64,iA (length d.1.Methods:Int)),(65,iA s)]) (λb=>[some (4,[[.ipt 2 [[cL a.l,mI a.at_]] 0 0,.msl 1 0 (length b),.msl 2 0 (length e),.msl 3 0 (length i)]]),sT b,sT e,sT i,sT c]) (pF f44 (λr=>Vg) λr=>[some (4,[[.ipt 2 [[cL r.1,mI r.2.1]] 0 0,.msl 1 0 (length r.2.2.1),.msl 2 0 (length r.2.2.2.1),.msl 3 0 (length r.2.2.2.2)]]),sT r.2.2.1,sT r.2.2.2.1,sT r.2.2.2.2]) (z6 [0,1,2,3,5]) ?_ ?_ ?_
      .rintro⟨L,M⟩ r h;refine A ?_;apply ze;apply Xa h y<;>intro N h;.refine zc<|ze<|zg ?_;obtain⟨O,q80,h⟩:=bs h;refine A ?_;obtain⟨E,W,h⟩:=bs h;refine A ?_;refine u<|sx [0,1,2,3] (pt W)<|zw (VC:=[(0,.ipt 2 [[cL a.l,mI a.at_]] 0 0),(3,Vg),(5,sA n),(22,.msl 4 0 (length c)),(23,iA ((length c):Int)),(24,iA m),(63,.isl 10 (map zd d.1.Methods)),(64,iA (length d.1.Methods:Int)),(65,iA s),(84,.isl 4 (map zs p.Code)),(85,iA (length p.Code:Int)),(86,iA M)]) (VJ:=[some (4,[[.ipt 2 [[cL a.l,mI a.at_]] 0 0,.msl 1 0 (length E),.msl 2 0 (length e),.msl 3 0 (length i)]]),sT E,sT e,sT i,sT c]) (zl [0,6,2,3,4])<|zx ?_;refine A ?_;cases h;exact⟨_,y,zl [0,1,2,3,4]⟩
       apply zr;cases h;exact⟨y,_,y,zl [0,1,2,3,4]⟩
      .rintro v127 rfl;refine zm<|A ?_;cases h;exact⟨_,y,zl [0,1,2,3,4]⟩
      rintro r' rfl env st hp;cases h;exact⟨_,y,hp⟩
     apply zr;cases h;exact⟨y,_,y,zl [0,1,2,3,4]⟩
    .rintro⟨v128,v129⟩ rfl;refine zm<|A ?_;cases h;exact⟨_,y,zl [0,1,2,3,4]⟩
    rintro r' rfl env st hp;cases h;exact⟨_,y,hp⟩
   rintro r' rfl env st hp;cases h;exact⟨_,y,hp⟩
  exact Mg
 rintro⟨v130,v131,v132⟩ rfl;refine zm<|A ?_;exact Nw
def uT:Option (Bool):=(uS).bind λa=>some a
theorem er{r:Bool}(h:uT=some r):VD 123 [] (bA r):=by refine zi func123 y kz y y<|A ?_;obtain⟨a,b,h⟩:=bs h;refine A ?_;exact F4
instance:VF 123 [] (uT) bA:=⟨λ_=>er ⟩
def AH(c:Vr)(d:T2)(a:T1)(e:T1)(f:T1):Option (T1):=(KL a).bind λb=>some b
theorem i5(h:AH a e d l F=some r):VE 49 [.ipt 4 [[.ipt 2 [[cL a,mI e]] 0 0,tL d,tL l,tL F]] 0 0] [] (.msl 0 0 (length r)) [.many 1 (map Xe r)]:=by refine⟨⟨Xo (sz:=1) (λ_=>y),t⟩,zK func49 y kz y ?_⟩;refine A ?_;refine ze<|A ?_;refine UC y (λhx=>by cases hx) (λ_=>?_);apply zc;obtain⟨b,c,h⟩:=bs h;refine A ?_;refine u<|sx [] (Ex c)<|zw (VC:=[(9,.msl 0 0 (length b))]) (VJ:=[sT b]) (zl [0])<|A ?_;exact LP
def Gm(a:Vr)(b:T2)(c:T1)(d:T1)(e:T1)(f:T0):Option (Int):=(AH a b c d e).bind λi=>(Ha i f).bind λj=>some j
theorem HT(a:Vr)(e:T2)(d:T1)(l:T1)(F:T1)(b:T0){r:Int}(h:Gm a e d l F b=some r):VD 52 [.ipt 4 [[.ipt 2 [[cL a,mI e]] 0 0,tL d,tL l,tL F]] 0 0,sA b] (iA r):=by refine zi func52 y kz y y<|A ?_;obtain⟨c,f,j,i,h⟩:=F6 h;refine rg y<|u<|mv y<|u<|sx [] (i5 f)<|zw (VC:=[(1,sA b),(6,.msl 0 0 (length c))]) (VJ:=[sT c]) (zl [0])<|u<|mv y<|u<|Lj (M0 c b i) y y (.cons (XU y (λ_=>y)) (.cons (si y) .nil)) Xx<|A ?_;exact F4
instance :VF 52 [.ipt 4 [[.ipt 2 [[cL a,mI e]] 0 0,tL d,tL l,tL F]] 0 0,sA b] (Gm a e d l F b) iA:=⟨λ_=>HT a e d l F b⟩
def AS(c:Vr)(d:T2)(e:T1)(a:T1)(f:T1):Option (T1):=(KL a).bind λb=>some b
theorem i9(h:AS a e d l F=some r):VE 50 [.ipt 4 [[.ipt 2 [[cL a,mI e]] 0 0,tL d,tL l,tL F]] 0 0] [] (.msl 0 0 (length r)) [.many 1 (map Xe r)]:=by refine⟨⟨Xo (sz:=1) (λ_=>y),t⟩,zK func50 y kz y ?_⟩;refine A ?_;refine ze<|A ?_;refine UC y (λhx=>by cases hx) (λ_=>?_);apply zc;obtain⟨b,c,h⟩:=bs h;refine A ?_;refine u<|sx [] (Ex c)<|zw (VC:=[(9,.msl 0 0 (length b))]) (VJ:=[sT b]) (zl [0])<|A ?_;exact LP
def Ou(c:Vr)(d:T2)(e:T1)(f:T1)(i:T1)(j:T0)(l:T0):Option (Int):=(AS c d e f i).bind λm=>(Ze j [46]).bind λn=>(Ze n l).bind λa=>(Ha m a).bind λb=>some b
theorem AW(a:Vr)(e:T2)(d:T1)(l:T1)(F:T1)(b:T0)(n:T0){r:Int}(h:Ou a e d l F b n=some r):VD 55 [.ipt 4 [[.ipt 2 [[cL a,mI e]] 0 0,tL d,tL l,tL F]] 0 0,sA b,sA n] (iA r):=by refine zi func55 y kz y y<|A ?_;obtain⟨c,i,o,p,f,q,m,j,h⟩:=Me h;refine rg y<|u<|mv y<|u<|sx [] (i9 i)<|zw (VC:=[(1,sA b),(2,sA n),(8,.msl 0 0 (length c))]) (VJ:=[sT c]) (zl [0])<|A ?_;refine u<|Lj (M0 c f j) y y (.cons (XU y (λ_=>y)) (.cons (si y) .nil)) Xx<|A ?_;exact F4
instance :VF 55 [.ipt 4 [[.ipt 2 [[cL a,mI e]] 0 0,tL d,tL l,tL F]] 0 0,sA b,sA n] (Ou a e d l F b n) iA:=⟨λ_=>AW a e d l F b n⟩
def gA(c:Vr)(d:T2)(e:T1)(f:T1)(a:T1):Option (T1):=(KL a).bind λb=>some b
theorem rm(h:gA a e d l F=some r):VE 51 [.ipt 4 [[.ipt 2 [[cL a,mI e]] 0 0,tL d,tL l,tL F]] 0 0] [] (.msl 0 0 (length r)) [.many 1 (map Xe r)]:=by refine⟨⟨Xo (sz:=1) (λ_=>y),t⟩,zK func51 y kz y ?_⟩;refine A ?_;refine ze<|A ?_;refine UC y (λhx=>by cases hx) (λ_=>?_);apply zc;obtain⟨b,c,h⟩:=bs h;refine A ?_;refine u<|sx [] (Ex c)<|zw (VC:=[(9,.msl 0 0 (length b))]) (VJ:=[sT b]) (zl [0])<|A ?_;exact LP
def MU(c:Vr)(d:T2)(e:T1)(f:T1)(i:T1)(j:T0)(l:T0):Option (Int):=(gA c d e f i).bind λm=>(Ze j [46]).bind λn=>(Ze n l).bind λa=>(Ha m a).bind λb=>some b
theorem gK(a:Vr)(e:T2)(d:T1)(l:T1)(F:T1)(b:T0)(n:T0){r:Int}(h:MU a e d l F b n=some r):VD 62 [.ipt 4 [[.ipt 2 [[cL a,mI e]] 0 0,tL d,tL l,tL F]] 0 0,sA b,sA n] (iA r):=by refine zi func62 y kz y y<|A ?_;obtain⟨c,i,o,p,f,q,m,j,h⟩:=Me h;refine rg y<|u<|mv y<|u<|sx [] (rm i)<|zw (VC:=[(1,sA b),(2,sA n),(8,.msl 0 0 (length c))]) (VJ:=[sT c]) (zl [0])<|A ?_;refine u<|Lj (M0 c f j) y y (.cons (XU y (λ_=>y)) (.cons (si y) .nil)) Xx<|A ?_;exact F4
instance :VF 62 [.ipt 4 [[.ipt 2 [[cL a,mI e]] 0 0,tL d,tL l,tL F]] 0 0,sA b,sA n] (MU a e d l F b n) iA:=⟨λ_=>gK a e d l F b n⟩
def jb(a:T1):Option (T1):=some a
def OG(c:T1)(a:Int)(b:Int):zL (T1×Int×Int) (T1) (T1):=cond (decide (a<b)) ((idx c b).bind λd=>(idx c a).bind λe=>(idx c a).bind λf=>(idx (List.set c (Int.toNat a) d) b).bind λi=>some (.inl ((List.set (List.set c (Int.toNat a) d) (Int.toNat b) e),(i64.wrap (a+1)),(i64.wrap (b-1))))) (some (.inr (.inl c)))
def Rk(a:T1):Option (T1):=(zk (λz=>OG z.1 z.2.1 z.2.2) (a,0,(i64.wrap (((length a):Int)-1)))).bind λo=>zE o (λb=>jb b) some
theorem rq(h:Rk d=some r):VE 224 [.msl 0 0 (length d)] [.many 1 (map Xe d)] (.tup []) [.many 1 (map Xe r)]:=by
 refine⟨⟨Xo (sz:=1) (λ_=>y),t⟩,zK func224 y kz y ?_⟩;refine A ?_;obtain⟨o,ho,h⟩:=bs h;refine F7 ho (λz=>[(0,.msl 0 0 (length z.1)),(2,iA z.2.1),(3,iA z.2.2)]) (λz=>[sT z.1]) (λb=>[]) (λb=>[sT b]) (λr env st=>Uy prog f224 1 (.tup []) [sT r] env st) (z6 [0]) ?_ ?_
 .rintro⟨i,a,c⟩ r h;refine ze<|A ?_;apply Xa h y<;>intro m h
  .refine zc<|ze<|zg ?_;obtain⟨e,n,f,l,q,p,s,j,h⟩:=Me h;refine XA [(0,.msl 0 0 (length (List.set (List.set i (Int.toNat a) e) (Int.toNat c) f))),(2,iA a),(3,iA c)] [sT (List.set (List.set i (Int.toNat a) e) (Int.toNat c) f)] [13,15] [12,11,10,9,8,7,6,5,4,3,2,1,0] [(26,.mpt 0 (Int.toNat a) 0),(25,sA f),(24,.mpt 0 (Int.toNat a) 0),(23,iA a),(22,.msl 0 0 (length i)),(21,sA e),(20,.mpt 0 (Int.toNat c) 0),(19,iA c),(18,.msl 0 0 (length i)),(17,iA c),(16,.msl 0 0 (length i)),(15,iA a),(14,.msl 0 0 (length i))] 2 (Z1 ⟨(pb y (Ns ti y ti y y y y p w)),(pb y (RT ti y y (zT l).2.2 y w)),(pb y (Ns ti y ti y y y y l w)),pe,pe,(pb y (RT ti y y (zT n).2.2 y w)),(pb y (Ns ti y ti y y y y n w)),pe,pe,pe,pe,pe,pe,t⟩ ⟨(λ_ _=>⟨_,y,y,W4 (c':=e) ti y y (zT p).2.2 y y y y y<|⟨.any,[14],[(27,.mpt 0 (Int.toNat c) 0)],y,y,kz,t,Z1 ⟨(pb y (qi (by simp) ti y ti y y y y j w)),pe,pe,(pb y (qi (by simp) ti y ti y y y y (aV l) w)),pe,pe,pe,pe,pe,pe,pe,pe,pe,pe,t⟩ ⟨nv,(λ_ _=>⟨_,y,y,W4 (c':=f) ti y y (zT j).2.2 y y y y y<|⟨.any,[],[],y,y,kz,t,M5 ⟨[0],cv y (HX (by simp) y)<|ce y y<|ce y y<|cn,y,⟨⟨_,y,XL (λ_=>y)⟩,t⟩,y,k⟩⟩⟩),t⟩⟩⟩),nw,t⟩) ?_;refine A ?_;exact LC
  exact Lv
 rintro v rfl;exact zm Lz
theorem bV{X Y:Type}{body:X->Option (Sum X Y)}{p:X->Prop}{q:Y->Prop}(h1:∀x y,p x->body x=some (.inl y)->p y)(h2:∀x y,p x->body x=some (.inr y)->q y):∀{n:Nat} {x:X} {y:Y},p x->Z2 body n x=some y->q y
  |0,_,_,_,h=>by cases h
  |n+1,x,y,hp,h=>by
    unfold Z2 at h;split at h
    · rename_i x' hx;exact bV h1 h2 (h1 x x' hp hx) h
    · rename_i z hx;cases h;exact h2 x _ hp hx
    · cases h
theorem yG(h:Rk l=some r):r.length=l.length:=by
  obtain⟨o,ho,h⟩:=bs h;obtain⟨n,ho⟩:=Eg ho;have:=bV (p:=λz=>z.1.length=l.length) (q:=λo=>∀r',zE o (λb=>jb b) some=some r'->r'.length=l.length) (λz y hp hb=>?_) (λz y hp hb r' hr=>?_) (by exact y) ho r h
  · exact this
  · unfold OG at hb
    cases hc:decide (z.2.1<z.2.2)with
    |false=>rw[hc]at hb;cases hb
    |true =>
      rw[hc]at hb;obtain⟨_,_,hb⟩:=bs hb;obtain⟨_,_,hb⟩:=bs hb;obtain⟨_,_,hb⟩:=bs hb;obtain⟨_,_,hb⟩:=bs hb;cases hb;simpa using hp
  · unfold OG at hb
    cases hc:decide (z.2.1<z.2.2)with
    |true =>
      rw[hc]at hb;obtain⟨_,_,hb⟩:=bs hb;obtain⟨_,_,hb⟩:=bs hb;obtain⟨_,_,hb⟩:=bs hb;obtain⟨_,_,hb⟩:=bs hb;cases hb
    |false =>
      rw[hc]at hb;cases hb;cases hr;exact hp
variable {els:List (Vt)}
def pV(a:Vr):Option ((Vr)):=some a
def Oo(i:Vr)(j:T2)(c:T1)(b:Vr)(a:Int):zL ((Vr)×Int) ((Vr)) ((Vr)):=cond (decide (a<((length c):Int))) ((idx c a).bind λd=>(zI i j d).bind λe=>(Xu 112 b [e.1]).bind λf=>some (.inl (f,(i64.wrap (a+1))))) (some (.inr (.inl b)))
def PZ(a:Vr)(c:T2)(i:T1)(j:T1)(l:T1)(d:T0):Option ((Vr)):=(Kz a c d).bind λe=>(Rk e).bind λf=>(zk (λz=>Oo a c f z.1 z.2) ([],0)).bind λo=>zE o (λb=>pV b) some
theorem iP{i:T0}{r:(Vr)}(h:PZ a e d l F i=some r):VE 135 [.ipt 4 [[.ipt 2 [[cL a,mI e]] 0 0,tL d,tL l,tL F]] 0 0,sA i] [] (.msl 0 0 (length r)) [.many 6 (map zf r)]:=by
 refine⟨⟨Xo (sz:=6) (λ_=>y),t⟩,zK func135 y kz y ?_⟩;refine A ?_;refine ze<|A ?_;refine UC y (λhx=>by cases hx) (λ_=>?_);refine zc<|A ?_;obtain⟨j,s,h⟩:=bs h;refine A ?_;refine u<|sx [] (GM s)<|zw (VC:=[(0,.ipt 4 [[.ipt 2 [[cL a,mI e]] 0 0,tL d,tL l,tL F]] 0 0),(5,nS),(18,.msl 0 0 (length j))]) (VJ:=[sT j]) (zl [0])<|A ?_;obtain⟨c,m,h⟩:=bs h
 refine rg y<|u<|mv y<|u<|sx [0] (rq m)<|zw (VC:=[(0,.ipt 4 [[.ipt 2 [[cL a,mI e]] 0 0,tL d,tL l,tL F]] 0 0),(5,nS),(6,.msl 0 0 (length c))]) (VJ:=[sT c]) ⟨[0],ce y y<|ce y y<|cv y (HX (by first|exact yG m|exact(yG m).symm) y)<|cn,y,⟨⟨_,y,XL (λ_=>y)⟩,t⟩,y,k⟩<|zx ?_
 refine ze<|A ?_;obtain⟨o,ho,h⟩:=bs h;refine F7 ho (λz=>[(0,.ipt 4 [[.ipt 2 [[cL a,mI e]] 0 0,tL d,tL l,tL F]] 0 0),(5,.msl 0 0 (length z.1)),(21,.msl 1 0 (length c)),(22,iA ((length c):Int)),(23,iA z.2)]) (λz=>[some (6,map zf z.1),sT c]) (λb=>[(5,.msl 0 0 (length b))]) (λb=>[some (6,map zf b)]) (pF f135 (λr=>.msl 0 0 (length r)) λr=>[some (6,map zf r)]) ⟨[.fresh 6,0],ce y y<|cv y (.nilown y)<|cv y (.msl y)<|ce y y<|ce y y<|cn,y,⟨w,⟨_,y,XL (λ_=>y)⟩,t⟩,y,k⟩ ?_ ?_
 .rintro⟨v,x⟩ r h;refine A ?_;apply ze;apply Xa h y<;>intro n h;.refine zc<|ze<|zg ?_;obtain⟨B,E,h⟩:=bs h;refine A ?_;obtain⟨p,G,h⟩:=bs h;refine A ?_;obtain⟨C,q,h⟩:=bs h;refine A ?_;refine u<|Lo 4 ti y ti y y YB ti y y y y (Lx (f:=zf) (z:=[p.1]) y y) (λ_=>y) y q<|A ?_;refine A ?_;cases h;exact⟨_,y,zl [4,1]⟩
  exact Lv
 rintro D rfl;refine zm<|A ?_;exact LP
def rc(a:T1):Option (T1):=some a
def pC(a:Int)(b:T1):zL (T1×Int) (T1) (T1):=some (.inl (b,(i64.wrap (a+1))))
def AO(a:Int)(b:T1):zL (T1×Int) (T1) (T1):=some (.inl (b,(i64.wrap (a+1))))
def OB(b:za)(c:T1)(a:Int):zL (T1×Int) (T1) (T1):=cond (decide (a<(length b.Fields:Int))) ((idx b.Fields a).bind λd=>cond (!d.Static) ((Ze b.Name [46]).bind λe=>(Ze e d.Name).bind λf=>(Xu 16 c [f]).bind λi=>AO a i) (AO a c)) (some (.inr (.inl c)))
def OA(d:(Vr))(c:T1)(a:Int):zL (T1×Int) (T1) (T1):=cond (decide (a<((length d):Int))) ((idx d a).bind λe=>(zk (λz=>OB e z.1 z.2) (c,0)).bind λo=>zE o (λb=>pC a b) (λr=>some (.inr (.inr r)))) (some (.inr (.inl c)))
def P7(a:Vr)(c:T2)(d:T1)(e:T1)(f:T1)(i:T0):Option (T1):=(PZ a c d e f i).bind λj=>(zk (λz=>OA j z.1 z.2) ([],0)).bind λo=>zE o (λb=>rc b) some
theorem iZ(h:P7 a e d l F n=some r):VE 59 [.ipt 4 [[.ipt 2 [[cL a,mI e]] 0 0,tL d,tL l,tL F]] 0 0,sA n] [] (.msl 0 0 (length r)) [.many 1 (map Xe r)]:=by
 refine⟨⟨Xo (sz:=1) (λ_=>y),t⟩,zK func59 y kz y ?_⟩;refine A ?_;refine A ?_;apply ze;obtain⟨c,D,h⟩:=bs h;refine A ?_;refine u<|sx [] (iP D)<|zw (VC:=[(5,nS),(12,.msl 0 0 (length c))]) (VJ:=[some (6,map zf c)]) (zl [0])<|A ?_;obtain⟨o,ho,h⟩:=bs h;refine F7 ho (λz=>[(5,.msl 0 0 (length z.1)),(12,.msl 1 0 (length c)),(13,iA ((length c):Int)),(14,iA z.2)]) (λz=>[sT z.1,some (6,map zf c)]) (λb=>[(5,.msl 0 0 (length b))]) (λb=>[sT b]) (pF f59 (λr=>.msl 0 0 (length r)) λr=>[sT r]) ⟨[.fresh 1,0],cv y (.nilown y)<|cv y (.msl y)<|ce y y<|ce y y<|cn,y,⟨w,⟨_,y,XL (λ_=>y)⟩,t⟩,y,k⟩ ?_ ?_
 .rintro⟨E,j⟩ r h;refine A ?_;apply ze;apply Xa h y<;>intro p h
  .refine zc<|ze<|zg ?_;obtain⟨i,G,h⟩:=bs h;refine A ?_;refine A ?_;obtain⟨o,ho,h⟩:=bs h;refine LG ho (λz=>[(5,.msl 0 0 (length z.1)),(7,Vh),(12,.msl 2 0 (length c)),(13,iA ((length c):Int)),(14,iA j),(19,.isl 3 (map zv i.Fields)),(20,iA (length i.Fields:Int)),(21,iA z.2)]) (λz=>[sT z.1,some (6,[(zf i)]),some (6,map zf c)]) (λb=>[(5,.msl 0 0 (length b)),(12,.msl 1 0 (length c)),(13,iA ((length c):Int)),(14,iA j)]) (λb=>[sT b,some (6,map zf c)]) (pF f59 (λr=>.msl 0 0 (length r)) λr=>[sT r]) (z6 [0,2,1]) ?_ ?_ ?_
   .rintro⟨v,m⟩ r h;refine A ?_;apply ze;apply Xa h y<;>intro q h
    .apply zc;refine zY (X:=T1) (λz=>[(5,.msl 0 0 (length z)),(7,Vh),(12,.msl 2 0 (length c)),(13,iA ((length c):Int)),(14,iA j),(19,.isl 3 (map zv i.Fields)),(20,iA (length i.Fields:Int)),(21,iA m)]) (λz=>[sT z,some (6,[(zf i)]),some (6,map zf c)]) (λz=>AO m z=some r) ?_ ?_
     .apply zg;obtain⟨H,I,h⟩:=bs h;refine A ?_;refine A ?_;apply Xa h y<;>intro s h;.obtain⟨J,K,x,L,B,C,h⟩:=LA h;refine A ?_;refine u<|Lo 5 ti y ti y y YB ti y y y y (Lx (f:=Xe) (z:=[x]) y y) (λ_=>y) y C<|A ?_;exact(⟨B,h,zl [5,1,2]⟩)
      apply zc;exact⟨v,h,zl [0,1,2]⟩
     rintro M h;refine A ?_;exact Mh
    apply zr;cases h;exact⟨y,_,y,zl [0,2]⟩
   .rintro N rfl;refine zm<|A ?_;exact LH
   rintro r' rfl env st hp;cases h;exact⟨_,y,hp⟩
  exact Lv
 rintro O rfl;refine zm<|A ?_;exact LP
def IK(a:Vr)(b:T2)(j:T1)(l:T1)(m:T1)(c:T0)(d:T0):Option (Int):=(Wq a b c d).bind λn=>(P7 a b j l m c).bind λo=>(Ze n.1 [46]).bind λe=>(Ze e d).bind λf=>(Ha o f).bind λi=>some i
theorem gz(a:Vr)(e:T2)(d:T1)(l:T1)(F:T1)(b:T0)(n:T0){r:Int}(h:IK a e d l F b n=some r):VD 57 [.ipt 4 [[.ipt 2 [[cL a,mI e]] 0 0,tL d,tL l,tL F]] 0 0,sA b,sA n] (iA r):=by refine zi func57 y kz y y<|A ?_;refine ze<|A ?_;refine UC y (λhx=>by cases hx) (λ_=>?_);apply zc;obtain⟨i,q,h⟩:=bs h;refine A ?_;obtain⟨c,j,o,s,f,v,p,m,h⟩:=Me h;refine A ?_;refine u<|sx [] (iZ j)<|zw (VC:=[(2,sA n),(7,sA i.1),(25,.msl 0 0 (length c))]) (VJ:=[sT c]) (zl [1])<|A ?_;refine u<|Lj (M0 c f m) y y (.cons (XU y (λ_=>y)) (.cons (si y) .nil)) Xx<|A ?_;exact F4
instance :VF 57 [.ipt 4 [[.ipt 2 [[cL a,mI e]] 0 0,tL d,tL l,tL F]] 0 0,sA b,sA n] (IK a e d l F b n) iA:=⟨λ_=>gz a e d l F b n⟩
def re(a:T1):Option (T1):=some a
def pE(a:Int)(b:T1):zL (T1×Int) (T1) (T1):=some (.inl (b,(i64.wrap (a+1))))
def AP(a:Int)(b:T1):zL (T1×Int) (T1) (T1):=some (.inl (b,(i64.wrap (a+1))))
def OD(d:za)(a:T1)(b:Int):zL (T1×Int) (T1) (T1):=cond (decide (b<(length d.Methods:Int))) ((idx d.Methods b).bind λc=>(cond ((!c.Static)&&(!c.Abstract)) ((zO a c.Name).bind λe=>some (!e)) (some false)).bind λf=>cond f ((Xu 16 a [c.Name]).bind λi=>AP b i) (AP b a)) (some (.inr (.inl a)))
def OC(d:(Vr))(c:T1)(a:Int):zL (T1×Int) (T1) (T1):=cond (decide (a<((length d):Int))) ((idx d a).bind λe=>(zk (λz=>OD e z.1 z.2) (c,0)).bind λo=>zE o (λb=>pE a b) (λr=>some (.inr (.inr r)))) (some (.inr (.inl c)))
def AI(a:Vr)(c:T2)(d:T1)(e:T1)(f:T1)(i:T0):Option (T1):=(PZ a c d e f i).bind λj=>(zk (λz=>OC j z.1 z.2) ([],0)).bind λo=>zE o (λb=>re b) some
theorem pD{B:T0}(h:AI a e d l F B=some r):VE 61 [.ipt 4 [[.ipt 2 [[cL a,mI e]] 0 0,tL d,tL l,tL F]] 0 0,sA B] [] (.msl 0 0 (length r)) [.many 1 (map Xe r)]:=by
 refine⟨⟨Xo (sz:=1) (λ_=>y),t⟩,zK func61 y kz y ?_⟩;refine A ?_;refine A ?_;apply ze;obtain⟨c,K,h⟩:=bs h;refine A ?_;refine u<|sx [] (iP K)<|zw (VC:=[(5,nS),(12,.msl 0 0 (length c))]) (VJ:=[some (6,map zf c)]) (zl [0])<|A ?_;obtain⟨o,ho,h⟩:=bs h;refine F7 ho (λz=>[(5,.msl 0 0 (length z.1)),(12,.msl 1 0 (length c)),(13,iA ((length c):Int)),(14,iA z.2)]) (λz=>[sT z.1,some (6,map zf c)]) (λb=>[(5,.msl 0 0 (length b))]) (λb=>[sT b]) (pF f61 (λr=>.msl 0 0 (length r)) λr=>[sT r]) ⟨[.fresh 1,0],cv y (.nilown y)<|cv y (.msl y)<|ce y y<|ce y y<|cn,y,⟨w,⟨_,y,XL (λ_=>y)⟩,t⟩,y,k⟩ ?_ ?_
 .rintro⟨L,p⟩ r h;refine A ?_;apply ze;apply Xa h y<;>intro C h
  .refine zc<|ze<|zg ?_;obtain⟨n,M,h⟩:=bs h;refine A ?_;refine A ?_;obtain⟨o,ho,h⟩:=bs h;refine LG ho (λz=>[(5,.msl 0 0 (length z.1)),(12,.msl 1 0 (length c)),(13,iA ((length c):Int)),(14,iA p),(19,.isl 10 (map zd n.Methods)),(20,iA (length n.Methods:Int)),(21,iA z.2)]) (λz=>[sT z.1,some (6,map zf c)]) (λb=>[(5,.msl 0 0 (length b)),(12,.msl 1 0 (length c)),(13,iA ((length c):Int)),(14,iA p)]) (λb=>[sT b,some (6,map zf c)]) (pF f61 (λr=>.msl 0 0 (length r)) λr=>[sT r]) (z6 [0,1]) ?_ ?_ ?_
   .rintro⟨q,s⟩ r h;refine A ?_;apply ze;apply Xa h y<;>intro D h
    .apply zc;refine zY (X:=T1) (λz=>[(5,.msl 0 0 (length z)),(12,.msl 1 0 (length c)),(13,iA ((length c):Int)),(14,iA p),(19,.isl 10 (map zd n.Methods)),(20,iA (length n.Methods:Int)),(21,iA s)]) (λz=>[sT z,some (6,map zf c)]) (λz=>AP s z=some r) ?_ ?_
     .apply zg;obtain⟨v,N,h⟩:=bs h;refine A ?_;obtain⟨G,m,h⟩:=bs h;refine A ?_;refine XV (x:=G) (j:=8) 5 y y y y y Lr (λi=>by replace m:=bT i m;obtain⟨O,H,m⟩:=bs m;obtain rfl:=sm m;exact g y i<|mv y<|g y i<|fa ti y y y<|g y i<|ld ti y y<|g y i<|Lj (WT q v.Name H) y y (.cons (XU y (λ_=>y)) (.cons (si y) .nil)) Xx<|g y i<|nt y<|zx (eg [34,35,36,37,38] 5 y y y y)) (λhb=>(sm (bF hb m)).symm)<|zx ?_;apply Xa h y<;>intro E h
      .obtain⟨I,J,h⟩:=bs h;refine A ?_;refine u<|Lo 4 ti y ti y y YB ti y y y y (Lx (f:=Xe) (z:=[v.Name]) y y) (λ_=>y) y J<|A ?_;exact(⟨I,h,zl [4,1]⟩)
      apply zc;exact⟨q,h,zl [0,1]⟩
     rintro P h;refine A ?_;exact LH
    exact LW
   .rintro Q rfl;refine zm<|A ?_;exact LH
   rintro r' rfl env st hp;cases h;exact⟨_,y,hp⟩
  exact Lv
 rintro R rfl;refine zm<|A ?_;exact LP
def Oa(a:Vr)(b:T2)(c:T1)(d:T1)(e:T1)(f:T0)(i:T0):Option (Int):=(AI a b c d e f).bind λj=>(Ha j i).bind λl=>some l
theorem AR(a:Vr)(e:T2)(d:T1)(l:T1)(F:T1)(b:T0)(n:T0){r:Int}(h:Oa a e d l F b n=some r):VD 58 [.ipt 4 [[.ipt 2 [[cL a,mI e]] 0 0,tL d,tL l,tL F]] 0 0,sA b,sA n] (iA r):=by refine zi func58 y kz y y<|A ?_;obtain⟨c,f,j,i,h⟩:=F6 h;refine A ?_;refine u<|sx [] (pD f)<|zw (VC:=[(2,sA n),(9,.msl 0 0 (length c))]) (VJ:=[sT c]) (zl [0])<|u<|mv y<|u<|Lj (M0 c n i) y y (.cons (XU y (λ_=>y)) (.cons (si y) .nil)) Xx<|A ?_;exact F4
instance :VF 58 [.ipt 4 [[.ipt 2 [[cL a,mI e]] 0 0,tL d,tL l,tL F]] 0 0,sA b,sA n] (Oa a e d l F b n) iA:=⟨λ_=>AR a e d l F b n⟩
def uO:Option (Bool):=(HL Km (X9.mk [66,98] [109,97,105,110])).bind λb=>cond (!(b.2==0)) (some false) ((Bz b.1).bind λa=>(uT).bind λo=>cond o ((AH a.1 a.2.1 a.2.2.1 a.2.2.2.1 a.2.2.2.2).bind λp=>cond (((length p):Int)==15) ((Gm a.1 a.2.1 a.2.2.1 a.2.2.2.1 a.2.2.2.2 [91,65,97]).bind λq=>cond (q==14) ((Gm a.1 a.2.1 a.2.2.1 a.2.2.2.1 a.2.2.2.2 [90,122]).bind λs=>cond (s==((-1):Int)) ((AS a.1 a.2.1 a.2.2.1 a.2.2.2.1 a.2.2.2.2).bind λc=>(BG c ([[70,97,99,101,46,102],[65,97,46,102],[66,98,46,109,97,105,110]])).bind λd=>cond d ((Ou a.1 a.2.1 a.2.2.1 a.2.2.2.1 a.2.2.2.2 [66,98] [102]).bind λe=>cond (e==((-1):Int)) ((MU a.1 a.2.1 a.2.2.1 a.2.2.2.1 a.2.2.2.2 [65,97] [115]).bind λf=>cond (f==0) ((P7 a.1 a.2.1 a.2.2.1 a.2.2.2.1 a.2.2.2.2 [66,98]).bind λi=>(BG i ([[65,97,46,120],[66,98,46,121]])).bind λj=>cond j ((IK a.1 a.2.1 a.2.2.1 a.2.2.2.1 a.2.2.2.2 [66,98] [121]).bind λl=>cond (l==1) ((Oa a.1 a.2.1 a.2.2.1 a.2.2.2.1 a.2.2.2.2 [66,98] [102]).bind λm=>cond (m==0) ((Oa a.1 a.2.1 a.2.2.1 a.2.2.2.1 a.2.2.2.2 [66,98] [109,97,105,110]).bind λn=>some (n==((-1):Int))) (some false)) (some false)) (some false)) (some false)) (some false)) (some false)) (some false)) (some false)) (some false)) (some false))
theorem mo{r:Bool}(h:uO=some r):VD 40 [] (bA r):=by
 refine zi func40 y kz y y<|A ?_;obtain⟨G,H,h⟩:=bs h;refine rg y<|u<|sx [] (Wj y)<|u<|bd ti y y y<|zw (VC:=[(5,.isl 6 (map zf Km)),(6,.agg [sA [66,98],sA [109,97,105,110]])]) (VJ:=[]) (zl [])<|u<|pc (BZ Km (X9.mk [66,98] [109,97,105,110]) H) y y y<|A ?_;refine ze<|A ?_;apply Xa h y<;>intro c h
 .refine A ?_;exact F4
 apply zc;obtain⟨a,I,h⟩:=bs h;refine rg y<|u<|mv y<|u<|sc [] (kC I) y y y y ⟨(Ln (Zo (λ_=>y))),t⟩ t<|A ?_;obtain⟨J,K,h⟩:=bs h;refine rg y<|u<|pc (er K) y y y<|u<|mv y<|?_
 rcases J with _|_
 .replace h:=bF y h;refine F3 y<|F3 y<|F3 y<|F3 y<|u<|pk (b:=false) y y<|u<|mv y<|F3 y<|F3 y<|F3 y<|u<|pk (b:=false) y y<|u<|mv y<|F3 y<|F3 y<|F3 y<|u<|pk (b:=false) y y<|u<|mv y<|F3 y<|F3 y<|F3 y<|F3 y<|u<|pk (b:=false) y y<|u<|mv y<|F3 y<|F3 y<|F3 y<|u<|pk (b:=false) y y<|u<|mv y<|F3 y<|F3 y<|F3 y<|u<|pk (b:=false) y y<|u<|mv y<|F3 y<|F3 y<|F3 y<|F3 y<|u<|pk (b:=false) y y<|u<|mv y<|F3 y<|F3 y<|F3 y<|u<|pk (b:=false) y y<|u<|mv y<|F3 y<|F3 y<|F3 y<|u<|pk (b:=false) y y<|u<|mv y<|F3 y<|F3 y<|F3 y<|u<|pk (b:=false) y y<|u<|Lw y<|zx ?_;exact F4
 replace h:=bT y h;obtain⟨L,M,h⟩:=bs h;refine g y y<|mv y<|zw (VC:=[(3,.ipt 4 [[.ipt 2 [[cL a.1,mI a.2.1]] 0 0,tL a.2.2.1,tL a.2.2.2.1,tL a.2.2.2.2]] 0 0),(15,bA true),(16,.ipt 4 [[.ipt 2 [[cL a.1,mI a.2.1]] 0 0,tL a.2.2.1,tL a.2.2.2.1,tL a.2.2.2.2]] 0 0)]) (VJ:=[]) ⟨[],cv y (qc y y ⟨(ci y),(Gu y y (λ_=>y)),(Gu y y (λ_=>y)),(Gu y y (λ_=>y)),t⟩ y)<|ce y y<|cv y (qc y y ⟨(ci y),(Gu y y (λ_=>y)),(Gu y y (λ_=>y)),(Gu y y (λ_=>y)),t⟩ y)<|cn,y,t,y,k⟩<|g y y<|sx [] (i5 M)<|g y y<|fP ti y y y<|g y y<|eql ti y y<|u<|pk (b:=true) y y<|u<|mv y<|?_;generalize (((length L):Int)==15)=N at h ⊢
 rcases N with _|_
 .replace h:=bF y h;refine F3 y<|F3 y<|F3 y<|u<|pk (b:=false) y y<|u<|mv y<|F3 y<|F3 y<|F3 y<|u<|pk (b:=false) y y<|u<|mv y<|F3 y<|F3 y<|F3 y<|F3 y<|u<|pk (b:=false) y y<|u<|mv y<|F3 y<|F3 y<|F3 y<|u<|pk (b:=false) y y<|u<|mv y<|F3 y<|F3 y<|F3 y<|u<|pk (b:=false) y y<|u<|mv y<|F3 y<|F3 y<|F3 y<|F3 y<|u<|pk (b:=false) y y<|u<|mv y<|F3 y<|F3 y<|F3 y<|u<|pk (b:=false) y y<|u<|mv y<|F3 y<|F3 y<|F3 y<|u<|pk (b:=false) y y<|u<|mv y<|F3 y<|F3 y<|F3 y<|u<|pk (b:=false) y y<|u<|Lw y<|zx ?_;exact F4
 replace h:=bT y h;obtain⟨O,P,h⟩:=bs h;refine g y y<|mv y<|g y y<|pc (HT a.1 a.2.1 a.2.2.1 a.2.2.2.1 a.2.2.2.2 [91,65,97] P) y y y<|g y y<|eql ti y y<|u<|pk (b:=true) y y<|u<|mv y<|?_;generalize (O==14)=Q at h ⊢
 rcases Q with _|_
 .replace h:=bF y h;refine F3 y<|F3 y<|F3 y<|u<|pk (b:=false) y y<|u<|mv y<|F3 y<|F3 y<|F3 y<|F3 y<|u<|pk (b:=false) y y<|u<|mv y<|F3 y<|F3 y<|F3 y<|u<|pk (b:=false) y y<|u<|mv y<|F3 y<|F3 y<|F3 y<|u<|pk (b:=false) y y<|u<|mv y<|F3 y<|F3 y<|F3 y<|F3 y<|u<|pk (b:=false) y y<|u<|mv y<|F3 y<|F3 y<|F3 y<|u<|pk (b:=false) y y<|u<|mv y<|F3 y<|F3 y<|F3 y<|u<|pk (b:=false) y y<|u<|mv y<|F3 y<|F3 y<|F3 y<|u<|pk (b:=false) y y<|u<|Lw y<|zx ?_;exact F4
 replace h:=bT y h;obtain⟨R,S,h⟩:=bs h;refine g y y<|mv y<|g y y<|pc (HT a.1 a.2.1 a.2.2.1 a.2.2.2.1 a.2.2.2.2 [90,122] S) y y y<|g y y<|eql ti y y<|u<|pk (b:=true) y y<|u<|mv y<|?_;generalize (R==((-1):Int))=T at h ⊢
 rcases T with _|_
 .replace h:=bF y h;refine F3 y<|F3 y<|F3 y<|F3 y<|u<|pk (b:=false) y y<|u<|mv y<|F3 y<|F3 y<|F3 y<|u<|pk (b:=false) y y<|u<|mv y<|F3 y<|F3 y<|F3 y<|u<|pk (b:=false) y y<|u<|mv y<|F3 y<|F3 y<|F3 y<|F3 y<|u<|pk (b:=false) y y<|u<|mv y<|F3 y<|F3 y<|F3 y<|u<|pk (b:=false) y y<|u<|mv y<|F3 y<|F3 y<|F3 y<|u<|pk (b:=false) y y<|u<|mv y<|F3 y<|F3 y<|F3 y<|u<|pk (b:=false) y y<|u<|Lw y<|zx ?_;exact F4
 replace h:=bT y h;obtain⟨d,U,e,V,h⟩:=F6 h;refine g y y<|mv y<|g y y<|sx [] (i9 U)<|g y y<|bl 2 ti y ti y YB YB y y y<|g y y<|Lj (kP d ([[70,97,99,101,46,102],[65,97,46,102],[66,98,46,109,97,105,110]]) V) y y (.cons (XU y (λ_=>y)) (.cons (qo y ⟨⟨(si y),t⟩,⟨(si y),t⟩,⟨(si y),t⟩,t⟩) .nil)) Xx<|u<|pk (b:=true) y y<|u<|mv y<|?_
 rcases e with _|_
 .replace h:=bF y h;refine F3 y<|F3 y<|F3 y<|u<|pk (b:=false) y y<|u<|mv y<|F3 y<|F3 y<|F3 y<|u<|pk (b:=false) y y<|u<|mv y<|F3 y<|F3 y<|F3 y<|F3 y<|u<|pk (b:=false) y y<|u<|mv y<|F3 y<|F3 y<|F3 y<|u<|pk (b:=false) y y<|u<|mv y<|F3 y<|F3 y<|F3 y<|u<|pk (b:=false) y y<|u<|mv y<|F3 y<|F3 y<|F3 y<|u<|pk (b:=false) y y<|u<|Lw y<|zx ?_;exact F4
 replace h:=bT y h;obtain⟨f,i,h⟩:=bs h;refine g y y<|mv y<|g y y<|pc (AW a.1 a.2.1 a.2.2.1 a.2.2.2.1 a.2.2.2.2 [66,98] [102] i) y y y<|g y y<|eql ti y y<|u<|pk (b:=true) y y<|u<|mv y<|?_;generalize (f==((-1):Int))=j at h ⊢
 rcases j with _|_
 .replace h:=bF y h;refine F3 y<|F3 y<|F3 y<|u<|pk (b:=false) y y<|u<|mv y<|F3 y<|F3 y<|F3 y<|F3 y<|u<|pk (b:=false) y y<|u<|mv y<|F3 y<|F3 y<|F3 y<|u<|pk (b:=false) y y<|u<|mv y<|F3 y<|F3 y<|F3 y<|u<|pk (b:=false) y y<|u<|mv y<|F3 y<|F3 y<|F3 y<|u<|pk (b:=false) y y<|u<|Lw y<|zx ?_;exact F4
 replace h:=bT y h;obtain⟨l,m,h⟩:=bs h;refine g y y<|mv y<|g y y<|pc (gK a.1 a.2.1 a.2.2.1 a.2.2.2.1 a.2.2.2.2 [65,97] [115] m) y y y<|g y y<|eql ti y y<|u<|pk (b:=true) y y<|u<|mv y<|?_;generalize (l==0)=n at h ⊢
 rcases n with _|_
 .replace h:=bF y h;refine F3 y<|F3 y<|F3 y<|F3 y<|u<|pk (b:=false) y y<|u<|mv y<|F3 y<|F3 y<|F3 y<|u<|pk (b:=false) y y<|u<|mv y<|F3 y<|F3 y<|F3 y<|u<|pk (b:=false) y y<|u<|mv y<|F3 y<|F3 y<|F3 y<|u<|pk (b:=false) y y<|u<|Lw y<|zx ?_;exact F4
 replace h:=bT y h;obtain⟨o,p,q,s,h⟩:=F6 h;refine g y y<|mv y<|g y y<|sx [] (iZ p)<|g y y<|bl 4 ti y ti y YB YB y y y<|g y y<|Lj (kP o ([[65,97,46,120],[66,98,46,121]]) s) y y (.cons (XU y (λ_=>y)) (.cons (qo y ⟨⟨(si y),t⟩,⟨(si y),t⟩,t⟩) .nil)) Xx<|u<|pk (b:=true) y y<|u<|mv y<|?_
 rcases q with _|_
 .replace h:=bF y h;refine F3 y<|F3 y<|F3 y<|u<|pk (b:=false) y y<|u<|mv y<|F3 y<|F3 y<|F3 y<|u<|pk (b:=false) y y<|u<|mv y<|F3 y<|F3 y<|F3 y<|u<|pk (b:=false) y y<|u<|Lw y<|zx ?_;exact F4
 replace h:=bT y h;obtain⟨v,x,h⟩:=bs h;refine g y y<|mv y<|g y y<|pc (gz a.1 a.2.1 a.2.2.1 a.2.2.2.1 a.2.2.2.2 [66,98] [121] x) y y y<|g y y<|eql ti y y<|u<|pk (b:=true) y y<|u<|mv y<|?_;generalize (v==1)=B at h ⊢
 rcases B with _|_
 .replace h:=bF y h;refine F3 y<|F3 y<|F3 y<|u<|pk (b:=false) y y<|u<|mv y<|F3 y<|F3 y<|F3 y<|u<|pk (b:=false) y y<|u<|Lw y<|zx ?_;exact F4
 replace h:=bT y h;obtain⟨C,D,h⟩:=bs h;refine g y y<|mv y<|g y y<|pc (AR a.1 a.2.1 a.2.2.1 a.2.2.2.1 a.2.2.2.2 [66,98] [102] D) y y y<|g y y<|eql ti y y<|u<|pk (b:=true) y y<|u<|mv y<|?_;generalize (C==0)=E at h ⊢
 rcases E with _|_
 .replace h:=bF y h;refine F3 y<|F3 y<|F3 y<|u<|pk (b:=false) y y<|u<|Lw y<|zx ?_;exact F4
 replace h:=bT y h;obtain⟨W,F,h⟩:=bs h;refine g y y<|mv y<|g y y<|pc (AR a.1 a.2.1 a.2.2.1 a.2.2.2.1 a.2.2.2.2 [66,98] [109,97,105,110] F) y y y<|g y y<|eql ti y y<|u<|pk (b:=true) y y<|u<|Lw y<|zx ?_;exact F4
instance:VF 40 [] (uO) bA:=⟨λ_=>mo ⟩
def Es(a:X9):Option (X9):=(ZN a.C 12).bind λb=>(ZN a.M 12).bind λc=>some (X9.mk b c)
theorem oU(H:X9){r:X9}(h:Es H=some r):VD 37 [.agg (KR H)] (.agg (KR r)):=by refine zi func37 y kz y y ?_;unfold Es at h;refine A ?_;obtain⟨a,c,h⟩:=bs h;obtain⟨b,d,h⟩:=bs h;refine Lc [(2,Vg)] [some (2,[[sA a,sA b]])] [7] Y2 [(9,_),(8,_),(7,_),(6,_),(5,_),(4,_),(3,_)] 1 (Xd (z:=by exact⟨(λ_ _=>⟨_,y,y,La ti y y y<|⟨.any,[],[],y,y,y,t,Xg (z:=z6 [1])⟩⟩),t⟩)) ?_;exact F4
instance (H:X9):VF 37 [.agg (KR H)] (Es H) (λr=>(.agg (KR r))):=⟨λ_=>oU H⟩
def Er(a:G6):Option (G6):=(XR a.In 0 (if 30<(length a.In:Int)then 30 else(length a.In:Int))).bind λb=>(Xu 4 ([]:List Int) b).bind λc=>(RD a.Fuel 600).bind λd=>(RD (i64.wrap (d+600)) 600).bind λe=>(So a.L).bind λf=>(Es a.E).bind λi=>some (G6.mk f i c e)
theorem oT(c:G6){r:G6}(h:Er c=some r):VD 41 [.agg (SX c)] (.agg (SX r)):=by refine zi func41 y kz y y ?_;unfold Er at h;refine A ?_;obtain⟨v,l,h⟩:=bs h;obtain⟨i,p,h⟩:=bs h;refine A ?_;refine u<|wz y y<|u<|Mi (a:=0) (b:=(if 30<(length c.In:Int)then 30 else(length c.In:Int))) ti y ti y y y (H8 y l) l<|u<|MO (f:=(rI .i32)) 2 ti y ti y y YB ti y y y Mc (λ_=>y) y p<|A ?_;obtain⟨m,n,h⟩:=bs h;obtain⟨j,o,h⟩:=bs h;obtain⟨d,q,h⟩:=bs h;obtain⟨e,s,h⟩:=bs h;refine Lc [(2,Vg)] [some (5,[[.msl 1 0 (length d),sA e.C,sA e.M,.msl 2 0 (length i),iA j]]),some (6,map zf d),some (1,map (rI .i32) i)] [2,13] [11,10,9,8,7,6,4,3,1,0] [(23,iA j),(22,iA (i64.wrap (m+600))),(21,iA m),(20,iA c.Fuel),(19,.mpt 0 0 4),(18,.msl 2 0 (length i)),(16,.agg (KR c.E)),(15,.mpt 0 0 1),(13,cL c.L),(12,Vg)] 2 (Z1 ⟨(pb y (rem ti y y o w)),(pb y (add ti y y w)),(pb y (rem ti y y n w)),(pb y (ld ti y y w)),(pb y (fa ti y y y w)),pe,(pb y (ld ti y y w)),(pb y (fa ti y y y w)),(pb y (ld ti y y w)),(pb y (fa ti y y y w)),t⟩ ⟨(λ_ _=>⟨_,y,y,sx [] (zAD q)<|⟨(.msl 3 0 (length d)),[12,5],[(24,.agg [.msl 3 0 (length d),sA e.C,sA e.M,.msl 2 0 (length i),iA j]),(17,.agg (KR e)),(14,.msl 3 0 (length d))],y,y,kz,y,Z1 ⟨(pb y (bd ti y y y w)),(pb y (pc (oU c.E s) y y y w)),(pb y (rem ti y y o w)),(pb y (add ti y y w)),(pb y (rem ti y y n w)),(pb y (ld ti y y w)),(pb y (fa ti y y y w)),pe,(pb y (ld ti y y w)),(pb y (fa ti y y y w)),pe,(pb y (fa ti y y y w)),t⟩ ⟨nv,(λ_ _=>⟨_,y,y,La ti y y y<|⟨.any,[],[],y,y,kz,t,M5 (zl [1,3,2])⟩⟩),t⟩⟩⟩),nw,t⟩) ?_;exact F4
instance (a:G6):VF 41 [.agg (SX a)] (Er a) (λr=>(.agg (SX r))):=⟨λ_=>oT a⟩
def mL(a:T1):Option (T1):=some a
def Ab(a:T0)(b:T1):zL (T1×T0) (T1) (T1):=(XR a 1 (length a:Int)).bind λc=>some (.inl (b,c))
def eN(b:T1)(a:T0)(c:Bool):zL (T1×T0) (T1) (T1):=cond (!c) ((Xu 16 b [a]).bind λd=>Ab a d) (Ab a b)
def WA(b:T1)(d:T0)(c:Bool)(a:Int):zL (Bool×Int) (Bool) (T1):=cond (decide (a<((length b):Int))) ((cond c (some true) ((idx b a).bind λe=>some (e==d))).bind λf=>some (.inl (f,(i64.wrap (a+1))))) (some (.inr (.inl c)))
def Aa(c:T1)(a:T0):zL (T1×T0) (T1) (T1):=(cond (decide (0<(length a:Int))) ((idx a 0).bind λd=>some ((d.toNat:Int)==91)) (some false)).bind λe=>cond e ((zk (λz=>WA c a z.1 z.2) (false,0)).bind λo=>zE o (λb=>eN c a b) (λr=>some (.inr (.inr r)))) (some (.inr (.inl c)))
def BI(a:T1)(c:T0):Option (T1):=(zk (λz=>Aa z.1 z.2) (a,c)).bind λo=>zE o (λb=>mL b) some
theorem kQ(h:BI d n=some r):VE 128 [.msl 0 0 (length d),sA n] [.many 1 (map Xe d)] (.msl 1 0 (length r)) [.no,.many 1 (map Xe r)]:=by
 refine⟨⟨t,Xo (sz:=1) (λ_=>y),t⟩,zK func128 y kz y ?_⟩;refine A ?_;obtain⟨o,ho,h⟩:=bs h;refine Nr ho (λz=>[(0,.msl 1 0 (length z.1)),(1,sA z.2)]) (λz=>[none,sT z.1]) (λb=>[(0,.msl 1 0 (length b))]) (λb=>[none,sT b]) (λr env st=>Uy prog f128 1 (.msl 1 0 (length r)) [none,sT r] env st) (z6 [.dead,0]) ?_ ?_
 .rintro⟨e,c⟩ r h;apply ze;obtain⟨s,v,h⟩:=bs h;refine A ?_;apply Xa h y<;>intro j h
  .refine zc<|zg<|A ?_;refine ze<|A ?_;obtain⟨o,ho,h⟩:=bs h;refine LG ho (λz=>[(0,.msl 1 0 (length e)),(1,sA c),(5,bA z.1),(6,iA z.2)]) (λz=>[none,sT e]) (λb=>[(0,.msl 1 0 (length e)),(1,sA c),(5,bA b)]) (λb=>[none,sT e]) (λr env st=>Uy prog f128 1 (.msl 1 0 (length r)) [none,sT r] env st) (z6 [.dead,1]) ?_ ?_ ?_
   .rintro⟨x,B⟩ r h;refine ze<|A ?_;apply Xa h y<;>intro l h
    .refine zc<|ze<|zg ?_;obtain⟨C,D,h⟩:=bs h;refine A ?_;refine A ?_;cases h;exact⟨_,y,zl [.dead,1]⟩
    apply zr;cases h;exact⟨y,_,y,zl [.dead,1]⟩
   .rintro E rfl;apply zm;refine zY (X:=T1) (λz=>[(0,.msl 1 0 (length z)),(1,sA c)]) (λz=>[none,sT z]) (λz=>Ab c z=some r) ?_ ?_
    .refine A ?_;apply Xa h y<;>intro m h;.obtain⟨p,q,h⟩:=bs h;refine A ?_;refine u<|Lo 3 ti y ti y y YB ti y y y y (Lx (f:=Xe) (z:=[c]) y y) (λ_=>y) y q<|A ?_;exact(⟨p,h,zl [.dead,3]⟩)
     apply zc;exact⟨e,h,zl [.dead,1]⟩
    rintro F h;obtain⟨G,i,h⟩:=bs h;refine rl y<|u<|mv y<|u<|Mm (a:=1) (b:=(length c:Int)) ti y y (Gc y i) y i<|A ?_;cases h;exact⟨_,y,zl [.dead,1]⟩
   rintro r' rfl env st hp;cases h;exact⟨_,y,hp⟩
  apply zr;cases h;exact⟨y,_,y,zl [.dead,1]⟩
 rintro H rfl;refine A ?_;apply zA;cases h;exact⟨_,y,Kl [.dead,1]⟩
def mX(a:T1)(b:Vv):Option (T1×(Vv)):=some (a,b)
def my(a:Int)(b:T1)(c:Vv):zL (T1×(Vv)×Int) (T1×(Vv)) (T1×(Vv)):=some (.inl (b,c,(i64.wrap (a-1))))
def Ac(a:Int)(b:T1)(c:Vv):zL (T1×(Vv)×Int) (T1×(Vv)) (T1×(Vv)):=some (.inl (b,c,(i64.wrap (a+1))))
def WB(n:T1)(e:Int)(b:za)(c:T1)(d:Vv)(a:Int):zL (T1×(Vv)×Int) (T1×(Vv)) (T1×(Vv)):=cond (decide (a<(length b.Fields:Int))) ((idx b.Fields a).bind λf=>cond (!f.Static) ((idx n e).bind λi=>(idx b.Fields a).bind λj=>(Xu 16 c [i]).bind λl=>(Xu 40 d [j]).bind λm=>Ac a l m) (Ac a c d)) (some (.inr (.inl (c,d))))
def PJ(e:Vr)(f:T1)(c:T1)(d:Vv)(a:Int):zL (T1×(Vv)×Int) (T1×(Vv)) (T1×(Vv)):=cond (decide (0<=a)) ((idx f a).bind λi=>(zR e i).bind λj=>(idx e j).bind λl=>(zk (λz=>WB f a l z.1 z.2.1 z.2.2) (c,d,0)).bind λo=>zE o (λb=>my a b.1 b.2) (λr=>some (.inr (.inr r)))) (some (.inr (.inl (c,d))))
def Tt(a:Vr)(d:T0):Option (T1×(Vv)):=(KY a d).bind λc=>(zk (λz=>PJ a c z.1 z.2.1 z.2.2) ([],[],(i64.wrap (((length c):Int)-1)))).bind λo=>zE o (λb=>mX b.1 b.2) some
theorem mM{s:T0}{r:T1×(Vv)}(h:Tt a s=some r):VE 222 [.ipt 1 [[cL a]] 0 0,sA s] [] (.tup [.msl 0 0 (length r.1),.msl 1 0 (length r.2)]) [.many 1 (map Xe r.1),.many 3 (map zv r.2)]:=by
 refine⟨⟨Xo (sz:=1) (λ_=>y),Xo (sz:=3) (λ_=>y),t⟩,zK func222 y kz y ?_⟩;refine A ?_;refine A ?_;refine A ?_;obtain⟨c,G,h⟩:=bs h;refine A ?_;refine u<|sx [] (GL G)<|zw (VC:=[(0,.ipt 1 [[cL a]] 0 0),(6,nS),(7,nS),(14,.msl 0 0 (length c))]) (VJ:=[sT c]) (zl [0])<|A ?_;refine ze<|A ?_;obtain⟨o,ho,h⟩:=bs h;refine F7 ho (λz=>[(0,.ipt 1 [[cL a]] 0 0),(6,.msl 0 0 (length z.1)),(7,.msl 1 0 (length z.2.1)),(8,.msl 2 0 (length c)),(9,iA z.2.2)]) (λz=>[sT z.1,some (3,map zv z.2.1),sT c]) (λb=>[(6,.msl 0 0 (length b.1)),(7,.msl 1 0 (length b.2))]) (λb=>[sT b.1,some (3,map zv b.2)]) (pF f222 (λr=>.tup [.msl 0 0 (length r.1),.msl 1 0 (length r.2)]) λr=>[sT r.1,some (3,map zv r.2)]) ⟨[.fresh 1,.fresh 3,0],ce y y<|cv y (.nilown y)<|cv y (.nilown y)<|cv y (.msl y)<|ce y y<|cn,y,⟨w,w,⟨_,y,XL (λ_=>y)⟩,t⟩,y,k⟩ ?_ ?_
 .rintro⟨C,D,i⟩ r h;refine ze<|A ?_;apply Xa h y<;>intro v h
  .refine zc<|ze<|zg ?_;obtain⟨H,I,J,K,j,L,h⟩:=LA h;refine Lc [(0,_),(6,_),(7,_),(8,_),(9,_),(10,_)] [sT C,some (3,map zv D),sT c] [] Y9 [(10,_),(34,_),(33,_),(32,_),(31,_),(30,_),(29,_),(28,_),(27,_),(26,_),(25,_),(24,_),(23,_),(22,_)] 0 (Xg (z:=z6 [0,1,2])) ?_;refine A ?_;obtain⟨o,ho,h⟩:=bs h;refine LG ho (λz=>[(0,.ipt 1 [[cL a]] 0 0),(6,.msl 0 0 (length z.1)),(7,.msl 1 0 (length z.2.1)),(8,.msl 2 0 (length c)),(9,iA i),(10,.isl 3 (map zv j.Fields)),(11,iA z.2.2)]) (λz=>[sT z.1,some (3,map zv z.2.1),sT c]) (λb=>[(0,.ipt 1 [[cL a]] 0 0),(6,.msl 0 0 (length b.1)),(7,.msl 1 0 (length b.2)),(8,.msl 2 0 (length c)),(9,iA i)]) (λb=>[sT b.1,some (3,map zv b.2),sT c]) (pF f222 (λr=>.tup [.msl 0 0 (length r.1),.msl 1 0 (length r.2)]) λr=>[sT r.1,some (3,map zv r.2)]) (z6 [0,1,2]) ?_ ?_ ?_
   .rintro⟨E,F,l⟩ r h;refine ze<|A ?_;apply Xa h y<;>intro x h
    .apply zc;refine zY (X:=T1×(Vv)) (λz=>[(0,.ipt 1 [[cL a]] 0 0),(6,.msl 0 0 (length z.1)),(7,.msl 1 0 (length z.2)),(8,.msl 2 0 (length c)),(9,iA i),(10,.isl 3 (map zv j.Fields)),(11,iA l)]) (λz=>[sT z.1,some (3,map zv z.2),sT c]) (λz=>Ac l z.1 z.2=some r) ?_ ?_
     .apply zg;obtain⟨M,N,h⟩:=bs h;refine A ?_;apply Xa h y<;>intro B h;.obtain⟨m,O,n,P,d,p,e,q,h⟩:=Me h;refine XA [(0,.ipt 1 [[cL a]] 0 0),(6,.msl 0 0 (length d)),(7,.msl 1 0 (length e)),(8,.msl 2 0 (length c)),(9,iA i),(10,.isl 3 (map zv j.Fields)),(11,iA l)] [sT d,some (3,map zv e),sT c] [5,6,12,13] [0,1,2,3,4,7,8,9,10,11] [(58,_),(57,_),(56,_),(55,_),(54,_),(51,_),(50,_),(49,_),(48,_),(47,_)] 4 (Xd (z:=by exact⟨(λ_ _=>⟨_,y,y,bl 3 ti y ti y YB YB y y y<|⟨(.msl 3 0 1),[],[(52,_)],y,y,y,y,Xd (z:=by exact⟨nv,(λ_ _=>⟨_,y,y,Lo 4 ti y ti y y YB ti y y y y (Lx (f:=Xe) (z:=[m]) y y) (λ_=>y) y p<|⟨(.msl 4 0 (length d)),[],[(53,_)],y,y,y,y,Xd (z:=by exact⟨nv,nv,(λ_ _=>⟨_,y,y,bl 5 ti y ti y YB YB y y y<|⟨(.msl 5 0 1),[],[(59,_)],y,y,y,y,Xd (z:=by exact⟨nv,nv,nv,(λ_ _=>⟨_,y,y,Lo 6 ti y ti y y YB ti y y y y (Lx (f:=zv) (z:=[n]) y y) (λ_=>y) y q<|⟨(.msl 6 0 (length e)),[14,15],[(7,_),(6,_),(60,_)],y,y,y,y,Xg (z:=z6 [4,6,2])⟩⟩),t⟩)⟩⟩),nw,t⟩)⟩⟩),(λ_ _=>⟨_,y,y,bl 4 ti y ti y YB YB y y y<|⟨(.msl 4 0 1),[],[(59,_)],y,y,y,y,Xd (z:=by exact⟨nv,(λ_ _=>⟨_,y,y,Lo 5 ti y ti y y YB ti y y y y (Lx (f:=Xe) (z:=[m]) y y) (λ_=>y) y p<|⟨(.msl 5 0 (length d)),[],[(53,_)],y,y,y,y,Xd (z:=by exact⟨nv,nv,nv,(λ_ _=>⟨_,y,y,Lo 6 ti y ti y y YB ti y y y y (Lx (f:=zv) (z:=[n]) y y) (λ_=>y) y q<|⟨(.msl 6 0 (length e)),[14,15],[(7,_),(6,_),(60,_)],y,y,y,y,Xg (z:=z6 [5,6,2])⟩⟩),t⟩)⟩⟩),nv,nw,t⟩)⟩⟩),nw,t⟩)⟩⟩),nw,(λ_ _=>⟨_,y,y,bl 3 ti y ti y YB YB y y y<|⟨(.msl 3 0 1),[],[(59,_)],y,y,y,y,Xd (z:=by exact⟨(λ_ _=>⟨_,y,y,bl 4 ti y ti y YB YB y y y<|⟨(.msl 4 0 1),[],[(52,_)],y,y,y,y,Xd (z:=by exact⟨nv,(λ_ _=>⟨_,y,y,Lo 5 ti y ti y y YB ti y y y y (Lx (f:=Xe) (z:=[m]) y y) (λ_=>y) y p<|⟨(.msl 5 0 (length d)),[],[(53,_)],y,y,y,y,Xd (z:=by exact⟨nv,nv,nv,(λ_ _=>⟨_,y,y,Lo 6 ti y ti y y YB ti y y y y (Lx (f:=zv) (z:=[n]) y y) (λ_=>y) y q<|⟨(.msl 6 0 (length e)),[14,15],[(7,_),(6,_),(60,_)],y,y,y,y,Xg (z:=z6 [5,6,2])⟩⟩),t⟩)⟩⟩),nv,nw,t⟩)⟩⟩),nw,nv,nw,t⟩)⟩⟩),nw,t⟩)) ?_;exact⟨⟨d,e⟩,h,zl [0,1,2]⟩
      apply zc;exact⟨⟨E,F⟩,h,zl [0,1,2]⟩
     rintro⟨Q,R⟩ h;refine A ?_;exact Mh
    apply zr;cases h;exact⟨y,_,y,zl [0,1,2]⟩
   .rintro⟨S,T⟩ rfl;refine zm<|A ?_;exact Mh
   rintro r' rfl env st hp;cases h;exact⟨_,y,hp⟩
  exact LW
 rintro⟨U,V⟩ rfl;refine zm<|A ?_;exact RT2
def mb:Option (Int):=some (-1)
def kJ(b:T1)(c:T0)(a:Int):zL (Int) (Unit) (Int):=cond (decide (a<(length b:Int))) ((idx b a).bind λd=>cond (d==c) (some (.inr (.inr a))) (some (.inl (i64.wrap (a+1))))) (some (.inr (.inl ())))
def KU(a:T1)(c:T0):Option (Int):=(zk (λz=>kJ a c z) 0).bind λo=>zE o (λb=>mb) some
theorem ee(d:T1)(a:T0){r:Int}(h:KU d a=some r):VD 54 [tL d,sA a] (iA r):=by
 refine zi func54 y kz y y<|A ?_;refine ze<|A ?_;obtain⟨o,ho,h⟩:=bs h;refine F7 ho (λz=>[(0,tL d),(1,sA a),(5,iA z)]) (λz=>[]) (λb=>[]) (λb=>[]) (pG f54 iA) (z6 []) ?_ ?_
 .rintro f r h;refine ze<|A ?_;apply Xa h y<;>intro c h
  .refine zc<|ze<|zg ?_;obtain⟨i,j,h⟩:=bs h;refine A ?_;apply Xa h y<;>intro e h
   .refine A ?_;apply zA;cases h;exact⟨_,y,_,y,Xb []⟩
   refine zc<|A ?_;exact LB
  exact Ll
 rintro⟨⟩ rfl;refine zm<|A ?_;exact F4
instance :VF 54 [tL d,sA b] (KU d b) iA:=⟨λ_=>ee d b⟩
def nG(a:T1):Option (T1):=some a
def ni(a:Int)(b:T1):zL (T1×Int) (T1) (T1):=some (.inl (b,(i64.wrap (a-1))))
def Ad(a:Int)(b:T1):zL (T1×Int) (T1) (T1):=some (.inl (b,(i64.wrap (a+1))))
def B4(b:za)(c:T1)(a:Int):zL (T1×Int) (T1) (T1):=cond (decide (a<(length b.Methods:Int))) ((idx b.Methods a).bind λd=>(cond (!d.Static) ((idx b.Methods a).bind λe=>(KU c e.Name).bind λf=>some (decide (f<0))) (some false)).bind λi=>cond i ((idx b.Methods a).bind λj=>(Xu 16 c [j.Name]).bind λl=>Ad a l) (Ad a c)) (some (.inr (.inl c)))
def PP(d:Vr)(j:T1)(c:T1)(a:Int):zL (T1×Int) (T1) (T1):=cond (decide (0<=a)) ((idx j a).bind λe=>(zR d e).bind λf=>(idx d f).bind λi=>(zk (λz=>B4 i z.1 z.2) (c,0)).bind λo=>zE o (λb=>ni a b) (λr=>some (.inr (.inr r)))) (some (.inr (.inl c)))
def TO(a:Vr)(c:T0):Option (T1):=(zR a c).bind λd=>(cond (decide (d<0)) (some true) ((idx a d).bind λf=>some f.Interface)).bind λi=>cond i (some []) ((KY a c).bind λe=>(zk (λz=>PP a e z.1 z.2) ([],(i64.wrap (((length e):Int)-1)))).bind λo=>zE o (λb=>nG b) some)
instance (q:T0):VF 133 [.ipt 1 [[cL a]] 0 0,sA q] (TO a q) (λr=>(tL r)):=⟨λr h=>by
 refine zi func133 y kz y y<|A ?_;obtain⟨Y,Z,h⟩:=bs h;refine A ?_;apply ze;obtain⟨v5,q4,h⟩:=bs h;refine A ?_;apply Xa h y<;>intro C h
 .refine A ?_;exact F4
 refine zc<|A ?_;obtain⟨e,K,h⟩:=bs h;refine A ?_;refine u<|sx [] (GL K)<|zw (VC:=[(0,.ipt 1 [[cL a]] 0 0),(6,nS),(28,.msl 0 0 (length e))]) (VJ:=[sT e]) (zl [0])<|A ?_;refine ze<|A ?_;obtain⟨o,ho,h⟩:=bs h;refine F7 ho (λz=>[(0,.ipt 1 [[cL a]] 0 0),(6,.msl 0 0 (length z.1)),(7,.msl 1 0 (length e)),(8,iA z.2)]) (λz=>[sT z.1,sT e]) (λb=>[(6,.msl 0 0 (length b))]) (λb=>[sT b]) (pG f133 (λr=>tL r)) ⟨[.fresh 1,0],ce y y<|cv y (.nilown y)<|cv y (.msl y)<|ce y y<|cn,y,⟨w,⟨_,y,XL (λ_=>y)⟩,t⟩,y,k⟩ ?_ ?_
 .rintro⟨D,i⟩ r h;refine ze<|A ?_;apply Xa h y<;>intro s h
  .refine zc<|ze<|zg ?_;obtain⟨L,M,N,O,l,P,h⟩:=LA h;refine Lc [(0,_),(6,_),(7,_),(8,_),(9,_)] [sT D,sT e] [] Y9 [(9,_),(48,_),(47,_),(46,_),(45,_),(44,_),(43,_),(42,_),(41,_),(40,_),(39,_),(38,_),(37,_),(36,_)] 0 (Xg (z:=z6 [0,1])) ?_;refine A ?_;obtain⟨o,ho,h⟩:=bs h;refine LG ho (λz=>[(0,.ipt 1 [[cL a]] 0 0),(6,.msl 0 0 (length z.1)),(7,.msl 1 0 (length e)),(8,iA i),(9,.isl 10 (map zd l.Methods)),(10,iA z.2)]) (λz=>[sT z.1,sT e]) (λb=>[(0,.ipt 1 [[cL a]] 0 0),(6,.msl 0 0 (length b)),(7,.msl 1 0 (length e)),(8,iA i)]) (λb=>[sT b,sT e]) (pG f133 (λr=>tL r)) (z6 [0,1]) ?_ ?_ ?_
   .rintro⟨m,n⟩ r h;refine ze<|A ?_;apply Xa h y<;>intro v h
    .apply zc;refine zY (X:=T1) (λz=>[(0,.ipt 1 [[cL a]] 0 0),(6,.msl 0 0 (length z)),(7,.msl 1 0 (length e)),(8,iA i),(9,.isl 10 (map zd l.Methods)),(10,iA n)]) (λz=>[sT z,sT e]) (λz=>Ad n z=some r) ?_ ?_
     .apply zg;obtain⟨Q,R,E,d,h⟩:=F6 h;refine A ?_;refine XV (x:=E) (j:=6) 8 y y y y y Lr (λc=>by replace d:=bT c d;obtain⟨F,p,d⟩:=bs d;obtain⟨S,G,d⟩:=bs d;obtain rfl:=sm d;exact g y c<|mv y<|g y c<|mv y<|g y c<|mv y<|g y c<|Lp ti y ti y y y p<|g y c<|fa ti y y y<|g y c<|Lt ti y (zT p).2.2 y<|g y c<|Lj (ee m F.Name G) y y (.cons (XU y (λ_=>y)) (.cons (si y) .nil)) Xx<|g y c<|lss ti y y<|zx (eg [62,63,64,65,66,67,68,69] 8 y y y y)) (λhb=>(sm (bF hb d)).symm)<|zx ?_;apply Xa h y<;>intro B h
      .obtain⟨H,T,I,J,h⟩:=F6 h;refine A ?_;refine u<|Lo 3 ti y ti y y YB ti y y y y (Lx (f:=Xe) (z:=[H.Name]) y y) (λ_=>y) y J<|A ?_;exact(⟨I,h,zl [3,1]⟩)
      apply zc;exact⟨m,h,zl [0,1]⟩
     rintro U h;refine A ?_;exact LH
    exact LW
   .rintro V rfl;refine zm<|A ?_;exact LH
   rintro r' rfl env st hp;cases h;exact⟨_,y,hp⟩
  exact Lv
 rintro W rfl;refine zm<|A ?_
 exact F4⟩
section
open Go.Shelf
theorem R.cloneM{A:Nat->Prop}{m:BM}{w:World}{st:St}(hR:R A m w st){l:Nat}(hl:st[l]?=some (some (2,els))){b:LT}(hb:m l=some b)(hh:b.has=true)(hm:b.mp=true):∃es clock,w.heap[b.B]?=some (.map es clock)/\R A (m.put st.length (some ⟨true,w.heap.size,0,2,0,true⟩)) (w.alloc (.map es clock)) (st++[some (2,els)])/\Xs A m st.length w A (m.put st.length (some ⟨true,w.heap.size,0,2,0,true⟩)) (st.length+1) (w.alloc (.map es clock)):=by
 obtain⟨hbk,VW,_⟩:=hR.at hb hl;replace VW:=VW hh;obtain⟨_,es,clock,h1,h2,h3⟩:=VW.mval hm;refine⟨es,clock,h1,?_⟩;have hg:=Zb.alloc w (.map es clock)
 have h:=hR.swapG (w':=w.alloc (.map es clock)) st.length ⟨true,w.heap.size,0,2,0,true⟩ els hg.size hg.os hg.tape hg.output (λB hB _=>hg.heap B hB) (λ_=>.inl (Qg _)) (λ_=>YC) (λh=>by cases h)
  (λ_ h=>by cases h) (λ_ h=>by cases h) (λ_ h=>by cases h) (λi hi=>by rw[VW.wide i hi,hbk]) (λ_ h=>by cases h)
  (λ_ _=>⟨rfl,es,clock,by show(w.heap.push _)[w.heap.size]?=_;simp,h2,h3⟩)
 have e1:(m.put st.length none).put st.length (some ⟨true,w.heap.size,0,2,0,true⟩)=m.put st.length (some ⟨true,w.heap.size,0,2,0,true⟩):=by funext x;simp only[BM.put];split<;>rfl
 have e2:st.set st.length none=st:=Jw (Qg _);rw[e1,e2]at h;exact h
def sH:Go.Shelf.Ren:=⟨fun|5=>115|7=>190|n=>n,fun|4=>4|20=>20|23=>154|25=>9|3=>3|n=>n,λn=>n⟩
theorem sK:SlLaysW.n5 prog sH:={
 mixed:=YD
 f5 := ⟨"maps.Clone[map[string]int,string,int]", by kernel_rfl, func115.trans (congrArg some YD)⟩
 f7:=func190.trans (congrArg some YD)
 t4:=underlying4
 a4:=isAgg4
 z4:=sizeOf4
 v4:=zeroValue4
 t20:=underlying20
 a20:=isAgg20
 z20:=sizeOf20
 v20:=zeroValue20
 t23:=underlying154
 a23:=isAgg154
 z23:=sizeOf154
 v23:=zeroValue154
}
theorem sj(els:List (Vt)):US prog 115 [.mmp 0] [some (2,els)] (λa s=>a=.mmp 1/\s=[some (2,els),some (2,els)]):=by
 refine⟨⟨_,func115,by kernel_rfl,by kernel_rfl⟩,λA m w VX hR hv=>?_⟩;have h0:V A m 1 w (.mmp 0) (VX.getD 0 undef):=hv.2 0 (by simp);obtain⟨_,r,hval,hb⟩:=h0.mmp_inv;obtain⟨b,h1,h2,h3,h4⟩:=hR.blk 0 2 els rfl;obtain⟨hh,hm,rfl⟩:=hb b h1
 have hvals:VX=#[.map (some b.B)]:=by
  have h5:VX.size=1:=hv.1;obtain⟨u,rfl⟩:=J0.1 h5;have:u=.map (some b.B):=hval;rw[this]
 subst hvals;obtain⟨es,clock,h6,h7,h8⟩:=hR.cloneM rfl h1 hh hm;refine(AnyW.maps_Clone sK b.B es clock w h6).mono λe w' ⟨he,hw'⟩=>?_;subst hw';refine⟨_,A,_,[some (2,els),some (2,els)],.mmp 1,he,h7,h8,?_,rfl,rfl⟩;refine .mmp _ _ (QL _) λb' hb'=>?_;simp[BM.put]at hb';subst hb';exact⟨rfl,rfl,rfl⟩
def sG:Go.Shelf.Ren:=⟨fun|5=>116|7=>190|n=>n,fun|4=>4|20=>20|23=>161|25=>9|3=>67|n=>n,λn=>n⟩
theorem sJ:SlLaysW.n5 prog sG:={
 mixed:=YD
 f5 := ⟨"maps.Clone[map[string]daguerre/frame.Val,string,daguerre/frame.Val]", by kernel_rfl, func116.trans (congrArg some YD)⟩
 f7:=func190.trans (congrArg some YD)
 t4:=underlying4
 a4:=isAgg4
 z4:=sizeOf4
 v4:=zeroValue4
 t20:=underlying20
 a20:=isAgg20
 z20:=sizeOf20
 v20:=zeroValue20
 t23:=underlying161
 a23:=isAgg161
 z23:=sizeOf161
 v23:=zeroValue161
}
theorem sh(els:List (Vt)):US prog 116 [.mmp 0] [some (2,els)] (λa s=>a=.mmp 1/\s=[some (2,els),some (2,els)]):=by
 refine⟨⟨_,func116,by kernel_rfl,by kernel_rfl⟩,λA m w VX hR hv=>?_⟩;have h0:V A m 1 w (.mmp 0) (VX.getD 0 undef):=hv.2 0 (by simp);obtain⟨_,r,hval,hb⟩:=h0.mmp_inv;obtain⟨b,h1,h2,h3,h4⟩:=hR.blk 0 2 els rfl;obtain⟨hh,hm,rfl⟩:=hb b h1
 have hvals:VX=#[.map (some b.B)]:=by
  have h5:VX.size=1:=hv.1;obtain⟨u,rfl⟩:=J0.1 h5;have:u=.map (some b.B):=hval;rw[this]
 subst hvals;obtain⟨es,clock,h6,h7,h8⟩:=hR.cloneM rfl h1 hh hm;refine(AnyW.maps_Clone sJ b.B es clock w h6).mono λe w' ⟨he,hw'⟩=>?_;subst hw';refine⟨_,A,_,[some (2,els),some (2,els)],.mmp 1,he,h7,h8,?_,rfl,rfl⟩;refine .mmp _ _ (QL _) λb' hb'=>?_;simp[BM.put]at hb';subst hb';exact⟨rfl,rfl,rfl⟩
end
theorem mF:VD 180 [] (.lit (.bool true)):=Hz [] 90 (by kernel_rfl) (λg h=>by cases h) (by kernel_rfl)
theorem ms{r:Bool}(_:true=r):VD 180 [] (bA true):=mF
structure zy where
  Ref:Bool
  N:Int
def zn(x:zy):Vt:=[bA x.Ref,.lit (.int .i32 x.N)]
def Bs(a:T0)(b:T0):Option (T0):=(Ze a [46]).bind λc=>(Ze c b).bind λd=>some d
instance :VF 108 [sA b,sA n] (Bs b n) sA:=⟨λr h=>by
 refine zi func108 y kz y y<|A ?_;obtain⟨a,c,d,e,h⟩:=F6 h;refine A ?_
 exact F4⟩
def ls(a:zu)(b:T2)(c:List (T0×zy))(d:T1):Option ((Vr)×T2×T2×(List (T0×zy))×T1):=some (a.l,a.at_,b,c,d)
def lu(a:Int)(b:T2)(c:List (T0×zy))(d:T1):zL (T2×(List (T0×zy))×T1×Int) (T2×(List (T0×zy))×T1) ((Vr)×T2×T2×(List (T0×zy))×T1):=some (.inl (b,c,d,(i64.wrap (a+1))))
def Tm(a:Int)(b:List (T0×zy))(c:T1):zL ((List (T0×zy))×T1×Int) ((List (T0×zy))×T1) ((Vr)×T2×T2×(List (T0×zy))×T1):=some (.inl (b,c,(i64.wrap (a+1))))
def Wm(e:T0)(f:za×Bool)(c:List (T0×zy))(d:T1)(a:Int):zL ((List (T0×zy))×T1×Int) ((List (T0×zy))×T1) ((Vr)×T2×T2×(List (T0×zy))×T1):=cond (decide (a<(length f.1.Fields:Int))) ((idx f.1.Fields a).bind λb=>cond b.Static ((Bs e b.Name).bind λi=>(Dh b.Type_).bind λj=>(Bs e b.Name).bind λl=>(Xu 16 d [l]).bind λm=>Tm a (XO i (zy.mk j 0) c) m) (Tm a c d)) (some (.inr (.inl (c,d))))
def Tn(c:zu)(d:List (T0×zy))(e:T1)(f:Int)(a:T0)(i:T2):zL (T2×(List (T0×zy))×T1×Int) (T2×(List (T0×zy))×T1) ((Vr)×T2×T2×(List (T0×zy))×T1):=(zI c.l c.at_ a).bind λj=>(zk (λz=>Wm a j z.1 z.2.1 z.2.2) (d,e,0)).bind λo=>zE o (λb=>lu f i b.1 b.2) (λr=>some (.inr (.inr r)))
def BO(f:zu)(i:T1)(c:T2)(d:List (T0×zy))(e:T1)(a:Int):zL (T2×(List (T0×zy))×T1×Int) (T2×(List (T0×zy))×T1) ((Vr)×T2×T2×(List (T0×zy))×T1):=cond (decide (a<((length i):Int))) ((idx i a).bind λb=>cond (decide (a<((length (Z5)):Int))) (Tn f d e a b (XO b 2 (XO b 0 c))) (Tn f d e a b (XO b 0 c))) (some (.inr (.inl (c,d,e))))
def Bt(c:Option zu):Option ((Vr)×T2×T2×(List (T0×zy))×T1):=ZG c (none) (λa=>(WM a.l a.at_).bind λd=>(zk (λz=>BO a d z.1 z.2.1 z.2.2.1 z.2.2.2) ([],[],[],0)).bind λo=>zE o (λb=>ls a b.1 b.2.1 b.2.2) some)
theorem u7{r:(Vr)×T2×T2×(List (T0×zy))×T1}(h:Bt D=some r):VE 23 [Xz 2 XX D] [] (Vg) [.one 4 [.ipt 2 [[cL r.1,mI r.2.1]] 0 0,.mmp 1,.mmp 2,.msl 3 0 (length r.2.2.2.2)],.many 2 (map (F5 (λx=>iA x)) r.2.2.1),.many 2 (map (F5 (λx=>.agg (zn x))) r.2.2.2.1),.many 1 (map Xe r.2.2.2.2)]:=by
 refine⟨⟨t,Xo (sz:=2) (λ_=>y),Xo (sz:=2) (λ_=>y),Xo (sz:=1) (λ_=>y),t⟩,zK func23 y kz y ?_⟩;unfold Bt at h
 rcases D with _|a
 .replace h:=L9 h;cases h
 replace h:=L8 h;refine A ?_;refine rg y<|u<|mv y<|u<|wA (e:=3) 0 y y<|u<|wA (e:=67) 1 y y<|A ?_;apply ze;obtain⟨c,P,h⟩:=bs h;refine rg y<|u<|mv y<|u<|sx [] (Rf P)<|zw (VC:=[(0,.ipt 2 [[cL a.l,mI a.at_]] 0 0),(3,Vg),(16,.msl 3 0 (length c))]) (VJ:=[some (4,[[.ipt 2 [[cL a.l,mI a.at_]] 0 0,.mmp 1,.mmp 2,nS]]),some (2,map (F5 (λx=>iA x)) []),some (2,map (F5 (λx=>.agg (zn x))) []),sT c]) (zl [2,0,1,3])<|A ?_;obtain⟨o,ho,h⟩:=bs h;refine F7 ho (λz=>[(0,.ipt 2 [[cL a.l,mI a.at_]] 0 0),(3,Vg),(16,.msl 4 0 (length c)),(17,iA ((length c):Int)),(18,iA z.2.2.2)]) (λz=>[Xw a.l a.at_ 1 2 3 z.2.2.1,some (2,map (F5 (λx=>iA x)) z.1),some (2,map (F5 (λx=>.agg (zn x))) z.2.1),sT z.2.2.1,sT c]) (λb=>[(3,Vg)]) (λb=>[Xw a.l a.at_ 1 2 3 b.2.2,some (2,map (F5 (λx=>iA x)) b.1),some (2,map (F5 (λx=>.agg (zn x))) b.2.1),sT b.2.2]) (pF f23 (λr=>Vg) λr=>[Xw r.1 r.2.1 1 2 3 r.2.2.2.2,some (2,map (F5 (λx=>iA x)) r.2.2.1),some (2,map (F5 (λx=>.agg (zn x))) r.2.2.2.1),sT r.2.2.2.2]) ⟨[0,1,2,.fresh 1,3],ce y y<|cv y (.mpt y)<|cv y (.msl y)<|ce y y<|ce y y<|cn,y,⟨⟨_,y,XN ⟨ci y,.mmp y,.mmp y,.nilown y,t⟩⟩,⟨_,y,XL (λ_=>y)⟩,⟨_,y,XL (λ_=>y)⟩,w,⟨_,y,XL (λ_=>y)⟩,t⟩,y,k⟩ ?_ ?_
 .rintro⟨m,G,n,i⟩ r h;refine A ?_;apply ze;apply Xa h y<;>intro I h
  .refine zc<|ze<|zg ?_;obtain⟨d,Q,h⟩:=bs h;refine A ?_;refine A ?_;refine u<|MK (v:=0) (g:=(λx=>iA x)) (l:=m) (s:=d) y y y y y y<|zx ?_;refine zY (X:=T2) (λz=>[(0,.ipt 2 [[cL a.l,mI a.at_]] 0 0),(3,Vg),(5,sA d),(16,.msl 4 0 (length c)),(17,iA ((length c):Int)),(18,iA i)]) (λz=>[Xw a.l a.at_ 1 2 3 n,some (2,map (F5 (λx=>iA x)) z),some (2,map (F5 (λx=>.agg (zn x))) G),sT n,sT c]) (λz=>Tn a G n i d z=some r) ?_ ?_
   .refine rg y<|u<|mv y<|u<|sx [] (o3 y)<|zw (VC:=[(0,.ipt 2 [[cL a.l,mI a.at_]] 0 0),(3,Vg),(5,sA d),(16,.msl 4 0 (length c)),(17,iA ((length c):Int)),(18,iA i),(28,iA i),(29,.msl 5 0 (length (Z5)))]) (VJ:=[Xw a.l a.at_ 1 2 3 n,some (2,map (F5 (λx=>iA x)) (XO d 0 m)),some (2,map (F5 (λx=>.agg (zn x))) G),sT n,sT c,sT (Z5)]) (zl [0,1,2,3,4,5])<|A ?_;apply Xa h y<;>intro J h
    .refine A ?_;exact u<|MK (v:=2) (g:=(λx=>iA x)) (l:=(XO d 0 m)) (s:=d) y y y y y y<|zx (⟨(XO d 2 (XO d 0 m)),h,zl [0,1,2,3,4]⟩)
    apply zc;exact⟨(XO d 0 m),h,zl [0,1,2,3,4]⟩
   rintro p h;obtain⟨j,R,h⟩:=bs h;refine A ?_;refine A ?_;obtain⟨o,ho,h⟩:=bs h;refine LG ho (λz=>[(0,.ipt 2 [[cL a.l,mI a.at_]] 0 0),(3,Vg),(5,sA d),(16,.msl 4 0 (length c)),(17,iA ((length c):Int)),(18,iA i),(44,.isl 3 (map zv j.1.Fields)),(45,iA (length j.1.Fields:Int)),(46,iA z.2.2)]) (λz=>[Xw a.l a.at_ 1 2 3 z.2.1,some (2,map (F5 (λx=>iA x)) p),some (2,map (F5 (λx=>.agg (zn x))) z.1),sT z.2.1,sT c]) (λb=>[(0,.ipt 2 [[cL a.l,mI a.at_]] 0 0),(3,Vg),(16,.msl 4 0 (length c)),(17,iA ((length c):Int)),(18,iA i)]) (λb=>[Xw a.l a.at_ 1 2 3 b.2,some (2,map (F5 (λx=>iA x)) p),some (2,map (F5 (λx=>.agg (zn x))) b.1),sT b.2,sT c]) (pF f23 (λr=>Vg) λr=>[Xw r.1 r.2.1 1 2 3 r.2.2.2.2,some (2,map (F5 (λx=>iA x)) r.2.2.1),some (2,map (F5 (λx=>.agg (zn x))) r.2.2.2.1),sT r.2.2.2.2]) (z6 [0,1,2,3,4]) ?_ ?_ ?_
   .rintro⟨q,H,B⟩ r h;refine A ?_;apply ze;apply Xa h y<;>intro K h
    .apply zc;refine zY (X:=(List (T0×zy))×T1) (λz=>[(0,.ipt 2 [[cL a.l,mI a.at_]] 0 0),(3,Vg),(5,sA d),(16,.msl 4 0 (length c)),(17,iA ((length c):Int)),(18,iA i),(44,.isl 3 (map zv j.1.Fields)),(45,iA (length j.1.Fields:Int)),(46,iA B)]) (λz=>[Xw a.l a.at_ 1 2 3 z.2,some (2,map (F5 (λx=>iA x)) p),some (2,map (F5 (λx=>.agg (zn x))) z.1),sT z.2,sT c]) (λz=>Tm B z.1 z.2=some r) ?_ ?_
     .apply zg;obtain⟨M,S,h⟩:=bs h;refine A ?_;refine A ?_;apply Xa h y<;>intro L h;.obtain⟨C,T,E,U,h⟩:=F6 h;refine Lc [(0,.ipt 2 [[cL a.l,mI a.at_]] 0 0),(3,Vg),(5,sA d),(9,Vl),(16,.msl 5 0 (length c)),(17,iA ((length c):Int)),(18,iA i),(44,.isl 3 (map zv j.1.Fields)),(45,iA (length j.1.Fields:Int)),(46,iA B)] [Xw a.l a.at_ 1 2 3 H,some (2,map (F5 (λx=>iA x)) p),some (2,map (F5 (λx=>.agg (zn x))) (XO C (zy.mk E 0) q)),sT H,some (3,[(zv M)]),sT c] [12] Y4 [(63,_),(62,_),(61,_),(60,_),(59,_),(58,_),(57,_),(56,_),(55,_),(54,_),(53,_),(52,_)] 1 (Xd (z:=by exact⟨(λ_ _=>⟨_,y,y,MK (v:=(zy.mk E 0)) (g:=(λx=>.agg (zn x))) (l:=q) (s:=C) y y y y y y<|⟨.any,[],[],y,y,y,t,Xg (z:=z6 [0,1,2,3,5,4])⟩⟩),t⟩)) ?_;obtain⟨N,V,F,O,h⟩:=F6 h;refine XA [(0,.ipt 2 [[cL a.l,mI a.at_]] 0 0),(3,Vg),(5,sA d),(16,.msl 4 0 (length c)),(17,iA ((length c):Int)),(18,iA i),(44,.isl 3 (map zv j.1.Fields)),(45,iA (length j.1.Fields:Int)),(46,iA B)] [Xw a.l a.at_ 1 2 3 F,some (2,map (F5 (λx=>iA x)) p),some (2,map (F5 (λx=>.agg (zn x))) (XO C (zy.mk E 0) q)),sT F,sT c] [9,10,13] Y1 [(72,_),(71,_),(70,_),(69,_),(68,_),(67,_),(66,_),(65,_),(64,_)] 3 (Xd (z:=by exact⟨(λ_ _=>⟨_,y,y,bl 6 ti y ti y YB YB y y y<|⟨(.msl 6 0 1),[],[(73,_)],y,y,y,y,Xd (z:=by exact⟨nv,(λ_ _=>⟨_,y,y,Lo 7 ti y ti y y YB ti y y y y (Lx (f:=Xe) (z:=[N]) y y) (λ_=>y) y O<|⟨(.msl 7 0 (length F)),[11,12],[(76,_),(75,_),(74,_)],y,y,y,y,Xd (z:=by exact⟨nv,nv,(λ_ _=>⟨_,y,y,La ti y y y<|⟨.any,[],[],y,y,y,t,Xg (z:=z6 [0,1,2,7,5])⟩⟩),t⟩)⟩⟩),nw,t⟩)⟩⟩),nw,nw,t⟩)) ?_;exact⟨⟨(XO C (zy.mk E 0) q),F⟩,h,zl [0,1,2,3,4]⟩
      apply zc;exact⟨⟨q,H⟩,h,zl [0,1,2,3,4]⟩
     rintro⟨W,Y⟩ h;refine A ?_;cases h;exact⟨_,y,zl [0,1,2,3,4]⟩
    apply zr;cases h;exact⟨y,_,y,zl [0,1,2,3,4]⟩
   .rintro⟨Z,v61⟩ rfl;refine zm<|A ?_;cases h;exact⟨_,y,zl [0,1,2,3,4]⟩
   rintro r' rfl env st hp;cases h;exact⟨_,y,hp⟩
  exact Mg
 rintro⟨v62,v63,v64⟩ rfl;refine zm<|A ?_;exact Nw
variable {r:(Vr)×T2×T2×(List (T0×zy))×T1}{m:List (T0×zy)}{G:T2}
def nl:Option (T0×Int):=some ([],2)
def nk(c:T2)(d:T1)(a:Int):zL (Int) (Unit) (T0×Int):=cond (decide (0<=a)) ((idx d a).bind λb=>cond (((Option.getD (XE b c) 0)==0)||((Option.getD (XE b c) 0)==3)) ((idx d a).bind λe=>some (.inr (.inr (e,(Option.getD (XE b c) 0))))) (some (.inl (i64.wrap (a-1))))) (some (.inr (.inl ())))
def Ag(c:Vr)(d:T2)(e:T2)(i:List (T0×zy))(j:T1)(f:T0):Option (T0×Int):=(Kz c d f).bind λa=>(zk (λz=>nk e a z) (i64.wrap (((length a):Int)-1))).bind λo=>zE o (λb=>nl) some
theorem gn{f:T0}{r:T0×Int}(h:Ag a e G m d f=some r):VE 25 [Vg,sA f] [.one 4 [.ipt 2 [[cL a,mI e]] 0 0,.mmp 1,.mmp 2,.msl 3 0 (length d)],.many 2 (map (F5 (λx=>iA x)) G),.many 2 (map (F5 (λx=>.agg (zn x))) m),.many 1 (map Xe d)] (.tup [sA r.1,iA r.2]) [.one 4 [.ipt 2 [[cL a,mI e]] 0 0,.mmp 1,.mmp 2,.msl 3 0 (length d)],.many 2 (map (F5 (λx=>iA x)) G),.many 2 (map (F5 (λx=>.agg (zn x))) m),.many 1 (map Xe d)]:=by
 refine⟨⟨t,Xo (sz:=2) (λ_=>y),Xo (sz:=2) (λ_=>y),Xo (sz:=1) (λ_=>y),t⟩,zK func25 y kz y ?_⟩;refine A ?_;refine ze<|A ?_;refine UC y (λhx=>by cases hx) (λ_=>?_);apply zc;obtain⟨c,n,h⟩:=bs h;refine A ?_;refine u<|sx [] (GM n)<|zw (VC:=[(0,Vg),(16,.msl 4 0 (length c))]) (VJ:=[Xw a e 1 2 3 d,some (2,map (F5 (λx=>iA x)) G),some (2,map (F5 (λx=>.agg (zn x))) m),sT d,sT c]) (zl [0,1,2,3,4])<|A ?_;refine ze<|A ?_;obtain⟨o,ho,h⟩:=bs h;refine F7 ho (λz=>[(0,Vg),(6,.msl 4 0 (length c)),(7,iA z)]) (λz=>[Xw a e 1 2 3 d,some (2,map (F5 (λx=>iA x)) G),some (2,map (F5 (λx=>.agg (zn x))) m),sT d,sT c]) (λb=>[]) (λb=>[Xw a e 1 2 3 d,some (2,map (F5 (λx=>iA x)) G),some (2,map (F5 (λx=>.agg (zn x))) m),sT d]) (λr env st=>Uy prog f25 4 (.tup [sA r.1,iA r.2]) [Xw a e 1 2 3 d,some (2,map (F5 (λx=>iA x)) G),some (2,map (F5 (λx=>.agg (zn x))) m),sT d] env st) (z6 [0,1,2,3,4]) ?_ ?_
 .rintro p r h;refine ze<|A ?_;apply Xa h y<;>intro j h
  .refine zc<|ze<|zg ?_;obtain⟨q,B,h⟩:=bs h;refine Lc [(0,_),(6,_),(7,_),(8,_)] [Xw a e 1 2 3 d,some (2,map (F5 (λx=>iA x)) G),some (2,map (F5 (λx=>.agg (zn x))) m),sT d,sT c] [] Va [(8,_),(32,_),(31,_),(30,_),(29,_),(28,_),(27,_),(26,_),(25,_),(24,_)] 0 (Xg ⟨F1,F1,F1,F1,F1,F1,F1,F1,(by exact pb y (CG (g:=(λx=>iA x)) (z:=0) (l:=G) y ti y y y y<|w)),F1,t⟩ (z6 [0,1,2,3,4])) ?_;refine A ?_;apply Xa h y<;>intro i h
   .obtain⟨s,v,h⟩:=bs h;refine A ?_;apply zA;cases h;exact⟨_,y,_,y,Xb [0,1,2,3]⟩
   refine zc<|A ?_;cases h;exact⟨_,y,zl [0,1,2,3,4]⟩
  exact Mg
 rintro⟨⟩ rfl;refine zm<|A ?_;exact Nw
def Kh(d:Vr)(e:T2)(a:T2)(f:List (T0×zy))(i:T1)(c:T0)(b:Int):T2:=cond ((decide (b<0))||(decide (3<b))) (a) (cond (Option.isSome (XE c a)) ((XO c b a)) (a))
theorem Ap(a:Vr)(e:T2)(G:T2)(m:List (T0×zy))(d:T1)(f:T0)(i:Int){r:T2}(h:Kh a e G m d f i=r):VE 24 [Vg,sA f,iA i] [.one 4 [.ipt 2 [[cL a,mI e]] 0 0,.mmp 1,.mmp 2,.msl 3 0 (length d)],.many 2 (map (F5 (λx=>iA x)) G),.many 2 (map (F5 (λx=>.agg (zn x))) m),.many 1 (map Xe d)] (.tup []) [.one 4 [.ipt 2 [[cL a,mI e]] 0 0,.mmp 1,.mmp 2,.msl 3 0 (length d)],.many 2 (map (F5 (λx=>iA x)) r),.many 2 (map (F5 (λx=>.agg (zn x))) m),.many 1 (map Xe d)]:=by
 refine⟨⟨t,Xo (sz:=2) (λ_=>y),Xo (sz:=2) (λ_=>y),Xo (sz:=1) (λ_=>y),t⟩,zK func24 y kz y ?_⟩;apply ze;refine rg y<|u<|mv y<|u<|xt ti y y y y y y<|u<|mv y<|g y y<|mv y<|g y y<|lss ti y y<|u<|pk (b:=false) y y<|u<|mv y<|Uj (j:=6) 2 y y y y y Lr (λc=>g y c<|mv y<|g y c<|gtr ti y y<|zx (MC [15,16] 2 c y y y y)) Mq<|zx ?_;apply Xa h y<;>intro n h
 .apply zA;obtain rfl:=h;exact⟨_,y,Xb [0,1,2,3]⟩
 refine zc<|A ?_;refine u<|RA (g:=(λx=>iA x)) (z:=0) (l:=G) y ti y y y y<|A ?_;refine A ?_;apply Xa h y<;>intro o h
 .refine A ?_;refine u<|MK (v:=i) (g:=(λx=>iA x)) (l:=G) (s:=f) y y y y y y<|zx ?_;obtain rfl:=h;exact⟨_,y,Xb [0,1,2,3]⟩
 apply zc;obtain rfl:=h;exact⟨_,y,Xb [0,1,2,3]⟩
def PL(e:Vr)(f:T2)(i:T2)(a:List (T0×zy))(j:T1)(c:T0)(d:T0):Option (zy×Bool):=(Bs c d).bind λb=>some ((Option.getD (XE b a) (zy.mk false 0)),(Option.isSome (XE b a)))
theorem Aq{r:zy×Bool}(h:PL a e G m d b n=some r):VE 94 [Vg,sA b,sA n] [.one 4 [.ipt 2 [[cL a,mI e]] 0 0,.mmp 1,.mmp 2,.msl 3 0 (length d)],.many 2 (map (F5 (λx=>iA x)) G),.many 2 (map (F5 (λx=>.agg (zn x))) m),.many 1 (map Xe d)] (.tup [.agg (zn r.1),bA r.2]) [.one 4 [.ipt 2 [[cL a,mI e]] 0 0,.mmp 1,.mmp 2,.msl 3 0 (length d)],.many 2 (map (F5 (λx=>iA x)) G),.many 2 (map (F5 (λx=>.agg (zn x))) m),.many 1 (map Xe d)]:=by refine⟨⟨t,Xo (sz:=2) (λ_=>y),Xo (sz:=2) (λ_=>y),Xo (sz:=1) (λ_=>y),t⟩,zK func94 y kz y ?_⟩;refine A ?_;refine ze<|A ?_;refine UC y (λhx=>by cases hx) (λ_=>?_);apply zc;obtain⟨c,f,h⟩:=bs h;refine Lc [(6,_),(8,_),(9,_)] [Xw a e 1 2 3 d,some (2,map (F5 (λx=>iA x)) G),some (2,map (F5 (λx=>.agg (zn x))) m),sT d,some (2,[[bA false,.lit (.int .i32 0)]]),some (2,[[bA ((Option.getD (XE c m) (zy.mk false 0)).Ref),.lit (.int .i32 ((Option.getD (XE c m) (zy.mk false 0)).N))]])] [11,12] Y0 [(23,_),(22,_),(13,_),(21,_),(20,_),(19,_),(18,_),(17,_),(16,_),(15,_),(14,_)] 2 (Xd ⟨F1,F1,F1,F1,F1,F1,F1,(by exact pb y (RA (g:=(λx=>.agg (zn x))) (z:=(zy.mk false 0)) (l:=m) y ti y y y y<|w)),F1,F1,F1,t⟩ (by exact⟨(λ_ _=>⟨_,y,y,al 5 ti y<|⟨(Vm),[],[(8,_)],y,y,y,y,Xd ⟨F1,F1,F1,F1,F1,F1,F1,(by exact pb y (RA (g:=(λx=>.agg (zn x))) (z:=(zy.mk false 0)) (l:=m) y ti y y y y<|w)),F1,F1,F1,t⟩ (by exact⟨nv,(λ_ _=>⟨_,y,y,La ti y y y<|⟨.any,[13],[(9,_)],y,y,y,t,Xg (z:=z6 [0,1,2,3,4,5])⟩⟩),t⟩)⟩⟩),nw,t⟩)) ?_;refine A ?_;exact Nw
def T4(i:Vr)(j:T2)(l:T2)(a:List (T0×zy))(m:T1)(b:T0)(c:T0)(d:zy):Option (Bool×(List (T0×zy))):=(PL i j l a m b c).bind λe=>cond ((!e.2)||(!(e.1.Ref==d.Ref))) (some (false,a)) ((Bs b c).bind λf=>some (true,(XO f d a)))
theorem gh{c:zy}{r:Bool×(List (T0×zy))}(h:T4 a e G m d b n c=some r):VE 29 [Vg,sA b,sA n,.agg (zn c)] [.one 4 [.ipt 2 [[cL a,mI e]] 0 0,.mmp 1,.mmp 2,.msl 3 0 (length d)],.many 2 (map (F5 (λx=>iA x)) G),.many 2 (map (F5 (λx=>.agg (zn x))) m),.many 1 (map Xe d)] (bA r.1) [.one 4 [.ipt 2 [[cL a,mI e]] 0 0,.mmp 1,.mmp 2,.msl 3 0 (length d)],.many 2 (map (F5 (λx=>iA x)) G),.many 2 (map (F5 (λx=>.agg (zn x))) r.2),.many 1 (map Xe d)]:=by
 refine⟨⟨t,Xo (sz:=2) (λ_=>y),Xo (sz:=2) (λ_=>y),Xo (sz:=1) (λ_=>y),t⟩,zK func29 y kz y ?_⟩;refine A ?_;apply ze;obtain⟨i,o,h⟩:=bs h;refine A ?_;refine u<|sx [0,1,2,3] (Aq o)<|zw (VC:=[(0,Vg),(1,sA b),(2,sA n),(7,Vl),(15,.tup [.agg (zn i.1),bA i.2])]) (VJ:=[Xw a e 1 2 3 d,some (2,map (F5 (λx=>iA x)) G),some (2,map (F5 (λx=>.agg (zn x))) m),sT d,some (2,[(zn c)])]) (zl [0,1,2,3,4])<|A ?_;refine A ?_;apply Xa h y<;>intro j h
 .refine A ?_;exact Nw
 apply zc;obtain⟨f,p,h⟩:=bs h;refine Lc [] [Xw a e 1 2 3 d,some (2,map (F5 (λx=>iA x)) G),some (2,map (F5 (λx=>.agg (zn x))) (XO f c m)),sT d] [8] YU [(34,_),(33,_),(32,_),(31,_),(30,_),(29,_),(28,_),(27,_)] 1 (Xd (z:=by exact⟨(λ_ _=>⟨_,y,y,MK (v:=c) (g:=(λx=>.agg (zn x))) (l:=m) (s:=f) y y y y y y<|⟨.any,[],[],y,y,y,t,Xg (z:=z6 [0,1,2,3])⟩⟩),t⟩)) ?_;refine A ?_;exact Nw
theorem zCY(e:T2){r:Unit}(_:()=r):VE 115 [.mmp 0] [.many 2 (map (F5 (λx=>iA x)) e)] (.mmp 1) [.many 2 (map (F5 (λx=>iA x)) e),.many 2 (map (F5 (λx=>iA x)) e)]:=⟨⟨Xo (sz:=2) (λ_=>y),Xo (sz:=2) (λ_=>y),t⟩,sj _⟩
theorem zCZ(m:List (T0×zy)){r:Unit}(_:()=r):VE 116 [.mmp 0] [.many 2 (map (F5 (λx=>.agg (zn x))) m)] (.mmp 1) [.many 2 (map (F5 (λx=>.agg (zn x))) m),.many 2 (map (F5 (λx=>.agg (zn x))) m)]:=⟨⟨Xo (sz:=2) (λ_=>y),Xo (sz:=2) (λ_=>y),t⟩,sh _⟩
def kY(a:Vr)(b:T2)(c:T2)(d:List (T0×zy))(e:T1):(Vr)×T2×T2×(List (T0×zy))×T1:=(a,b,c,d,e)
theorem np(a:Vr)(e:T2)(G:T2)(m:List (T0×zy))(d:T1)(h:kY a e G m d=r):VE 33 [Vg] [.one 4 [.ipt 2 [[cL a,mI e]] 0 0,.mmp 1,.mmp 2,.msl 3 0 (length d)],.many 2 (map (F5 (λx=>iA x)) G),.many 2 (map (F5 (λx=>.agg (zn x))) m),.many 1 (map Xe d)] (Vl) [.one 4 [.ipt 2 [[cL a,mI e]] 0 0,.mmp 1,.mmp 2,.msl 3 0 (length r.2.2.2.2)],.many 2 (map (F5 (λx=>iA x)) G),.many 2 (map (F5 (λx=>.agg (zn x))) m),.many 1 (map Xe r.2.2.2.2),.one 4 [.ipt 2 [[cL r.1,mI r.2.1]] 0 0,.mmp 5,.mmp 6,.msl 3 0 (length r.2.2.2.2)],.many 2 (map (F5 (λx=>iA x)) r.2.2.1),.many 2 (map (F5 (λx=>.agg (zn x))) r.2.2.2.1)]:=by refine⟨⟨t,Xo (sz:=2) (λ_=>y),Xo (sz:=2) (λ_=>y),Xo (sz:=1) (λ_=>y),t,Xo (sz:=2) (λ_=>y),Xo (sz:=2) (λ_=>y),t⟩,zK func33 y kz y ?_⟩;unfold kY at h;refine A ?_;refine ze<|A ?_;refine UC y (λhx=>by cases hx) (λ_=>?_);apply zc;refine Lc [(2,Vl)] [Xw a e 1 2 3 d,some (2,map (F5 (λx=>iA x)) G),some (2,map (F5 (λx=>.agg (zn x))) m),sT d,Xw a e 5 6 3 d,some (2,map (F5 (λx=>iA x)) G),some (2,map (F5 (λx=>.agg (zn x))) m)] [8,13,19] [0,1,2,3,4,5,6,7,9,10,11,12,14,15,16,17] [(22,_),(21,_),(20,_),(19,_),(17,_),(16,_),(15,_),(14,_),(12,_),(11,_),(10,_),(9,_),(8,_),(7,_),(6,_),(5,_)] 3 (Xd (z:=by exact⟨(λ_ _=>⟨_,y,y,sx [1] (zCY G y)<|⟨(.mmp 4),[],[(13,_)],y,y,y,y,Xd (z:=by exact⟨nv,(λ_ _=>⟨_,y,y,sx [2] (zCZ m y)<|⟨(.mmp 5),[18],[(23,_),(18,_)],y,y,y,y,Xd (z:=by exact⟨nv,nv,(λ_ _=>⟨_,y,y,bx 6 4 y y y y<|⟨(Vn),[20],[(2,_),(24,_)],y,y,y,y,Xg (z:=z6 [0,1,2,3,6,4,5])⟩⟩),t⟩)⟩⟩),nw,t⟩)⟩⟩),nw,nw,t⟩)) ?_;apply zA;obtain rfl:=h;exact⟨_,y,Xb [0,1,2,3,4,5,6]⟩
def S1:Bool:=true
theorem o0{r:Bool}(h:S1=r):VD 95 [] (bA r):=by refine zi func95 y kz y y ?_;unfold S1 at h;refine A ?_;refine rg y<|u<|pc (lT y) y y y<|u<|Lw y<|zx ?_;apply zA;obtain rfl:=h;exact⟨_,y,Xb []⟩
instance:VF 95 [] (some (S1)) bA:=.of λ_=>o0 
def Tl:Bool:=true
theorem ep{r:Bool}(h:Tl=r):VD 96 [] (bA r):=by refine zi func96 y kz y y ?_;unfold Tl at h;refine A ?_;refine rg y<|u<|pc (ms y) y y y<|u<|Lw y<|zx ?_;apply zA;obtain rfl:=h;exact⟨_,y,Xb []⟩
instance:VF 96 [] (some (Tl)) bA:=.of λ_=>ep 
def TH(c:Vr)(d:T2)(a:T2)(e:List (T0×zy))(f:T1)(b:T0):Int:=(Option.getD (XE b a) 0)
theorem e9(a:Vr)(e:T2)(G:T2)(m:List (T0×zy))(d:T1)(b:T0){r:Int}(h:TH a e G m d b=r):VE 97 [Vg,sA b] [.one 4 [.ipt 2 [[cL a,mI e]] 0 0,.mmp 1,.mmp 2,.msl 3 0 (length d)],.many 2 (map (F5 (λx=>iA x)) G),.many 2 (map (F5 (λx=>.agg (zn x))) m),.many 1 (map Xe d)] (iA r) [.one 4 [.ipt 2 [[cL a,mI e]] 0 0,.mmp 1,.mmp 2,.msl 3 0 (length d)],.many 2 (map (F5 (λx=>iA x)) G),.many 2 (map (F5 (λx=>.agg (zn x))) m),.many 1 (map Xe d)]:=by refine⟨⟨t,Xo (sz:=2) (λ_=>y),Xo (sz:=2) (λ_=>y),Xo (sz:=1) (λ_=>y),t⟩,zK func97 y kz y ?_⟩;unfold TH at h;refine A ?_;refine ze<|A ?_;refine UC y (λhx=>by cases hx) (λ_=>?_);refine zc<|A ?_;refine u<|CG (g:=(λx=>iA x)) (z:=0) (l:=G) y ti y y y y<|A ?_;apply zA;obtain rfl:=h;exact⟨_,y,Xb [0,1,2,3]⟩
abbrev ZD(v:(Vr)×T2×T2×(List (T0×zy))×T1):T2:=Kh v.1 v.2.1 (Kh v.1 v.2.1 v.2.2.1 v.2.2.2.1 v.2.2.2.2 [65,97] 2) v.2.2.2.1 v.2.2.2.2 [65,97] 3
abbrev Zk(v:(Vr)×T2×T2×(List (T0×zy))×T1)(w:List (T0×zy)):(Vr)×T2×T2×(List (T0×zy))×T1:=kY v.1 v.2.1 (ZD v) w v.2.2.2.2
def uQ:Option (Bool):=(Wb Km).bind λd=>cond (!(d.2==0)) (some false) ((Bt d.1).bind λa=>(Ag a.1 a.2.1 a.2.2.1 a.2.2.2.1 a.2.2.2.2 [66,98]).bind λe=>(Ag a.1 a.2.1 (Kh a.1 a.2.1 a.2.2.1 a.2.2.2.1 a.2.2.2.2 [65,97] 2) a.2.2.2.1 a.2.2.2.2 [66,98]).bind λm=>(Ag a.1 a.2.1 (ZD a) a.2.2.2.1 a.2.2.2.2 [66,98]).bind λf=>(PL a.1 a.2.1 (ZD a) a.2.2.2.1 a.2.2.2.2 [65,97] [115]).bind λi=>(PL a.1 a.2.1 (ZD a) a.2.2.2.1 a.2.2.2.2 [66,98] [115]).bind λn=>(T4 a.1 a.2.1 (ZD a) a.2.2.2.1 a.2.2.2.2 [65,97] [115] (zy.mk false 4)).bind λj=>(T4 a.1 a.2.1 (ZD a) j.2 a.2.2.2.2 [65,97] [115] (zy.mk true 0)).bind λb=>(T4 a.1 a.2.1 (ZD a) b.2 ((Zk a b.2).2.2.2.2) [65,97] [115] (zy.mk false 5)).bind λc=>(PL ((Zk a b.2).1) ((Zk a b.2).2.1) ((Zk a b.2).2.2.1) ((Zk a b.2).2.2.2.1) ((Zk a b.2).2.2.2.2) [65,97] [115]).bind λl=>some (((((((((((((((S1)&&(Tl))&&(e.1==[65,97]))&&(e.2==0))&&(m.1==[66,98]))&&(f.1==[65,97]))&&(f.2==3))&&i.2)&&(i.1.N==0))&&(!n.2))&&j.1)&&(!b.1))&&(l.1.N==4))&&((TH a.1 a.2.1 (ZD a) c.2 ((Zk a b.2).2.2.2.2) [79,98,106,101,99,116])==2))&&((TH a.1 a.2.1 (ZD a) c.2 ((Zk a b.2).2.2.2.2) [90,122])==0)))
theorem mr{r:Bool}(h:uQ=some r):VD 20 [] (bA r):=by
 refine zi func20 y kz y y<|A ?_;obtain⟨O,P,h⟩:=bs h;refine rg y<|u<|sx [] (Wj y)<|zw (VC:=[(20,.isl 6 (map zf Km))]) (VJ:=[]) (zl [])<|u<|pc (Ta Km P) y y y<|A ?_;refine ze<|A ?_;apply Xa h y<;>intro K h
 .refine A ?_;exact F4
 apply zc;obtain⟨a,Q,h⟩:=bs h;refine rg y<|u<|mv y<|u<|sc [] (u7 Q) y y y y ⟨(Ln (Zo (λ_=>y))),t⟩ t<|zw (VC:=[(27,Vg)]) (VJ:=[Xw a.1 a.2.1 1 2 3 a.2.2.2.2,some (2,map (F5 (λx=>iA x)) a.2.2.1),some (2,map (F5 (λx=>.agg (zn x))) a.2.2.2.1),sT a.2.2.2.2]) (zl [0,1,2,3])<|A ?_;obtain⟨c,R,h⟩:=bs h;refine rg y<|u<|mv y<|u<|sx [0,1,2,3] (gn R)<|zw (VC:=[(3,Vg),(30,.tup [sA c.1,iA c.2])]) (VJ:=[Xw a.1 a.2.1 1 2 3 a.2.2.2.2,some (2,map (F5 (λx=>iA x)) a.2.2.1),some (2,map (F5 (λx=>.agg (zn x))) a.2.2.2.1),sT a.2.2.2.2]) (zl [0,1,2,3])<|A ?_;refine rg y<|u<|mv y<|u<|sx [0,1,2,3] (Ap a.1 a.2.1 a.2.2.1 a.2.2.2.1 a.2.2.2.2 [65,97] 2 y)<|zw (VC:=[(3,Vg),(4,sA c.1),(5,iA c.2)]) (VJ:=[Xw a.1 a.2.1 1 2 3 a.2.2.2.2,some (2,map (F5 (λx=>iA x)) (Kh a.1 a.2.1 a.2.2.1 a.2.2.2.1 a.2.2.2.2 [65,97] 2)),some (2,map (F5 (λx=>.agg (zn x))) a.2.2.2.1),sT a.2.2.2.2]) (zl [0,1,2,3])<|zx ?_;obtain⟨f,S,h⟩:=bs h;refine rg y<|u<|mv y<|u<|sx [0,1,2,3] (gn S)<|zw (VC:=[(3,Vg),(4,sA c.1),(5,iA c.2),(37,.tup [sA f.1,iA f.2])]) (VJ:=[Xw a.1 a.2.1 1 2 3 a.2.2.2.2,some (2,map (F5 (λx=>iA x)) (Kh a.1 a.2.1 a.2.2.1 a.2.2.2.1 a.2.2.2.2 [65,97] 2)),some (2,map (F5 (λx=>.agg (zn x))) a.2.2.2.1),sT a.2.2.2.2]) (zl [0,1,2,3])<|A ?_;refine rg y<|u<|mv y<|u<|sx [0,1,2,3] (Ap a.1 a.2.1 (Kh a.1 a.2.1 a.2.2.1 a.2.2.2.1 a.2.2.2.2 [65,97] 2) a.2.2.2.1 a.2.2.2.2 [65,97] 3 y)<|zw (VC:=[(3,Vg),(4,sA c.1),(5,iA c.2),(6,sA f.1)]) (VJ:=[Xw a.1 a.2.1 1 2 3 a.2.2.2.2,some (2,map (F5 (λx=>iA x)) (ZD a)),some (2,map (F5 (λx=>.agg (zn x))) a.2.2.2.1),sT a.2.2.2.2]) (zl [0,1,2,3])<|zx ?_;obtain⟨d,T,h⟩:=bs h;refine rg y<|u<|mv y<|u<|sx [0,1,2,3] (gn T)<|zw (VC:=[(3,Vg),(4,sA c.1),(5,iA c.2),(6,sA f.1),(44,.tup [sA d.1,iA d.2])]) (VJ:=[Xw a.1 a.2.1 1 2 3 a.2.2.2.2,some (2,map (F5 (λx=>iA x)) (ZD a)),some (2,map (F5 (λx=>.agg (zn x))) a.2.2.2.1),sT a.2.2.2.2]) (zl [0,1,2,3])<|A ?_;obtain⟨e,U,h⟩:=bs h;refine rg y<|u<|mv y<|u<|sx [0,1,2,3] (Aq U)<|zw (VC:=[(3,Vg),(4,sA c.1),(5,iA c.2),(6,sA f.1),(8,sA d.1),(9,iA d.2),(49,.tup [.agg (zn e.1),bA e.2])]) (VJ:=[Xw a.1 a.2.1 1 2 3 a.2.2.2.2,some (2,map (F5 (λx=>iA x)) (ZD a)),some (2,map (F5 (λx=>.agg (zn x))) a.2.2.2.1),sT a.2.2.2.2]) (zl [0,1,2,3])<|A ?_;obtain⟨o,V,h⟩:=bs h;refine rg y<|u<|mv y<|u<|sx [0,1,2,3] (Aq V)<|zw (VC:=[(3,Vg),(4,sA c.1),(5,iA c.2),(6,sA f.1),(8,sA d.1),(9,iA d.2),(10,Vl),(11,bA e.2),(54,.tup [.agg (zn o.1),bA o.2])]) (VJ:=[Xw a.1 a.2.1 1 2 3 a.2.2.2.2,some (2,map (F5 (λx=>iA x)) (ZD a)),some (2,map (F5 (λx=>.agg (zn x))) a.2.2.2.1),sT a.2.2.2.2,some (2,[(zn e.1)])]) (zl [0,1,2,3,4])<|A ?_;obtain⟨p,W,b,L,h⟩:=F6 h;refine A ?_;refine u<|sx [0,1,2,3] (gh W)<|zw (VC:=[(3,Vg),(4,sA c.1),(5,iA c.2),(6,sA f.1),(8,sA d.1),(9,iA d.2),(10,Vl),(11,bA e.2),(13,bA o.2),(59,bA p.1)]) (VJ:=[Xw a.1 a.2.1 1 2 3 a.2.2.2.2,some (2,map (F5 (λx=>iA x)) (ZD a)),some (2,map (F5 (λx=>.agg (zn x))) p.2),sT a.2.2.2.2,some (2,[(zn e.1)])]) (zl [0,1,2,3,4])<|A ?_;refine u<|sx [0,1,2,3] (gh L)<|zw (VC:=[(3,Vg),(4,sA c.1),(5,iA c.2),(6,sA f.1),(8,sA d.1),(9,iA d.2),(10,Vl),(11,bA e.2),(13,bA o.2),(59,bA p.1),(62,bA b.1)]) (VJ:=[Xw a.1 a.2.1 1 2 3 a.2.2.2.2,some (2,map (F5 (λx=>iA x)) (ZD a)),some (2,map (F5 (λx=>.agg (zn x))) b.2),sT a.2.2.2.2,some (2,[(zn e.1)])]) (zl [0,1,2,3,4])<|A ?_;refine rg y<|u<|mv y<|u<|sx [0,1,2,3] (np a.1 a.2.1 (ZD a) b.2 a.2.2.2.2 y)<|zw (VC:=[(3,Vg),(4,sA c.1),(5,iA c.2),(6,sA f.1),(8,sA d.1),(9,iA d.2),(10,Vl),(11,bA e.2),(13,bA o.2),(14,bA p.1),(15,bA b.1),(64,Vm)]) (VJ:=[some (4,[[.ipt 2 [[cL a.1,mI a.2.1]] 0 0,.mmp 1,.mmp 2,.msl 3 0 (length ((Zk a b.2).2.2.2.2))]]),some (2,map (F5 (λx=>iA x)) (ZD a)),some (2,map (F5 (λx=>.agg (zn x))) b.2),some (1,map Xe ((Zk a b.2).2.2.2.2)),some (2,[(zn e.1)]),some (4,[[.ipt 2 [[.isl 6 (map zf ((Zk a b.2).1)),.imp (map (F5 (λx=>iA x)) ((Zk a b.2).2.1))]] 0 0,.mmp 6,.mmp 7,.msl 3 0 (length ((Zk a b.2).2.2.2.2))]]),some (2,map (F5 (λx=>iA x)) ((Zk a b.2).2.2.1)),some (2,map (F5 (λx=>.agg (zn x))) ((Zk a b.2).2.2.2.1))]) ⟨[0,1,2,3,4,5,6,7],cv y (.mpt y)<|ce y y<|ce y y<|ce y y<|ce y y<|ce y y<|cv y (.mpt y)<|ce y y<|ce y y<|ce y y<|ce y y<|cv y (.mpt y)<|cn,y,⟨⟨_,y,XN ⟨ci y,.mmp y,.mmp y,HX (by simp) y,t⟩⟩,⟨_,y,XL (λ_=>y)⟩,⟨_,y,XL (λ_=>y)⟩,⟨_,y,XL (λ_=>y)⟩,⟨_,y,XN (LO y)⟩,⟨_,y,XN ⟨ci y,.mmp y,.mmp y,HX (by simp) y,t⟩⟩,⟨_,y,XL (λ_=>y)⟩,⟨_,y,XL (λ_=>y)⟩,t⟩,y,k⟩<|A ?_;obtain⟨F,M,h⟩:=bs h;refine A ?_;refine u<|sx [0,1,2,3] (gh M)<|zw (VC:=[(3,Vg),(4,sA c.1),(5,iA c.2),(6,sA f.1),(8,sA d.1),(9,iA d.2),(10,Vl),(11,bA e.2),(13,bA o.2),(14,bA p.1),(15,bA b.1),(16,Vm)]) (VJ:=[some (4,[[.ipt 2 [[cL a.1,mI a.2.1]] 0 0,.mmp 1,.mmp 2,.msl 3 0 (length ((Zk a b.2).2.2.2.2))]]),some (2,map (F5 (λx=>iA x)) (ZD a)),some (2,map (F5 (λx=>.agg (zn x))) F.2),some (1,map Xe ((Zk a b.2).2.2.2.2)),some (2,[(zn e.1)]),some (4,[[.ipt 2 [[.isl 6 (map zf ((Zk a b.2).1)),.imp (map (F5 (λx=>iA x)) ((Zk a b.2).2.1))]] 0 0,.mmp 6,.mmp 7,.msl 3 0 (length ((Zk a b.2).2.2.2.2))]]),some (2,map (F5 (λx=>iA x)) ((Zk a b.2).2.2.1)),some (2,map (F5 (λx=>.agg (zn x))) ((Zk a b.2).2.2.2.1))]) (zl [0,1,2,3,4,5,6,7])<|zx ?_;obtain⟨J,N,h⟩:=bs h;refine rg y<|u<|mv y<|u<|sx [5,6,7,3] (Aq N)<|zw (VC:=[(3,Vg),(4,sA c.1),(5,iA c.2),(6,sA f.1),(8,sA d.1),(9,iA d.2),(10,Vl),(11,bA e.2),(13,bA o.2),(14,bA p.1),(15,bA b.1),(70,.tup [.agg (zn J.1),bA J.2])]) (VJ:=[some (4,[[.ipt 2 [[cL a.1,mI a.2.1]] 0 0,.mmp 1,.mmp 2,.msl 3 0 (length ((Zk a b.2).2.2.2.2))]]),some (2,map (F5 (λx=>iA x)) (ZD a)),some (2,map (F5 (λx=>.agg (zn x))) F.2),some (1,map Xe ((Zk a b.2).2.2.2.2)),some (2,[(zn e.1)])]) (zl [0,1,2,3,4])<|A ?_;refine rg y<|u<|pc (o0 y) y y y<|u<|mv y<|XV (j:=1) 1 y y y y y Lr (λG=>g y G<|pc (ep y) y y y<|zx (LY [75] 1 G y y y y)) Uu<|u<|mv y<|XV (j:=4) 2 y y y y y Lr (λq=>g y q<|mv y<|g y q<|seq ti y y<|zx (LY [78,79] 2 q y y y y)) Uu<|u<|mv y<|XV (j:=8) 2 y y y y y Lr (λs=>g y s<|mv y<|g y s<|eql ti y y<|zx (LY [82,83] 2 s y y y y)) Uu<|u<|mv y<|XV (j:=12) 2 y y y y y Lr (λv=>g y v<|mv y<|g y v<|seq ti y y<|zx (LY [86,87] 2 v y y y y)) Uu<|u<|mv y<|XV (j:=16) 2 y y y y y Lr (λB=>g y B<|mv y<|g y B<|seq ti y y<|zx (LY [90,91] 2 B y y y y)) Uu<|u<|mv y<|XV (j:=20) 2 y y y y y Lr (λC=>g y C<|mv y<|g y C<|eql ti y y<|zx (LY [94,95] 2 C y y y y)) Uu<|u<|mv y<|XV (j:=24) 1 y y y y y Lr (λH=>g y H<|mv y<|zx (LY [98] 1 H y y y y)) Uu<|u<|mv y<|XV (j:=27) 3 y y y y y Lr (λi=>g y i<|fa ti y y y<|g y i<|ld ti y y<|g y i<|eql ti y y<|zx (LY [101,102,103] 3 i y y y y)) Uu<|u<|mv y<|XV (j:=32) 2 y y y y y Lr (λD=>g y D<|mv y<|g y D<|nt y<|zx (LY [106,107] 2 D y y y y)) Uu<|u<|mv y<|XV (j:=36) 1 y y y y y Lr (λI=>g y I<|mv y<|zx (LY [110] 1 I y y y y)) Uu<|u<|mv y<|XV (j:=39) 2 y y y y y Lr (λE=>g y E<|mv y<|g y E<|nt y<|zx (LY [113,114] 2 E y y y y)) Uu<|u<|mv y<|XV (j:=43) 3 y y y y y Lr (λl=>g y l<|fa ti y y y<|g y l<|ld ti y y<|g y l<|eql ti y y<|zx (LY [117,118,119] 3 l y y y y)) Uu<|u<|mv y<|XV (j:=48) 3 y y y y y Lr (λm=>g y m<|mv y<|g y m<|sx [0,1,2,3] (e9 a.1 a.2.1 (ZD a) F.2 ((Zk a b.2).2.2.2.2) [79,98,106,101,99,116] y)<|g y m<|eql ti y y<|zx (LY [122,123,124] 3 m y y y y)) Uu<|u<|mv y<|XV (j:=53) 3 y y y y y Lr (λn=>g y n<|mv y<|g y n<|sx [0,1,2,3] (e9 a.1 a.2.1 (ZD a) F.2 ((Zk a b.2).2.2.2.2) [90,122] y)<|g y n<|eql ti y y<|zx (LY [127,128,129] 3 n y y y y)) Uu<|u<|Lw y<|zx ?_;exact F4
instance:VF 20 [] (uQ) bA:=⟨λ_=>mr ⟩

end
end Go.Proofs.YthmnlfenkhmmhaaGreat
