/- What the proofs of this seat's laws rest on: how the program's functions compute, each for every input. No further condition. Part 6 of 8. -/
import Derived.Test.YtjbdfkapnffjnaaGreatVf5
namespace Go.Proofs.YtjbdfkapnffjnaaGreat
noncomputable section
open List (length map)
set_option linter.unusedSimpArgs false
set_option linter.unusedVariables false
set_option maxRecDepth 100000
set_option maxHeartbeats 4000000
def zch(e:List za)(f:T0)(g:zc)(b:T1)(c:T1)(d:Bool):Option (T1×T1×Bool):=
  (zP e f g b c d [73]).bind fun a=>some (b,a.1,a.2)
def zm(c:List za)(d:T0)(e:zc)(b:T1)(f:T1)(g:Bool)(a:zp):Option (T1×T1×Bool):=
  cond ((decide (8≤a.Op))&&(decide (a.Op≤19))) ((zS c d e b f g ([[73]])).bind fun i=>cond (!(a.Op == (13:Int))) ((zS c d e b i.1 i.2 ([[73]])).bind fun o=>zch c d e b o.1 o.2) (zch c d e b i.1 i.2)) (cond ((decide (21≤a.Op))&&(decide (a.Op≤36))) ((zcP c d e b f g a).bind fun j=>some (b,j.1,j.2)) (cond (a.Op == (20:Int)) ((zdx c d e b f g a.A b f).bind fun p=>some (b,f,p)) (cond ((decide (37≤a.Op))&&(decide (a.Op≤41))) ((zcs c d e b f g a).bind fun l=>some (b,l.1,l.2)) (cond ((decide (42≤a.Op))&&(decide (a.Op≤45))) ((zdw c d e b f g a).bind fun m=>some (b,m.1,m.2)) (cond ((decide (49≤a.Op))&&(decide (a.Op≤55))) ((zaU c d e b f g a).bind fun n=>some (b,n.1,n.2)) ((zQ c d e b f g a).bind fun h=>some (h.1,h.2.1,h.2.2)))))))
theorem zlQ(a:List za)(b:T0)(c:zc)(d:T1)(e:T1)(i:Bool)(f:zp){r:T1×T1×Bool}(h:zm a b c d e i f=some r):SC Tryz.prog 131 [.mpt 0 0 0,.agg (zu f)] [.one 15 (rK a b c (.isl 1 (map zf d)) (.isl 1 (map zf e)) (bA i))] (.tup []) [.one 15 (rK a b c (.isl 1 (map zf r.1)) (.isl 1 (map zf r.2.1)) (bA r.2.2))]:=by
 refine ⟨⟨t,t⟩,zV Tryz.func131 y kz y ?_⟩
 unfold zm at h
 refine rg y<|u<|bx 1 4 y y y y<|zb ?_
 refine zs ?_
 refine rg y<|u<|fa ti y y y<|u<|ld ti y y<|u<|geq ti y y<|u<|mv y<|z7 (j:=3) 3 y y y y y gpn (fun x=>g y x<|fa ti y y y<|g y x<|ld ti y y<|g y x<|leq ti y y<|zb (egA [12,13,14] 3 x y y y y)) ze3<|u<|asg y<|zb ?_
 refine ze y (fun C=>?_) (fun C=>?_)
 ·
  replace h:=bT C h
  obtain ⟨o,U,h⟩:=bs h
  refine rg y<|u<|mv y<|u<|bl 2 ti y ti y (by decide) (by decide) y y y<|zx (env0:=[(0,.mpt 0 0 0),(3,.mpt 1 0 0),(16,.mpt 0 0 0),(17,.isl 1 (map zf ([[73]])))]) (st0:=[some (15,[(rK a b c (.isl 1 (map zf d)) (.isl 1 (map zf e)) (bA i))]),some (4,[(zu f)])]) (zo [.old 0,.old 1])<|u<|sx [0] (zZ a b c d e i ([[73]]) U)<|zx (env0:=[(0,.mpt 0 0 0),(3,.mpt 1 0 0)]) (st0:=[some (15,[(rK a b c (.isl 1 (map zf d)) (.isl 1 (map zf o.1)) (bA o.2))]),some (4,[(zu f)])]) (zo [.old 0,.old 1])<|zb ?_
  refine zaX (X:=T1×Bool) (fun z=>[(0,.mpt 0 0 0)]) (fun z=>[some (15,[(rK a b c (.isl 1 (map zf d)) (.isl 1 (map zf z.1)) (bA z.2))])]) (fun z=>zch a b c d z.1 z.2=some r) ?_ ?_
  ·
   refine rg y<|u<|fa ti y y y<|u<|ld ti y y<|u<|neq ti y y<|zb ?_
   refine ze y (fun D=>?_) (fun D=>?_)
   ·
    replace h:=bT D h
    obtain ⟨G,V,h⟩:=bs h
    exact rl y<|u<|mv y<|u<|bl 2 ti y ti y (by decide) (by decide) y y y<|zx (env0:=[(0,.mpt 0 0 0),(22,.mpt 0 0 0),(23,.isl 1 (map zf ([[73]])))]) (st0:=[some (15,[(rK a b c (.isl 1 (map zf d)) (.isl 1 (map zf o.1)) (bA o.2))])]) (zo [.old 0])<|u<|sx [0] (zZ a b c d o.1 o.2 ([[73]]) V)<|zx (env0:=[(0,.mpt 0 0 0)]) (st0:=[some (15,[(rK a b c (.isl 1 (map zf d)) (.isl 1 (map zf G.1)) (bA G.2))])]) (zo [.old 0])<|zb (⟨⟨G.1,G.2⟩,h,zo [.old 0]⟩)
   ·
    replace h:=bF D h
    refine zg ?_
    exact ⟨⟨o.1,o.2⟩,h,zo [.old 0]⟩
  ·
   rintro ⟨H,I⟩ h
   replace h:zch a b c d H I=some r:=h
   unfold zch at h
   obtain ⟨J,W,h⟩:=bs h
   refine rl y<|u<|mv y<|u<|sx [0] (zO a b c d H I [73] W)<|zx (env0:=[]) (st0:=[some (15,[(rK a b c (.isl 1 (map zf d)) (.isl 1 (map zf J.1)) (bA J.2))])]) (zo [.old 0])<|zb ?_
   obtain rfl:=sm h
   exact ⟨_,y,zz [.old 0]⟩
 ·
  replace h:=bF C h
  refine rg y<|u<|fa ti y y y<|u<|ld ti y y<|u<|geq ti y y<|u<|mv y<|z7 (j:=3) 3 y y y y y gpn (fun B=>g y B<|fa ti y y y<|g y B<|ld ti y y<|g y B<|leq ti y y<|zb (egA [32,33,34] 3 B y y y y)) ze3<|u<|asg y<|zb ?_
  refine ze y (fun E=>?_) (fun E=>?_)
  ·
   replace h:=bT E h
   obtain ⟨K,Y,h⟩:=bs h
   refine rl y<|u<|mv y<|u<|ld ti y y<|u<|sx [0] (zml a b c d e i f Y)<|zx (env0:=[]) (st0:=[some (15,[(rK a b c (.isl 1 (map zf d)) (.isl 1 (map zf K.1)) (bA K.2))])]) (zo [.old 0])<|zb ?_
   obtain rfl:=sm h
   exact ⟨_,y,zz [.old 0]⟩
  ·
   replace h:=bF E h
   refine rg y<|u<|fa ti y y y<|u<|ld ti y y<|u<|eql ti y y<|u<|asg y<|zb ?_
   refine ze y (fun p=>?_) (fun p=>?_)
   ·
    replace h:=bT p h
    obtain ⟨O,P,h⟩:=bs h
    refine zjw [] [some (15,[(rK a b c (.isl 1 (map zf d)) (.isl 1 (map zf e)) (bA O))])] [13] [12,11,10,9,8,7,6,5,4,3,2,1,0] [(55,.isl 1 (map zf e)),(54,.mpt 0 0 13),(53,.mpt 0 0 12),(52,.mpt 0 0 0),(51,.mpt 0 0 0),(50,.isl 1 (map zf d)),(49,.mpt 0 0 12),(48,.mpt 0 0 12),(47,.mpt 0 0 0),(46,.mpt 0 0 0),(45,iA f.A),(44,.mpt 1 0 1),(43,.mpt 0 0 0)] 1 (zmt ⟨(fun _ _=>⟨_,y,y,sx [0] (zgE a b c d e i f.A d e P)<|⟨(.tup []),[],[(56,.tup [])],y,y,kz,y,zh3 (zo [.old 0])⟩⟩),t⟩) ?_
    obtain rfl:=sm h
    exact ⟨_,y,zz [.old 0]⟩
   ·
    replace h:=bF p h
    refine rg y<|u<|fa ti y y y<|u<|ld ti y y<|u<|geq ti y y<|u<|mv y<|z7 (j:=3) 3 y y y y y gpn (fun l=>g y l<|fa ti y y y<|g y l<|ld ti y y<|g y l<|leq ti y y<|zb (egA [62,63,64] 3 l y y y y)) ze3<|u<|asg y<|zb ?_
    refine ze y (fun q=>?_) (fun q=>?_)
    ·
     replace h:=bT q h
     obtain ⟨L,Q,h⟩:=bs h
     refine rl y<|u<|mv y<|u<|ld ti y y<|u<|sx [0] (zlP a b c d e i f Q)<|zx (env0:=[]) (st0:=[some (15,[(rK a b c (.isl 1 (map zf d)) (.isl 1 (map zf L.1)) (bA L.2))])]) (zo [.old 0])<|zb ?_
     obtain rfl:=sm h
     exact ⟨_,y,zz [.old 0]⟩
    ·
     replace h:=bF q h
     refine rg y<|u<|fa ti y y y<|u<|ld ti y y<|u<|geq ti y y<|u<|mv y<|z7 (j:=3) 3 y y y y y gpn (fun m=>g y m<|fa ti y y y<|g y m<|ld ti y y<|g y m<|leq ti y y<|zb (egA [74,75,76] 3 m y y y y)) ze3<|u<|asg y<|zb ?_
     refine ze y (fun s=>?_) (fun s=>?_)
     ·
      replace h:=bT s h
      obtain ⟨M,R,h⟩:=bs h
      refine rl y<|u<|mv y<|u<|ld ti y y<|u<|sx [0] (zmk a b c d e i f R)<|zx (env0:=[]) (st0:=[some (15,[(rK a b c (.isl 1 (map zf d)) (.isl 1 (map zf M.1)) (bA M.2))])]) (zo [.old 0])<|zb ?_
      obtain rfl:=sm h
      exact ⟨_,y,zz [.old 0]⟩
     ·
      replace h:=bF s h
      refine rg y<|u<|fa ti y y y<|u<|ld ti y y<|u<|geq ti y y<|u<|mv y<|z7 (j:=3) 3 y y y y y gpn (fun n=>g y n<|fa ti y y y<|g y n<|ld ti y y<|g y n<|leq ti y y<|zb (egA [86,87,88] 3 n y y y y)) ze3<|u<|asg y<|zb ?_
      refine ze y (fun v=>?_) (fun v=>?_)
      ·
       replace h:=bT v h
       obtain ⟨N,S,h⟩:=bs h
       refine rl y<|u<|mv y<|u<|ld ti y y<|u<|sx [0] (zk8 a b c d e i f S)<|zx (env0:=[]) (st0:=[some (15,[(rK a b c (.isl 1 (map zf d)) (.isl 1 (map zf N.1)) (bA N.2))])]) (zo [.old 0])<|zb ?_
       obtain rfl:=sm h
       exact ⟨_,y,zz [.old 0]⟩
      ·
       replace h:=bF v h
       obtain ⟨F,T,h⟩:=bs h
       refine rl y<|u<|mv y<|u<|ld ti y y<|u<|sx [0] (zlR a b c d e i f T)<|zx (env0:=[]) (st0:=[some (15,[(rK a b c (.isl 1 (map zf F.1)) (.isl 1 (map zf F.2.1)) (bA F.2.2))])]) (zo [.old 0])<|zb ?_
       obtain rfl:=sm h
       exact ⟨_,y,zz [.old 0]⟩
def zeO(c:T1)(d:T1)(a:Bool)(b:Bool):Option (Bool):=
  some ((!a)&&(!b))
def zco(g:T0)(h:zR)(b:zc)(i:Bool)(c:Int)(j:z8×Bool)(l:Bool)(d:T1)(e:T1):Option (Sum (T1×T1×Bool×Bool×Int) (Sum (T1×T1×Bool×Bool) (Bool))):=
  (zct h.L g b d e (l||(!(j.2||i))) c).bind fun m=>(idx b.Code c).bind fun n=>(zm h.L g b d e m n).bind fun a=>(idx b.Code c).bind fun f=>some (.inl (a.1,a.2.1,a.2.2,(!(zhN f.Op)),(IntKind.i64.wrap (c+1))))
def zbO(g:T0)(h:zR)(b:zc)(i:T1)(j:T1)(c:Bool)(d:Int)(a:z8×Bool)(e:Bool):Option (Sum (T1×T1×Bool×Bool×Int) (Sum (T1×T1×Bool×Bool) (Bool))):=
  cond a.2 ((zeh (zhB.mk a.1.Locals a.1.Stack)).bind fun f=>zco g h b c d a e f.1 f.2) (zco g h b c d a e i j)
def zat(h:T0)(i:zR)(c:zc)(a:T1)(b:T1)(d:Bool)(f:Bool)(e:Int):Option (Sum (T1×T1×Bool×Bool×Int) (Sum (T1×T1×Bool×Bool) (Bool))):=
  cond ((decide (e<(length c.Code:Int)))&&(!d)) ((zc2 i.L h c a b d e).bind fun g=>cond (g.2&&f) ((zdx i.L h c a b d e a b).bind fun j=>zbO h i c a b f e g j) (zbO h i c a b f e g d)) (some (.inr (.inl (a,b,d,f))))
def zfi(f:T0)(e:zR)(a:zc)(c:Bool):Option (Bool):=
  (cond (a.Ret == [86]) (some true) ((z1 e.L a.Ret).bind fun g=>some g)).bind fun d=>(zeD e.L f a [] [] (c||(!d))).bind fun h=>(zw (fun z=>zat f e a z.1 z.2.1 z.2.2.1 z.2.2.2.1 z.2.2.2.2) (h,[],(c||(!d)),true,0)).bind fun o=>zU o (fun b=>zeO b.1 b.2.1 b.2.2.1 b.2.2.2) some
def zce(f:zR)(b:zc)(c:Bool)(a:Int):Option (Sum (Bool×Int) (Sum (Bool) (Bool))):=
  cond (decide (a<(length b.Params:Int))) ((idx b.Params a).bind fun d=>(z1 f.L d).bind fun e=>some (.inl ((c||(!e)),(IntKind.i64.wrap (a+1))))) (some (.inr (.inl c)))
def zef(e:T0)(c:zR)(a:zc)(d:Bool):Option (Bool):=
  (zw (fun z=>zce c a z.1 z.2) (d,0)).bind fun o=>zU o (fun b=>zfi e c a b) some
def zhj(a:Int)(b:Bool):Option (Sum (Bool×Int) (Sum (Bool) (Bool))):=
  some (.inl (b,(IntKind.i64.wrap (a+1))))
def zcd(j:zR)(b:T1)(c:Bool)(a:Int):Option (Sum (Bool×Int) (Sum (Bool) (Bool))):=
  cond (decide (a<((length b):Int))) ((idx b a).bind fun d=>(cond (d == [84]) (some true) ((idx b a).bind fun e=>some (e == [78]))).bind fun f=>(cond f (some true) ((idx b a).bind fun g=>(z1 j.L g).bind fun h=>some h)).bind fun i=>some (.inl ((c||(!i)),(IntKind.i64.wrap (a+1))))) (some (.inr (.inl c)))
def zbB(i:zR)(c:zc)(d:Bool)(a:Int):Option (Sum (Bool×Int) (Sum (Bool) (Bool))):=
  cond (decide (a<(length c.Maps:Int))) ((idx c.Maps a).bind fun e=>(idx c.Maps a).bind fun f=>(zh2 16 ([]:T1) e.Locals).bind fun g=>(zh2 16 g f.Stack).bind fun h=>(zw (fun z=>zcd i h z.1 z.2) (d,0)).bind fun o=>zU o (fun b=>zhj a b) (fun r=>some (.inr (.inr r)))) (some (.inr (.inl d)))
def zfu(i:Option zR)(f:T0)(c:Int):Option (Bool):=
  zAo i (none) (fun a=>(zaD a.L f).bind fun d=>(cond ((decide (d<0))||(decide (c<0))) (some true) ((idx a.L d).bind fun j=>some (decide ((length j.Methods:Int)≤c)))).bind fun l=>(cond l (some true) ((idx a.L d).bind fun m=>(idx m.Methods c).bind fun n=>some n.Abstract)).bind fun g=>cond g (some false) ((idx a.L d).bind fun h=>(idx h.Methods c).bind fun e=>(zw (fun z=>zbB a e z.1 z.2) (false,0)).bind fun o=>zU o (fun b=>zef f a e b) some))
theorem zm1(v1:Option zR)(d:T0)(v3:Int){r:Bool}(h:zfu v1 d v3=some r):zG Tryz.prog 77 [zlf 1 zfr v1,sA d,iA v3] (bA r):=by
 refine zr Tryz.func77 y kz y y ?_
 unfold zfu at h
 rcases v1 with _ |c
 ·
  replace h:=oeN h
  cases h
 ·
  replace h:=oeS h
  refine rg y<|u<|asg y<|zb ?_
  obtain ⟨v5,q1,h⟩:=bs h
  refine rg y<|u<|mv y<|u<|mv y<|u<|pc (zW c.L d q1) y y y<|u<|asg y<|zb ?_
  refine zi ?_
  obtain ⟨v7,q5,h⟩:=bs h
  obtain ⟨v10,K,h⟩:=bs h
  refine rg y<|u<|mv y<|u<|lss ti y y<|u<|mv y<|zcU (j:=2) 2 y y y y y gpn (fun hb2=>g y hb2<|mv y<|g y hb2<|lss ti y y<|zb (egO [23,24] 2 hb2 y y y y)) orT<|u<|mv y<|zcU (x:=v7) (j:=6) 11 y y y y y gpn (fun q=>by replace q5:=bF q q5;obtain ⟨v6,q4,q5⟩:=bs q5;obtain rfl:=sm q5;exact g y q<|mv y<|g y q<|mv y<|g y q<|nc y y<|g y q<|fa ti y y y<|g y q<|ld ti y y<|g y q<|mv y<|g y q<|ixI ti y ti y y y q4<|g y q<|fa ti y y y<|g y q<|ldI ti y (zl q4).2.2 y<|g y q<|lnI ti y y<|g y q<|geq ti y y<|zb (eg [27,28,29,30,31,32,33,34,35,36,37] 11 y y y y)) (fun hb=>(sm (bT hb q5)).symm)<|u<|mv y<|zcU (x:=v10) (j:=19) 12 y y y y y gpn (fun n=>by replace K:=bF n K;obtain ⟨v8,q7,K⟩:=bs K;obtain ⟨v9,q8,K⟩:=bs K;obtain rfl:=sm K;exact g y n<|mv y<|g y n<|nc y y<|g y n<|fa ti y y y<|g y n<|ld ti y y<|g y n<|mv y<|g y n<|ixI ti y ti y y y q7<|g y n<|fa ti y y y<|g y n<|ldI ti y (zl q7).2.2 y<|g y n<|mv y<|g y n<|ixI ti y ti y y y q8<|g y n<|fa ti y y y<|g y n<|ldI ti y (zl q8).2.2 y<|zb (eg [40,41,42,43,44,45,46,47,48,49,50,51] 12 y y y y)) (fun hb=>(sm (bT hb K)).symm)<|zb ?_
  refine ze y (fun O=>?_) (fun O=>?_)
  ·
   replace h:=bT O h
   refine rg y<|u<|asg y<|zb ?_
   refine zj ?_
   obtain rfl:=sm h
   exact ⟨_,y,zz []⟩
  ·
   replace h:=bF O h
   refine zg ?_
   obtain ⟨v11,q11,h⟩:=bs h
   obtain ⟨a,q12,h⟩:=bs h
   refine rg y<|u<|mv y<|u<|mv y<|u<|mv y<|u<|nc y y<|u<|fa ti y y y<|u<|ld ti y y<|u<|mv y<|u<|ixI ti y ti y y y q11<|u<|fa ti y y y<|u<|ldI ti y (zl q11).2.2 y<|u<|mv y<|u<|ixI ti y ti y y y q12<|u<|ldI ti y (zl q12).2.2 y<|u<|bd ti y y y<|u<|bx 0 15 y y y y<|u<|asg y<|zb ?_
   refine zi ?_
   refine rg y<|u<|asg y<|zb ?_
   obtain ⟨o,ho,h⟩:=bs h
   refine zY (X:=Bool×Int) (B:=Bool) (R:=Bool) (fun z=>[(0,.ipt 1 [[.isl 6 (map zd c.L)]] 0 0),(8,.mpt 0 0 0),(9,iA z.2)]) (fun z=>[some (15,[(rK c.L d a (.lit (.slice none 0 0)) (.lit (.slice none 0 0)) (bA z.1))])]) (fun b=>[(0,.ipt 1 [[.isl 6 (map zd c.L)]] 0 0),(8,.mpt 0 0 0)]) (fun b=>[some (15,[(rK c.L d a (.lit (.slice none 0 0)) (.lit (.slice none 0 0)) (bA b))])]) (fun r env st=>zaO Tryz.prog Tryz.f77 0 (bA r) [] env st) ho (zo [.old 0]) ?_ ?_ ?_
   ·
    rintro ⟨v36,s⟩ r h
    replace h:zbB c a v36 s=some r:=h
    unfold zbB at h
    refine zi ?_
    refine rg y<|u<|mv y<|u<|mv y<|u<|nc y y<|u<|fa ti y y y<|u<|fa ti y y y<|u<|ld ti y y<|u<|lnI ti y y<|u<|lss ti y y<|zb ?_
    refine ze y (fun P=>?_) (fun P=>?_)
    ·
     replace h:=bT P h
     refine zg ?_
     refine zi ?_
     refine zs ?_
     obtain ⟨v38,Z,h⟩:=bs h
     obtain ⟨v39,M,h⟩:=bs h
     obtain ⟨v40,q39,h⟩:=bs h
     obtain ⟨A,q40,h⟩:=bs h
     refine rdA [(0,.ipt 1 [[.isl 6 (map zd c.L)]] 0 0),(8,.mpt 0 0 0),(9,iA s),(10,.msl 1 0 (length A))] [some (15,[(rK c.L d a (.lit (.slice none 0 0)) (.lit (.slice none 0 0)) (bA v36))]),some (1,map zf A)] [9,19] [18,17,16,15,14,13,12,11,10,8,7,6,5,4,3,2,1,0] [(96,.isl 1 (map zf v39.Stack)),(95,.ipt 3 (map zL a.Maps) (Int.toNat s) 2),(94,.ipt 3 (map zL a.Maps) (Int.toNat s) 0),(93,iA s),(92,.isl 3 (map zL a.Maps)),(91,.mpt 0 0 10),(90,.mpt 0 0 2),(89,.mpt 0 0 0),(88,.mpt 0 0 0),(86,.isl 1 (map zf v38.Locals)),(85,.ipt 3 (map zL a.Maps) (Int.toNat s) 1),(84,.ipt 3 (map zL a.Maps) (Int.toNat s) 0),(83,iA s),(82,.isl 3 (map zL a.Maps)),(81,.mpt 0 0 10),(80,.mpt 0 0 2),(79,.mpt 0 0 0),(78,.mpt 0 0 0)] 2 (zeo ⟨(pb y (ldI ti y (zl M).2.2 y w)),pe,(pb y (ixI ti y ti y y y M w)),pe,pe,pe,pe,pe,pe,(pb y (ldI ti y (zl Z).2.2 y w)),pe,(pb y (ixI ti y ti y y y Z w)),pe,pe,pe,pe,pe,pe,t⟩ ⟨(fun _ _=>⟨_,y,y,apN (f:=zf) 1 ti y ti y y (by decide) ti y y y roI (fun _=>y) y q39<|⟨(.msl 1 0 (length v40)),[],[(87,.msl 1 0 (length v40))],y,y,kz,y,zeo ⟨(pb y (ldI ti y (zl M).2.2 y w)),pe,(pb y (ixI ti y ti y y y M w)),pe,pe,pe,pe,pe,pe,pe,pe,(pb y (ixI ti y ti y y y Z w)),pe,pe,pe,pe,pe,pe,t⟩ ⟨nv,(fun _ _=>⟨_,y,y,apM 2 ti y ti y y (by decide) ti y y y y roI (fun _=>y) y q40<|⟨(.msl 2 0 (length A)),[20],[(10,.msl 2 0 (length A)),(97,.msl 2 0 (length A))],y,y,kz,y,zhA ⟨pe,pe,pe,(pb y (ixI ti y ti y y y M w)),pe,pe,pe,pe,pe,pe,pe,pe,(pb y (ixI ti y ti y y y Z w)),pe,pe,pe,pe,pe,pe,t⟩ (zo [.old 0,.old 2])⟩⟩),t⟩⟩⟩),nw,t⟩) ?_
     refine rg y<|u<|asg y<|zb ?_
     obtain ⟨o,ho,h⟩:=bs h
     refine zY (X:=Bool×Int) (B:=Bool) (R:=Bool) (fun z=>[(0,.ipt 1 [[.isl 6 (map zd c.L)]] 0 0),(8,.mpt 0 0 0),(9,iA s),(10,.msl 1 0 (length A)),(11,iA z.2)]) (fun z=>[some (15,[(rK c.L d a (.lit (.slice none 0 0)) (.lit (.slice none 0 0)) (bA z.1))]),some (1,map zf A)]) (fun b=>[(0,.ipt 1 [[.isl 6 (map zd c.L)]] 0 0),(8,.mpt 0 0 0),(9,iA s)]) (fun b=>[some (15,[(rK c.L d a (.lit (.slice none 0 0)) (.lit (.slice none 0 0)) (bA b))])]) (fun r env st=>zaO Tryz.prog Tryz.f77 0 (bA r) [] env st) ho (zo [.old 0,.old 1]) ?_ ?_ ?_
     ·
      rintro ⟨v50,v51⟩ r h
      replace h:zcd c A v50 v51=some r:=h
      unfold zcd at h
      refine zi ?_
      refine rg y<|u<|mv y<|u<|mv y<|u<|lnM ti y y y<|u<|lss ti y y<|zb ?_
      refine ze y (fun Q=>?_) (fun Q=>?_)
      ·
       replace h:=bT Q h
       refine zg ?_
       refine zi ?_
       refine zs ?_
       obtain ⟨v52,q51,h⟩:=bs h
       obtain ⟨v54,H,h⟩:=bs h
       obtain ⟨v57,F,h⟩:=bs h
       refine rl y<|u<|mv y<|u<|mv y<|u<|mv y<|u<|ixM ti y ti y y y y q51<|u<|ldM ti y y (zl q51).2.2 y<|u<|seq ti y y<|u<|mv y<|zcU (x:=v54) (j:=6) 5 y y y y y gpn (fun D=>by replace H:=bF D H;obtain ⟨v53,q53,H⟩:=bs H;obtain rfl:=sm H;exact g y D<|mv y<|g y D<|mv y<|g y D<|ixM ti y ti y y y y q53<|g y D<|ldM ti y y (zl q53).2.2 y<|g y D<|seq ti y y<|zb (eg [111,112,113,114,115] 5 y y y y)) (fun hb=>(sm (bT hb H)).symm)<|u<|mv y<|zcU (x:=v57) (j:=13) 6 y y y y y gpn (fun C=>by replace F:=bF C F;obtain ⟨v55,q56,F⟩:=bs F;obtain ⟨v56,q57,F⟩:=bs F;obtain rfl:=sm F;exact g y C<|mv y<|g y C<|mv y<|g y C<|mv y<|g y C<|ixM ti y ti y y y y q56<|g y C<|ldM ti y y (zl q56).2.2 y<|g y C<|pc (zab c.L v55 q57) y y y<|zb (eg [118,119,120,121,122,123] 6 y y y y)) (fun hb=>(sm (bT hb F)).symm)<|u<|sx [0] (zgF c.L d a v50 v57 y)<|zx (env0:=[(0,.ipt 1 [[.isl 6 (map zd c.L)]] 0 0),(8,.mpt 0 0 0),(9,iA s),(10,.msl 1 0 (length A)),(11,iA v51)]) (st0:=[some (15,[(rK c.L d a (.lit (.slice none 0 0)) (.lit (.slice none 0 0)) (bA (v50||(!v57))))]),some (1,map zf A)]) (zo [.old 0,.old 1])<|zb ?_
       refine rl y<|u<|mv y<|u<|add ti y y<|u<|asg y<|zb ?_
       obtain rfl:=sm h
       exact ⟨_,y,zo [.old 0,.old 1]⟩
      ·
       replace h:=bF Q h
       refine zE ?_
       obtain rfl:=sm h
       exact ⟨y,_,y,zo [.old 0]⟩
     ·
      rintro v58 rfl
      replace h:zhj s v58=some r:=h
      unfold zhj at h
      refine zy ?_
      refine rl y<|u<|mv y<|u<|add ti y y<|u<|asg y<|zb ?_
      obtain rfl:=sm h
      exact ⟨_,y,zo [.old 0]⟩
     ·
      rintro r' rfl env st hp
      obtain rfl:=sm h
      exact ⟨_,y,hp⟩
    ·
     replace h:=bF P h
     refine zE ?_
     obtain rfl:=sm h
     exact ⟨y,_,y,zo [.old 0]⟩
   ·
    rintro v59 rfl
    replace h:zef d c a v59=some r:=h
    unfold zef at h
    refine zy ?_
    refine zi ?_
    refine rg y<|u<|asg y<|zb ?_
    obtain ⟨o,ho,h⟩:=bs h
    refine zY (X:=Bool×Int) (B:=Bool) (R:=Bool) (fun z=>[(0,.ipt 1 [[.isl 6 (map zd c.L)]] 0 0),(8,.mpt 0 0 0),(12,iA z.2)]) (fun z=>[some (15,[(rK c.L d a (.lit (.slice none 0 0)) (.lit (.slice none 0 0)) (bA z.1))])]) (fun b=>[(0,.ipt 1 [[.isl 6 (map zd c.L)]] 0 0),(8,.mpt 0 0 0)]) (fun b=>[some (15,[(rK c.L d a (.lit (.slice none 0 0)) (.lit (.slice none 0 0)) (bA b))])]) (fun r env st=>zaO Tryz.prog Tryz.f77 0 (bA r) [] env st) ho (zo [.old 0]) ?_ ?_ ?_
    ·
     rintro ⟨v64,v65⟩ r h
     replace h:zce c a v64 v65=some r:=h
     unfold zce at h
     refine zi ?_
     refine rg y<|u<|mv y<|u<|mv y<|u<|nc y y<|u<|fa ti y y y<|u<|fa ti y y y<|u<|ld ti y y<|u<|lnI ti y y<|u<|lss ti y y<|zb ?_
     refine ze y (fun S=>?_) (fun S=>?_)
     ·
      replace h:=bT S h
      refine zg ?_
      refine zi ?_
      refine zs ?_
      obtain ⟨v66,q63,h⟩:=bs h
      obtain ⟨v67,q64,h⟩:=bs h
      refine rl y<|u<|mv y<|u<|mv y<|u<|mv y<|u<|nc y y<|u<|fa ti y y y<|u<|fa ti y y y<|u<|ld ti y y<|u<|mv y<|u<|ixI ti y ti y y y q63<|u<|ldI ti y (zl q63).2.2 y<|u<|pc (zab c.L v66 q64) y y y<|u<|sx [0] (zgF c.L d a v64 v67 y)<|zx (env0:=[(0,.ipt 1 [[.isl 6 (map zd c.L)]] 0 0),(8,.mpt 0 0 0),(12,iA v65)]) (st0:=[some (15,[(rK c.L d a (.lit (.slice none 0 0)) (.lit (.slice none 0 0)) (bA (v64||(!v67))))])]) (zo [.old 0])<|zb ?_
      refine rl y<|u<|mv y<|u<|add ti y y<|u<|asg y<|zb ?_
      obtain rfl:=sm h
      exact ⟨_,y,zo [.old 0]⟩
     ·
      replace h:=bF S h
      refine zE ?_
      obtain rfl:=sm h
      exact ⟨y,_,y,zo [.old 0]⟩
    ·
     rintro v68 rfl
     replace h:zfi d c a v68=some r:=h
     unfold zfi at h
     refine zy ?_
     obtain ⟨v70,I,h⟩:=bs h
     refine rg y<|u<|mv y<|u<|mv y<|u<|nc y y<|u<|fa ti y y y<|u<|fa ti y y y<|u<|ld ti y y<|u<|seq ti y y<|u<|mv y<|zcU (x:=v70) (j:=7) 7 y y y y y gpn (fun v=>by replace I:=bF v I;obtain ⟨v69,q66,I⟩:=bs I;obtain rfl:=sm I;exact g y v<|mv y<|g y v<|mv y<|g y v<|nc y y<|g y v<|fa ti y y y<|g y v<|fa ti y y y<|g y v<|ld ti y y<|g y v<|pc (zab c.L a.Ret q66) y y y<|zb (eg [156,157,158,159,160,161,162] 7 y y y y)) (fun hb=>(sm (bT hb I)).symm)<|u<|sx [0] (zgF c.L d a v68 v70 y)<|zx (env0:=[(8,.mpt 0 0 0)]) (st0:=[some (15,[(rK c.L d a (.lit (.slice none 0 0)) (.lit (.slice none 0 0)) (bA (v68||(!v70))))])]) (zo [.old 0])<|zb ?_
     obtain ⟨v71,q68,h⟩:=bs h
     refine rg y<|u<|mv y<|ph 1<|ph 1<|u<|sc [0,1,2] (zlO c.L d a [] [] (v68||(!v70)) q68) y y y y ⟨(.mpt y),t⟩ ⟨⟨_,y,(zwe y ⟨(.nil0 y),(.nil0 y),(rnI y),t⟩)⟩,⟨y,mkI (fun _=>y)⟩,⟨y,mkI (fun _=>y)⟩,t⟩<|zb ?_
     refine rg y<|u<|asg y<|zb ?_
     refine zi ?_
     refine rg y<|u<|asg y<|zb ?_
     obtain ⟨o,ho,h⟩:=bs h
     refine zY (X:=T1×T1×Bool×Bool×Int) (B:=T1×T1×Bool×Bool) (R:=Bool) (fun z=>[(8,.mpt 0 0 0),(13,bA z.2.2.2.1),(14,iA z.2.2.2.2)]) (fun z=>[some (15,[(rK c.L d a (.isl 1 (map zf z.1)) (.isl 1 (map zf z.2.1)) (bA z.2.2.1))])]) (fun b=>[(8,.mpt 0 0 0),(13,bA b.2.2.2)]) (fun b=>[some (15,[(rK c.L d a (.isl 1 (map zf b.1)) (.isl 1 (map zf b.2.1)) (bA b.2.2.1))])]) (fun r env st=>zaO Tryz.prog Tryz.f77 0 (bA r) [] env st) ho (zo [.old 0]) ?_ ?_ ?_
     ·
      rintro ⟨l,m,N,p,i⟩ r h
      replace h:zat d c a l m N p i=some r:=h
      unfold zat at h
      refine zi ?_
      refine rg y<|u<|mv y<|u<|mv y<|u<|nc y y<|u<|fa ti y y y<|u<|fa ti y y y<|u<|ld ti y y<|u<|lnI ti y y<|u<|lss ti y y<|u<|mv y<|z7 (j:=8) 5 y y y y y gpn (fun E=>g y E<|mv y<|g y E<|nc y y<|g y E<|fa ti y y y<|g y E<|ld ti y y<|g y E<|nt y<|zb (egA [176,177,178,179,180] 5 E y y y y)) ze3<|zb ?_
      refine ze y (fun T=>?_) (fun T=>?_)
      ·
       replace h:=bT T h
       refine zg ?_
       refine zi ?_
       refine zs ?_
       obtain ⟨e,q84,h⟩:=bs h
       refine rg y<|u<|mv y<|u<|mv y<|u<|sx [0] (zgb c.L d a l m N i q84)<|zx (env0:=[(8,.mpt 0 0 0),(13,bA p),(14,iA i),(187,.tup [.agg (zL e.1),bA e.2])]) (st0:=[some (15,[(rK c.L d a (.isl 1 (map zf l)) (.isl 1 (map zf m)) (bA N))])]) (zo [.old 0])<|u<|mv y<|u<|ex y y<|u<|ex y y<|u<|al 1 ti y<|u<|sto ti y y y<|u<|asg y<|zb ?_
       refine zaX (X:=Bool) (fun z=>[(8,.mpt 0 0 0),(13,bA p),(14,iA i),(15,.mpt 1 0 0),(16,bA e.2)]) (fun z=>[some (15,[(rK c.L d a (.isl 1 (map zf l)) (.isl 1 (map zf m)) (bA z))]),some (3,[(zL e.1)])]) (fun z=>zbO d c a l m p i e z=some r) ?_ ?_
       ·
        refine rg y<|u<|mv y<|u<|mv y<|z7 (j:=1) 1 y y y y y gpn (fun hb85=>g y hb85<|mv y<|zb (egA [192] 1 hb85 y y y y)) ze3<|zb ?_
        refine ze y (fun U=>?_) (fun U=>?_)
        ·
         replace h:=bT U h
         obtain ⟨v93,q87,h⟩:=bs h
         refine zjw [(8,.mpt 0 0 0),(13,bA p),(14,iA i),(15,.mpt 1 0 0),(16,bA e.2)] [some (15,[(rK c.L d a (.isl 1 (map zf l)) (.isl 1 (map zf m)) (bA v93))]),some (3,[(zL e.1)])] [12] [11,10,9,8,7,6,5,4,3,2,1,0] [(205,.isl 1 (map zf m)),(204,.mpt 0 0 13),(203,.mpt 0 0 12),(202,.mpt 0 0 0),(201,.mpt 0 0 0),(200,.isl 1 (map zf l)),(199,.mpt 0 0 12),(198,.mpt 0 0 12),(197,.mpt 0 0 0),(196,.mpt 0 0 0),(195,iA i),(194,.mpt 0 0 0)] 1 (zmt ⟨(fun _ _=>⟨_,y,y,sx [0] (zgE c.L d a l m N i l m q87)<|⟨(.tup []),[],[(206,.tup [])],y,y,kz,y,zh3 (zo [.old 0,.old 1])⟩⟩),t⟩) ?_
         exact ⟨v93,h,zo [.old 0,.old 1]⟩
        ·
         replace h:=bF U h
         refine zg ?_
         exact ⟨N,h,zo [.old 0,.old 1]⟩
       ·
        rintro G h
        replace h:zbO d c a l m p i e G=some r:=h
        unfold zbO at h
        refine rg y<|u<|mv y<|u<|mv y<|u<|mv y<|zcU (j:=2) 1 y y y y y gpn (fun hb88=>g y hb88<|mv y<|zb (egO [210] 1 hb88 y y y y)) orT<|u<|sx [0] (zq c.L d a l m G (e.2||p) y)<|zx (env0:=[(8,.mpt 0 0 0),(14,iA i),(15,.mpt 1 0 0),(16,bA e.2)]) (st0:=[some (15,[(rK c.L d a (.isl 1 (map zf l)) (.isl 1 (map zf m)) (bA (G||(!(e.2||p)))))]),some (3,[(zL e.1)])]) (zo [.old 0,.old 1])<|zb ?_
        refine zaX (X:=T1×T1) (fun z=>[(8,.mpt 0 0 0),(14,iA i)]) (fun z=>[some (15,[(rK c.L d a (.isl 1 (map zf z.1)) (.isl 1 (map zf z.2)) (bA (G||(!(e.2||p)))))])]) (fun z=>zco d c a p i e G z.1 z.2=some r) ?_ ?_
        ·
         refine rg y<|u<|mv y<|zb ?_
         refine ze y (fun V=>?_) (fun V=>?_)
         ·
          replace h:=bT V h
          obtain ⟨J,q90,h⟩:=bs h
          exact rl y<|u<|mv y<|u<|fa ti y y y<|u<|ld ti y y<|u<|fa ti y y y<|u<|ld ti y y<|u<|bd ti y y y<|u<|sx [] (zjB (zhB.mk e.1.Locals e.1.Stack) q90)<|zx (env0:=[(8,.mpt 0 0 0),(14,iA i),(214,.mpt 0 0 0),(220,.agg [.msl 1 0 (length J.1),.msl 2 0 (length J.2)])]) (st0:=[some (15,[(rK c.L d a (.isl 1 (map zf l)) (.isl 1 (map zf m)) (bA (G||(!(e.2||p)))))]),some (1,map zf J.1),some (1,map zf J.2)]) (zo [.old 0,.old 2,.old 3])<|u<|nc y y<|u<|fa ti y y y<|u<|sto ti y y y<|zb (⟨⟨J.1,J.2⟩,h,zo [.old 0]⟩)
         ·
          replace h:=bF V h
          refine zg ?_
          exact ⟨⟨l,m⟩,h,zo [.old 0]⟩
        ·
         rintro ⟨v96,v97⟩ h
         replace h:zco d c a p i e G v96 v97=some r:=h
         unfold zco at h
         obtain ⟨v98,q91,h⟩:=bs h
         refine rg y<|u<|mv y<|u<|mv y<|u<|sx [0] (zlS c.L d a v96 v97 (G||(!(e.2||p))) i q91)<|zx (env0:=[(8,.mpt 0 0 0),(14,iA i)]) (st0:=[some (15,[(rK c.L d a (.isl 1 (map zf v96)) (.isl 1 (map zf v97)) (bA v98))])]) (zo [.old 0])<|zb ?_
         obtain ⟨v99,q92,h⟩:=bs h
         obtain ⟨W,q93,h⟩:=bs h
         refine rg y<|u<|mv y<|u<|mv y<|u<|nc y y<|u<|fa ti y y y<|u<|fa ti y y y<|u<|ld ti y y<|u<|mv y<|u<|ixI ti y ti y y y q92<|u<|ldI ti y (zl q92).2.2 y<|u<|sx [0] (zlQ c.L d a v96 v97 v98 v99 q93)<|zx (env0:=[(8,.mpt 0 0 0),(14,iA i)]) (st0:=[some (15,[(rK c.L d a (.isl 1 (map zf W.1)) (.isl 1 (map zf W.2.1)) (bA W.2.2))])]) (zo [.old 0])<|zb ?_
         obtain ⟨v101,q94,h⟩:=bs h
         refine rl y<|u<|mv y<|u<|nc y y<|u<|fa ti y y y<|u<|fa ti y y y<|u<|ld ti y y<|u<|mv y<|u<|ixI ti y ti y y y q94<|u<|fa ti y y y<|u<|ldI ti y (zl q94).2.2 y<|u<|pc (zoG v101.Op y) y y y<|u<|nt y<|u<|asg y<|zb ?_
         refine rl y<|u<|mv y<|u<|add ti y y<|u<|asg y<|zb ?_
         obtain rfl:=sm h
         exact ⟨_,y,zo [.old 0]⟩
      ·
       replace h:=bF T h
       refine zE ?_
       obtain rfl:=sm h
       exact ⟨y,_,y,zo [.old 0]⟩
     ·
      rintro ⟨v102,v103,v104,v105⟩ rfl
      replace h:zeO v102 v103 v104 v105=some r:=h
      unfold zeO at h
      refine zy ?_
      refine rg y<|u<|mv y<|u<|nc y y<|u<|fa ti y y y<|u<|ld ti y y<|u<|nt y<|u<|mv y<|z7 (j:=5) 2 y y y y y gpn (fun Y=>g y Y<|mv y<|g y Y<|nt y<|zb (egA [253,254] 2 Y y y y y)) ze3<|u<|asg y<|zb ?_
      refine zj ?_
      obtain rfl:=sm h
      exact ⟨_,y,zz []⟩
     ·
      rintro r' rfl env st hp
      obtain rfl:=sm h
      exact hp
    ·
     rintro r' rfl env st hp
     obtain rfl:=sm h
     exact hp
   ·
    rintro r' rfl env st hp
    obtain rfl:=sm h
    exact hp
def zlw:Option (Bool):=
  some true
def zju(a:Int):Option (Sum (Int) (Sum (Unit) (Bool))):=
  some (.inl (IntKind.i64.wrap (a+1)))
def zew(c:List za)(i:(Option zad)×Int)(j:(Option zR)×Int)(b:Int)(a:Int):Option (Sum (Int) (Sum (Unit) (Bool))):=
  (idx c b).bind fun d=>cond (decide (a≤(length d.Methods:Int))) ((idx c b).bind fun e=>(zc3 i.1 e.Name a).bind fun f=>(idx c b).bind fun g=>(zfu j.1 g.Name a).bind fun h=>cond (!(f == h)) (some (.inr (.inr false))) (some (.inl (IntKind.i64.wrap (a+1))))) (some (.inr (.inl ())))
def ze6(c:List za)(d:(Option zad)×Int)(e:(Option zR)×Int)(a:Int):Option (Sum (Int) (Sum (Unit) (Bool))):=
  cond (decide (a<(length c:Int))) ((zw (fun z=>zew c d e a z) (-1)).bind fun o=>zU o (fun b=>zju a) (fun r=>some (.inr (.inr r)))) (some (.inr (.inl ())))
def zhJ(a:List za):Option (Bool):=
  (zkr a).bind fun d=>(znI a).bind fun c=>cond ((!(d.2 == (0:Int)))||(Option.isNone c.1)) (some (Option.isNone c.1)) ((zw (fun z=>ze6 a d c z) 0).bind fun o=>zU o (fun b=>zlw) some)
theorem zjv(c:List za){r:Bool}(h:zhJ c=some r):zG Tryz.prog 38 [.isl 6 (map zd c)] (bA r):=by
 refine zr Tryz.func38 y kz y y ?_
 unfold zhJ at h
 refine rg y<|u<|asg y<|zb ?_
 obtain ⟨e,G,h⟩:=bs h
 refine rg y<|u<|mv y<|u<|pc (zmK c G) y y y<|u<|mv y<|u<|ex y y<|u<|ex y y<|u<|asg y<|u<|asg y<|zb ?_
 obtain ⟨f,H,h⟩:=bs h
 refine rg y<|u<|mv y<|u<|pc (ztZ c H) y y y<|u<|mv y<|u<|ex y y<|u<|ex y y<|u<|asg y<|u<|asg y<|zb ?_
 refine zi ?_
 refine rg y<|u<|mv y<|u<|neq ti y y<|u<|mv y<|zcU (j:=2) 2 y y y y y gpn (fun n=>g y n<|mv y<|g y n<|zCK ti y y y<|zb (egO [22,23] 2 n y y y y)) orT<|zb ?_
 refine ze y (fun p=>?_) (fun p=>?_)
 ·
  replace h:=bT p h
  refine rg y<|u<|mv y<|u<|zCK ti y y y<|u<|asg y<|zb ?_
  refine zj ?_
  obtain rfl:=sm h
  exact ⟨_,y,zz []⟩
 ·
  replace h:=bF p h
  refine zg ?_
  refine zi ?_
  refine rg y<|u<|asg y<|zb ?_
  obtain ⟨o,ho,h⟩:=bs h
  refine zY (X:=Int) (B:=Unit) (R:=Bool) (fun z=>[(0,.isl 6 (map zd c)),(3,zlf 2 zeT e.1),(5,zlf 1 zfr f.1),(7,iA z)]) (fun z=>[]) (fun b=>[]) (fun b=>[]) (fun r env st=>zaO Tryz.prog Tryz.f38 0 (bA r) [] env st) ho (zo []) ?_ ?_ ?_
  ·
   rintro a r h
   replace h:ze6 c e f a=some r:=h
   unfold ze6 at h
   refine zi ?_
   refine rg y<|u<|mv y<|u<|mv y<|u<|lnI ti y y<|u<|lss ti y y<|zb ?_
   refine ze y (fun i=>?_) (fun i=>?_)
   ·
    replace h:=bT i h
    refine zg ?_
    refine zi ?_
    refine zs ?_
    refine rg y<|u<|asg y<|zb ?_
    obtain ⟨o,ho,h⟩:=bs h
    refine zY (X:=Int) (B:=Unit) (R:=Bool) (fun z=>[(0,.isl 6 (map zd c)),(3,zlf 2 zeT e.1),(5,zlf 1 zfr f.1),(7,iA a),(8,iA z)]) (fun z=>[]) (fun b=>[(0,.isl 6 (map zd c)),(3,zlf 2 zeT e.1),(5,zlf 1 zfr f.1),(7,iA a)]) (fun b=>[]) (fun r env st=>zaO Tryz.prog Tryz.f38 0 (bA r) [] env st) ho (zo []) ?_ ?_ ?_
    ·
     rintro d r h
     replace h:zew c e f a d=some r:=h
     unfold zew at h
     refine zi ?_
     obtain ⟨I,v,h⟩:=bs h
     refine rg y<|u<|mv y<|u<|mv y<|u<|mv y<|u<|ixI ti y ti y y y v<|u<|fa ti y y y<|u<|ldI ti y (zl v).2.2 y<|u<|lnI ti y y<|u<|leq ti y y<|zb ?_
     refine ze y (fun l=>?_) (fun l=>?_)
     ·
      replace h:=bT l h
      refine zg ?_
      refine zi ?_
      refine zs ?_
      obtain ⟨x,A,h⟩:=bs h
      obtain ⟨q,E,h⟩:=bs h
      obtain ⟨C,D,h⟩:=bs h
      obtain ⟨s,F,h⟩:=bs h
      refine rdA [(0,.isl 6 (map zd c)),(3,zlf 2 zeT e.1),(5,zlf 1 zfr f.1),(7,iA a),(8,iA d),(59,bA (!(q == s)))] [] [] [16,15,14,13,12,11,10,9,8,7,6,5,4,3,2,1,0] [(59,bA (!(q == s))),(58,bA s),(57,iA d),(56,sA C.Name),(55,.ipt 6 (map zd c) (Int.toNat a) 0),(54,.ipt 6 (map zd c) (Int.toNat a) 0),(53,iA a),(52,.isl 6 (map zd c)),(51,zlf 1 zfr f.1),(50,bA q),(49,iA d),(48,sA x.Name),(47,.ipt 6 (map zd c) (Int.toNat a) 0),(46,.ipt 6 (map zd c) (Int.toNat a) 0),(45,iA a),(44,.isl 6 (map zd c)),(43,zlf 2 zeT e.1)] 0 (zhA ⟨(pb y (bne ti y y y w)),(pb y (pc (zm1 f.1 C.Name d F) y y (zyF (zuD (fun _=>y)) (y)) w)),pe,(pb y (ldI ti y (zl D).2.2 y w)),pe,(pb y (ixI ti y ti y y y D w)),pe,pe,pe,(pb y (pc (zdX e.1 x.Name d E) y y (zyF (zuD (fun _=>y)) (y)) w)),pe,(pb y (ldI ti y (zl A).2.2 y w)),pe,(pb y (ixI ti y ti y y y A w)),pe,pe,pe,t⟩ (zo [])) ?_
      refine ze y (fun m=>?_) (fun m=>?_)
      ·
       replace h:=bT m h
       refine rg y<|u<|asg y<|zb ?_
       refine zj ?_
       obtain rfl:=sm h
       exact ⟨_,y,_,y,zz []⟩
      ·
       replace h:=bF m h
       refine zg ?_
       refine rl y<|u<|mv y<|u<|add ti y y<|u<|asg y<|zb ?_
       obtain rfl:=sm h
       exact ⟨_,y,zo []⟩
     ·
      replace h:=bF l h
      refine zE ?_
      obtain rfl:=sm h
      exact ⟨y,_,y,zo []⟩
    ·
     rintro ⟨⟩ rfl
     replace h:zju a=some r:=h
     unfold zju at h
     refine zy ?_
     refine rl y<|u<|mv y<|u<|add ti y y<|u<|asg y<|zb ?_
     obtain rfl:=sm h
     exact ⟨_,y,zo []⟩
    ·
     rintro r' rfl env st hp
     obtain rfl:=sm h
     exact ⟨_,y,hp⟩
   ·
    replace h:=bF i h
    refine zE ?_
    obtain rfl:=sm h
    exact ⟨y,_,y,zo []⟩
  ·
   rintro ⟨⟩ rfl
   replace h:zlw=some r:=h
   unfold zlw at h
   refine zy ?_
   refine rg y<|u<|asg y<|zb ?_
   refine zj ?_
   obtain rfl:=sm h
   exact ⟨_,y,zz []⟩
  ·
   rintro r' rfl env st hp
   obtain rfl:=sm h
   exact hp
def zhI(a:List za):Option (Bool):=
  (zhd).bind fun b=>cond (!b) (some false) ((znt a).bind fun c=>(zhJ c).bind fun d=>some d)
theorem znr(b:List za){r:Bool}(h:zhI b=some r):zG Tryz.prog 6 [.isl 6 (map zd b)] (bA r):=by
 refine zr Tryz.func6 y kz y y ?_
 unfold zhI at h
 refine rg y<|u<|asg y<|zb ?_
 obtain ⟨g,d,h⟩:=bs h
 refine rg y<|u<|pc (zik d) y y y<|u<|asg y<|zb ?_
 refine zi ?_
 refine rg y<|u<|mv y<|u<|nt y<|zb ?_
 refine ze y (fun a=>?_) (fun a=>?_)
 ·
  replace h:=bT a h
  refine rg y<|u<|asg y<|zb ?_
  refine zj ?_
  obtain rfl:=sm h
  exact ⟨_,y,zz []⟩
 ·
  replace h:=bF a h
  refine zg ?_
  obtain ⟨c,e,h⟩:=bs h
  obtain ⟨i,f,h⟩:=bs h
  refine rg y<|u<|mv y<|u<|sx [] (ztG b e)<|zx (env0:=[(8,.msl 0 0 (length c))]) (st0:=[some (6,map zd c)]) (zo [.old 0])<|u<|pcs (zjv c f) y y (.cons (zhm y (fun _=>y)) .nil) zcn<|u<|asg y<|zb ?_
  refine zj ?_
  obtain rfl:=sm h
  exact ⟨_,y,zz []⟩
def zcF(a:T0)(c:T0)(d:List zp):Option (Bool):=
  (zis [a] [86] 3 2 d ([(z8.mk 2 ([[66,98],a,c]) [])]) []).bind fun e=>(zhJ ([(za.mk [70,97,99,101] [79,98,106,101,99,116] true [] [] ([(zc.mk [102] [] [73] false true 0 0 [] [] [])])),(za.mk [65,97] [79,98,106,101,99,116] false ([[70,97,99,101]]) ([(zt.mk [120] [73] false),(zt.mk [115] [73] true)]) ([(zc.mk [102] [] [73] false false 1 1 ([(zp.mk 1 5 [] []),(zp.mk 47 0 [] [])]) [] [])])),(za.mk [66,98] [65,97] false [] ([(zt.mk [121] [91,65,97] false)]) e)])).bind fun b=>some b
def zcE(a:T0)(b:T0)(d:Bool)(c:List zp):Option (Bool):=
  cond d ((zh2 48 c ([(zp.mk 46 0 [] [])])).bind fun e=>zcF a b e) (zcF a b c)
def zg1(a:T0)(b:T0)(d:Bool)(c:Bool):Option (Bool):=
  (zhd).bind fun e=>cond (!e) (some false) (cond ((decide (8<(length a:Int)))||(decide (8<(length b:Int)))) (some true) (cond (!d) (zcE a b c ([(zp.mk 3 1 [] []),(zp.mk 4 1 [] []),(zp.mk 59 0 [] []),(zp.mk 21 2 [] []),(zp.mk 46 0 [] [])])) (zcE a b c ([(zp.mk 3 1 [] []),(zp.mk 4 2 [] []),(zp.mk 59 0 [] []),(zp.mk 21 2 [] []),(zp.mk 46 0 [] [])]))))
theorem zmR(a:T0)(b:T0)(o:Bool)(d:Bool){r:Bool}(h:zg1 a b o d=some r):zG Tryz.prog 9 [sA a,sA b,bA o,bA d] (bA r):=by
 refine zr Tryz.func9 y kz y y ?_
 unfold zg1 at h
 refine rg y<|u<|asg y<|zb ?_
 obtain ⟨D,q,h⟩:=bs h
 refine rg y<|u<|pc (zik q) y y y<|u<|asg y<|zb ?_
 refine zi ?_
 refine rg y<|u<|mv y<|u<|nt y<|zb ?_
 refine ze y (fun e=>?_) (fun e=>?_)
 ·
  replace h:=bT e h
  refine rg y<|u<|asg y<|zb ?_
  refine zj ?_
  obtain rfl:=sm h
  exact ⟨_,y,zz []⟩
 ·
  replace h:=bF e h
  refine zg ?_
  refine zi ?_
  refine rg y<|u<|mv y<|u<|lnS ti y y<|u<|gtr ti y y<|u<|mv y<|zcU (j:=3) 3 y y y y y gpn (fun c=>g y c<|mv y<|g y c<|lnS ti y y<|g y c<|gtr ti y y<|zb (egO [19,20,21] 3 c y y y y)) orT<|zb ?_
  refine ze y (fun i=>?_) (fun i=>?_)
  ·
   replace h:=bT i h
   refine rg y<|u<|asg y<|zb ?_
   refine zj ?_
   obtain rfl:=sm h
   exact ⟨_,y,zz []⟩
  ·
   replace h:=bF i h
   refine zg ?_
   refine rg y<|u<|bd ti y y y<|u<|bd ti y y y<|u<|bd ti y y y<|u<|bd ti y y y<|u<|bd ti y y y<|u<|bl 0 ti y ti y (by decide) (by decide) y y y<|u<|asg y<|zb ?_
   refine zaX (X:=(List zp)) (fun z=>[(0,sA a),(1,sA b),(3,bA d),(10,.msl 0 0 (length z))]) (fun z=>[some (4,map zu z)]) (fun z=>zcE a b d z=some r) ?_ ?_
   ·
    refine rg y<|u<|mv y<|u<|nt y<|zb ?_
    refine ze y (fun l=>?_) (fun l=>?_)
    ·
     replace h:=bT l h
     exact rl y<|u<|mv y<|u<|bd ti y y y<|u<|ixX ti y ti y y y<|u<|sto ti y y y<|zb (⟨[(zp.mk 3 1 [] []),(zp.mk 4 1 [] []),(zp.mk 59 0 [] []),(zp.mk 21 2 [] []),(zp.mk 46 0 [] [])],h,zo [.old 0]⟩)
    ·
     replace h:=bF l h
     refine zg ?_
     exact ⟨[(zp.mk 3 1 [] []),(zp.mk 4 2 [] []),(zp.mk 59 0 [] []),(zp.mk 21 2 [] []),(zp.mk 46 0 [] [])],h,zo [.old 0]⟩
   ·
    rintro p h
    replace h:zcE a b d p=some r:=h
    unfold zcE at h
    refine zaX (X:=(List zp)) (fun z=>[(0,sA a),(1,sA b),(10,.msl 0 0 (length z))]) (fun z=>[some (4,map zu z)]) (fun z=>zcF a b z=some r) ?_ ?_
    ·
     refine rg y<|u<|mv y<|zb ?_
     refine ze y (fun m=>?_) (fun m=>?_)
     ·
      replace h:=bT m h
      obtain ⟨s,v,h⟩:=bs h
      exact rl y<|u<|mv y<|u<|bd ti y y y<|u<|bl 1 ti y ti y (by decide) (by decide) y y y<|u<|apM 2 ti y ti y y (by decide) ti y y y y (roX (f:=zu) (z:=[(zp.mk 46 0 [] [])]) y y) (fun _=>y) y v<|u<|asg y<|zb (⟨s,h,zo [.old 2]⟩)
     ·
      replace h:=bF m h
      refine zg ?_
      exact ⟨p,h,zo [.old 0]⟩
    ·
     rintro n h
     replace h:zcF a b n=some r:=h
     unfold zcF at h
     obtain ⟨x,A,h⟩:=bs h
     refine rg y<|u<|mv y<|u<|bl 1 ti y ti y (by decide) (by decide) y y y<|u<|mv y<|u<|mv y<|u<|mv y<|u<|bl 2 ti y ti y (by decide) (by decide) y y y<|u<|bd ti y y y<|u<|bl 3 ti y ti y (by decide) (by decide) y y y<|zx (env0:=[(40,.isl 1 (map zf [a])),(41,.isl 4 (map zu n)),(46,.isl 3 (map zL ([(z8.mk 2 ([[66,98],a,b]) [])])))]) (st0:=[]) (zo [])<|u<|sc [] (zlx [a] [86] 3 2 n ([(z8.mk 2 ([[66,98],a,b]) [])]) [] A) y y y y ⟨(rnI y),(rnI y),(rnI y),(rnI y),(rnI y),(rnI y),(.nilI),t⟩ t<|u<|asg y<|zb ?_
     obtain ⟨C,B,h⟩:=bs h
     refine rg y<|u<|mv y<|u<|pcs (zjv ([(za.mk [70,97,99,101] [79,98,106,101,99,116] true [] [] ([(zc.mk [102] [] [73] false true 0 0 [] [] [])])),(za.mk [65,97] [79,98,106,101,99,116] false ([[70,97,99,101]]) ([(zt.mk [120] [73] false),(zt.mk [115] [73] true)]) ([(zc.mk [102] [] [73] false false 1 1 ([(zp.mk 1 5 [] []),(zp.mk 47 0 [] [])]) [] [])])),(za.mk [66,98] [65,97] false [] ([(zt.mk [121] [91,65,97] false)]) x)]) B) y y (.cons (zjL y ⟨⟨(si y),(si y),(si y),(.nil),(.nil),(zjL y ⟨⟨(si y),(.nil),(si y),(si y),(si y),(si y),(si y),(.nil),(.nil),(.nil),t⟩,t⟩),t⟩,⟨(si y),(si y),(si y),(zjL y ⟨⟨(si y),t⟩,t⟩),(zjL y ⟨⟨(si y),(si y),(si y),t⟩,⟨(si y),(si y),(si y),t⟩,t⟩),(zjL y ⟨⟨(si y),(.nil),(si y),(si y),(si y),(si y),(si y),(zjL y ⟨⟨(si y),(si y),(si y),(si y),t⟩,⟨(si y),(si y),(si y),(si y),t⟩,t⟩),(.nil),(.nil),t⟩,t⟩),t⟩,⟨(si y),(si y),(si y),(.nil),(zjL y ⟨⟨(si y),(si y),(si y),t⟩,t⟩),(zhm y (fun _=>y)),t⟩,t⟩) .nil) zcn<|u<|asg y<|zb ?_
     refine zj ?_
     obtain rfl:=sm h
     exact ⟨_,y,zz []⟩
def zgq(a:Int)(b:Int)(c:T0)(d:T0)(e:T0):Option (Bool):=
  (zhd).bind fun f=>cond (!f) (some false) (cond ((((((decide (a<0))||(decide (b≤a)))||(decide (6<b)))||(decide (8<(length c:Int))))||(decide (8<(length d:Int))))||(decide (8<(length e:Int)))) (some true) ((zis [] [86] 3 2 ([(zp.mk 1 1 [] []),(zp.mk 4 1 [] []),(zp.mk 2 0 [] []),(zp.mk 4 1 [] []),(zp.mk 46 0 [] []),(zp.mk 4 2 [] []),(zp.mk 46 0 [] [])]) ([(z8.mk 5 ([[66,98],d,[84]]) [e])]) [(zaF.mk a b 5 c)]).bind fun g=>(zhJ ([(za.mk [70,97,99,101] [79,98,106,101,99,116] true [] [] ([(zc.mk [102] [] [73] false true 0 0 [] [] [])])),(za.mk [65,97] [79,98,106,101,99,116] false ([[70,97,99,101]]) ([(zt.mk [120] [73] false),(zt.mk [115] [73] true)]) ([(zc.mk [102] [] [73] false false 1 1 ([(zp.mk 1 5 [] []),(zp.mk 47 0 [] [])]) [] [])])),(za.mk [66,98] [65,97] false [] ([(zt.mk [121] [91,65,97] false)]) g)])).bind fun h=>some h))
theorem zmi(l:Int)(m:Int)(n:T0)(o:T0)(p:T0){r:Bool}(h:zgq l m n o p=some r):zG Tryz.prog 10 [iA l,iA m,sA n,sA o,sA p] (bA r):=by
 refine zr Tryz.func10 y kz y y ?_
 unfold zgq at h
 refine rg y<|u<|asg y<|zb ?_
 obtain ⟨z,s,h⟩:=bs h
 refine rg y<|u<|pc (zik s) y y y<|u<|asg y<|zb ?_
 refine zi ?_
 refine rg y<|u<|mv y<|u<|nt y<|zb ?_
 refine ze y (fun e=>?_) (fun e=>?_)
 ·
  replace h:=bT e h
  refine rg y<|u<|asg y<|zb ?_
  refine zj ?_
  obtain rfl:=sm h
  exact ⟨_,y,zz []⟩
 ·
  replace h:=bF e h
  refine zg ?_
  refine zi ?_
  refine rg y<|u<|mv y<|u<|lss ti y y<|u<|mv y<|zcU (j:=2) 3 y y y y y gpn (fun a=>g y a<|mv y<|g y a<|mv y<|g y a<|leq ti y y<|zb (egO [20,21,22] 3 a y y y y)) orT<|u<|mv y<|zcU (j:=7) 2 y y y y y gpn (fun f=>g y f<|mv y<|g y f<|gtr ti y y<|zb (egO [25,26] 2 f y y y y)) orT<|u<|mv y<|zcU (j:=11) 3 y y y y y gpn (fun b=>g y b<|mv y<|g y b<|lnS ti y y<|g y b<|gtr ti y y<|zb (egO [29,30,31] 3 b y y y y)) orT<|u<|mv y<|zcU (j:=16) 3 y y y y y gpn (fun c=>g y c<|mv y<|g y c<|lnS ti y y<|g y c<|gtr ti y y<|zb (egO [34,35,36] 3 c y y y y)) orT<|u<|mv y<|zcU (j:=21) 3 y y y y y gpn (fun d=>g y d<|mv y<|g y d<|lnS ti y y<|g y d<|gtr ti y y<|zb (egO [39,40,41] 3 d y y y y)) orT<|zb ?_
  refine ze y (fun i=>?_) (fun i=>?_)
  ·
   replace h:=bT i h
   refine rg y<|u<|asg y<|zb ?_
   refine zj ?_
   obtain rfl:=sm h
   exact ⟨_,y,zz []⟩
  ·
   replace h:=bF i h
   refine zg ?_
   refine rg y<|u<|bd ti y y y<|u<|bd ti y y y<|u<|bd ti y y y<|u<|bd ti y y y<|u<|bd ti y y y<|u<|bd ti y y y<|u<|bd ti y y y<|u<|bl 0 ti y ti y (by decide) (by decide) y y y<|u<|asg y<|zb ?_
   obtain ⟨v,x,h⟩:=bs h
   refine rg y<|u<|mv y<|u<|mv y<|u<|bl 1 ti y ti y (by decide) (by decide) y y y<|u<|mv y<|u<|bl 2 ti y ti y (by decide) (by decide) y y y<|u<|bd ti y y y<|u<|bl 3 ti y ti y (by decide) (by decide) y y y<|u<|mv y<|u<|mv y<|u<|mv y<|u<|bd ti y y y<|u<|bl 4 ti y ti y (by decide) (by decide) y y y<|zx (env0:=[(51,.isl 4 (map zu ([(zp.mk 1 1 [] []),(zp.mk 4 1 [] []),(zp.mk 2 0 [] []),(zp.mk 4 1 [] []),(zp.mk 46 0 [] []),(zp.mk 4 2 [] []),(zp.mk 46 0 [] [])]))),(57,.isl 3 (map zL ([(z8.mk 5 ([[66,98],o,[84]]) [p])]))),(62,.isl 4 (map za9 [(zaF.mk l m 5 n)]))]) (st0:=[]) (zo [])<|u<|sc [] (zlx [] [86] 3 2 ([(zp.mk 1 1 [] []),(zp.mk 4 1 [] []),(zp.mk 2 0 [] []),(zp.mk 4 1 [] []),(zp.mk 46 0 [] []),(zp.mk 4 2 [] []),(zp.mk 46 0 [] [])]) ([(z8.mk 5 ([[66,98],o,[84]]) [p])]) [(zaF.mk l m 5 n)] x) y y y y ⟨(.nilI),(rnI y),(rnI y),(rnI y),(rnI y),(rnI y),(rnI y),t⟩ t<|u<|asg y<|zb ?_
   obtain ⟨A,q,h⟩:=bs h
   refine rg y<|u<|mv y<|u<|pcs (zjv ([(za.mk [70,97,99,101] [79,98,106,101,99,116] true [] [] ([(zc.mk [102] [] [73] false true 0 0 [] [] [])])),(za.mk [65,97] [79,98,106,101,99,116] false ([[70,97,99,101]]) ([(zt.mk [120] [73] false),(zt.mk [115] [73] true)]) ([(zc.mk [102] [] [73] false false 1 1 ([(zp.mk 1 5 [] []),(zp.mk 47 0 [] [])]) [] [])])),(za.mk [66,98] [65,97] false [] ([(zt.mk [121] [91,65,97] false)]) v)]) q) y y (.cons (zjL y ⟨⟨(si y),(si y),(si y),(.nil),(.nil),(zjL y ⟨⟨(si y),(.nil),(si y),(si y),(si y),(si y),(si y),(.nil),(.nil),(.nil),t⟩,t⟩),t⟩,⟨(si y),(si y),(si y),(zjL y ⟨⟨(si y),t⟩,t⟩),(zjL y ⟨⟨(si y),(si y),(si y),t⟩,⟨(si y),(si y),(si y),t⟩,t⟩),(zjL y ⟨⟨(si y),(.nil),(si y),(si y),(si y),(si y),(si y),(zjL y ⟨⟨(si y),(si y),(si y),(si y),t⟩,⟨(si y),(si y),(si y),(si y),t⟩,t⟩),(.nil),(.nil),t⟩,t⟩),t⟩,⟨(si y),(si y),(si y),(.nil),(zjL y ⟨⟨(si y),(si y),(si y),t⟩,t⟩),(zhm y (fun _=>y)),t⟩,t⟩) .nil) zcn<|u<|asg y<|zb ?_
   refine zj ?_
   obtain rfl:=sm h
   exact ⟨_,y,zz []⟩
def zg0(a:T0)(b:T0)(e:Bool):Option (Bool):=
  (zhd).bind fun f=>cond (!f) (some false) ((cond ((decide (8<(length a:Int)))||(decide (8<(length b:Int)))) (some true) ((zfe a).bind fun g=>some (!g))).bind fun h=>(cond h (some true) ((zfe b).bind fun i=>some (!i))).bind fun j=>cond j (some true) ((zis [a] [73] 2 4 ([(zp.mk 3 0 [] []),(zp.mk 3 1 [] []),(zp.mk 43 0 [66,98] [107]),(zp.mk 47 0 [] [])]) [] []).bind fun l=>(zh2 152 l ([(zc.mk [107] [b] [73] e false 2 1 ([(zp.mk 1 0 [] []),(zp.mk 47 0 [] [])]) [] [])])).bind fun c=>(zhJ ([(za.mk [70,97,99,101] [79,98,106,101,99,116] true [] [] ([(zc.mk [102] [] [73] false true 0 0 [] [] [])])),(za.mk [65,97] [79,98,106,101,99,116] false ([[70,97,99,101]]) ([(zt.mk [120] [73] false),(zt.mk [115] [73] true)]) ([(zc.mk [102] [] [73] false false 1 1 ([(zp.mk 1 5 [] []),(zp.mk 47 0 [] [])]) [] [])])),(za.mk [66,98] [65,97] false [] ([(zt.mk [121] [91,65,97] false)]) c)])).bind fun d=>some d))
theorem zmP(m:T0)(b:T0)(a:Bool){r:Bool}(h:zg0 m b a=some r):zG Tryz.prog 12 [sA m,sA b,bA a] (bA r):=by
 refine zr Tryz.func12 y kz y y ?_
 unfold zg0 at h
 refine rg y<|u<|asg y<|zb ?_
 obtain ⟨F,z,h⟩:=bs h
 refine rg y<|u<|pc (zik z) y y y<|u<|asg y<|zb ?_
 refine zi ?_
 refine rg y<|u<|mv y<|u<|nt y<|zb ?_
 refine ze y (fun n=>?_) (fun n=>?_)
 ·
  replace h:=bT n h
  refine rg y<|u<|asg y<|zb ?_
  refine zj ?_
  obtain rfl:=sm h
  exact ⟨_,y,zz []⟩
 ·
  replace h:=bF n h
  refine zg ?_
  refine zi ?_
  obtain ⟨A,i,h⟩:=bs h
  obtain ⟨B,l,h⟩:=bs h
  refine rg y<|u<|mv y<|u<|lnS ti y y<|u<|gtr ti y y<|u<|mv y<|zcU (j:=3) 3 y y y y y gpn (fun d=>g y d<|mv y<|g y d<|lnS ti y y<|g y d<|gtr ti y y<|zb (egO [16,17,18] 3 d y y y y)) orT<|u<|mv y<|zcU (x:=A) (j:=8) 3 y y y y y gpn (fun e=>by replace i:=bF e i;obtain ⟨G,C,i⟩:=bs i;obtain rfl:=sm i;exact g y e<|mv y<|g y e<|pc (zee m C) y y y<|g y e<|nt y<|zb (eg [21,22,23] 3 y y y y)) (fun hb=>(sm (bT hb i)).symm)<|u<|mv y<|zcU (x:=B) (j:=13) 3 y y y y y gpn (fun f=>by replace l:=bF f l;obtain ⟨H,D,l⟩:=bs l;obtain rfl:=sm l;exact g y f<|mv y<|g y f<|pc (zee b D) y y y<|g y f<|nt y<|zb (eg [26,27,28] 3 y y y y)) (fun hb=>(sm (bT hb l)).symm)<|zb ?_
  refine ze y (fun c=>?_) (fun c=>?_)
  ·
   replace h:=bT c h
   refine rg y<|u<|asg y<|zb ?_
   refine zj ?_
   obtain rfl:=sm h
   exact ⟨_,y,zz []⟩
  ·
   replace h:=bF c h
   refine zg ?_
   obtain ⟨o,p,h⟩:=bs h
   refine rg y<|u<|mv y<|u<|bl 0 ti y ti y (by decide) (by decide) y y y<|u<|bd ti y y y<|u<|bd ti y y y<|u<|bd ti y y y<|u<|bd ti y y y<|u<|bl 1 ti y ti y (by decide) (by decide) y y y<|zx (env0:=[(1,sA b),(2,bA a),(31,.isl 1 (map zf [m])),(36,.isl 4 (map zu ([(zp.mk 3 0 [] []),(zp.mk 3 1 [] []),(zp.mk 43 0 [66,98] [107]),(zp.mk 47 0 [] [])])))]) (st0:=[]) (zo [])<|u<|sc [] (zlx [m] [73] 2 4 ([(zp.mk 3 0 [] []),(zp.mk 3 1 [] []),(zp.mk 43 0 [66,98] [107]),(zp.mk 47 0 [] [])]) [] [] p) y y y y ⟨(rnI y),(rnI y),(rnI y),(rnI y),(rnI y),(.nilI),(.nilI),t⟩ t<|zx (env0:=[(1,sA b),(2,bA a),(37,.msl 0 0 3)]) (st0:=[some (6,[[sA [70,97,99,101],sA [79,98,106,101,99,116],bA true,.lit (.slice none 0 0),.lit (.slice none 0 0),.msl 1 0 1],[sA [65,97],sA [79,98,106,101,99,116],bA false,.msl 2 0 1,.msl 3 0 2,.msl 4 0 1],[sA [66,98],sA [65,97],bA false,.lit (.slice none 0 0),.msl 6 0 1,.msl 7 0 (length o)]]),some (10,[[sA [102],.lit (.slice none 0 0),sA [73],bA false,bA true,iA 0,iA 0,.lit (.slice none 0 0),.lit (.slice none 0 0),.lit (.slice none 0 0)]]),some (1,[[sA [70,97,99,101]]]),some (3,[[sA [120],sA [73],bA false],[sA [115],sA [73],bA true]]),some (10,[[sA [102],.lit (.slice none 0 0),sA [73],bA false,bA false,iA 1,iA 1,.msl 5 0 2,.lit (.slice none 0 0),.lit (.slice none 0 0)]]),some (4,[[iA 1,iA 5,sA [],sA []],[iA 47,iA 0,sA [],sA []]]),some (3,[[sA [121],sA [91,65,97],bA false]]),some (10,map zh o)]) (zo [.old 0,.old 1,.old 2,.old 3,.old 4,.old 5,.old 6,.old 7])<|u<|asg y<|zb ?_
   obtain ⟨q,s,h⟩:=bs h
   refine rg y<|u<|mv y<|u<|mv y<|u<|ixX ti y ti y y y<|u<|fa ti y y y<|u<|ld ti y y<|u<|mv y<|u<|bl 8 ti y ti y (by decide) (by decide) y y y<|u<|mv y<|u<|bd ti y y y<|u<|bd ti y y y<|u<|bl 9 ti y ti y (by decide) (by decide) y y y<|u<|bd (parts:=[(0,sA [107]),(1,.msl 8 0 1),(2,sA [73]),(3,bA a),(5,iA 2),(6,iA 1),(7,.msl 9 0 2)]) (cs:=[sA [107],.msl 8 0 1,sA [73],bA a,bA false,iA 2,iA 1,.msl 9 0 2,.lit (.slice none 0 0),.lit (.slice none 0 0)]) ti y y kz<|u<|bl 10 ti y ti y (by decide) (by decide) y y y<|zx (env0:=[(8,.msl 0 0 3),(38,.msl 0 0 3),(42,.msl 7 0 (length o)),(50,.msl 8 0 (length ([(zc.mk [107] [b] [73] a false 2 1 ([(zp.mk 1 0 [] []),(zp.mk 47 0 [] [])]) [] [])])))]) (st0:=[some (6,[[sA [70,97,99,101],sA [79,98,106,101,99,116],bA true,.lit (.slice none 0 0),.lit (.slice none 0 0),.msl 1 0 1],[sA [65,97],sA [79,98,106,101,99,116],bA false,.msl 2 0 1,.msl 3 0 2,.msl 4 0 1],[sA [66,98],sA [65,97],bA false,.lit (.slice none 0 0),.msl 6 0 1,.msl 7 0 (length o)]]),some (10,[[sA [102],.lit (.slice none 0 0),sA [73],bA false,bA true,iA 0,iA 0,.lit (.slice none 0 0),.lit (.slice none 0 0),.lit (.slice none 0 0)]]),some (1,[[sA [70,97,99,101]]]),some (3,[[sA [120],sA [73],bA false],[sA [115],sA [73],bA true]]),some (10,[[sA [102],.lit (.slice none 0 0),sA [73],bA false,bA false,iA 1,iA 1,.msl 5 0 2,.lit (.slice none 0 0),.lit (.slice none 0 0)]]),some (4,[[iA 1,iA 5,sA [],sA []],[iA 47,iA 0,sA [],sA []]]),some (3,[[sA [121],sA [91,65,97],bA false]]),some (10,map zh o),some (10,map zh ([(zc.mk [107] [b] [73] a false 2 1 ([(zp.mk 1 0 [] []),(zp.mk 47 0 [] [])]) [] [])]))]) (zo [.old 0,.old 1,.old 2,.old 3,.old 4,.old 5,.old 6,.old 7,.old 10])<|u<|apM 9 ti y ti y y (by decide) ti y y y y (roM y) (fun _=>y) y s<|u<|ixX ti y ti y y y<|u<|fa ti y y y<|u<|sto ti y y y<|zb ?_
   obtain ⟨E,v,h⟩:=bs h
   refine rg y<|u<|mv y<|u<|pcs (zjv ([(za.mk [70,97,99,101] [79,98,106,101,99,116] true [] [] ([(zc.mk [102] [] [73] false true 0 0 [] [] [])])),(za.mk [65,97] [79,98,106,101,99,116] false ([[70,97,99,101]]) ([(zt.mk [120] [73] false),(zt.mk [115] [73] true)]) ([(zc.mk [102] [] [73] false false 1 1 ([(zp.mk 1 5 [] []),(zp.mk 47 0 [] [])]) [] [])])),(za.mk [66,98] [65,97] false [] ([(zt.mk [121] [91,65,97] false)]) q)]) v) y y (.cons (zjL y ⟨⟨(si y),(si y),(si y),(.nil),(.nil),(zjL y ⟨⟨(si y),(.nil),(si y),(si y),(si y),(si y),(si y),(.nil),(.nil),(.nil),t⟩,t⟩),t⟩,⟨(si y),(si y),(si y),(zjL y ⟨⟨(si y),t⟩,t⟩),(zjL y ⟨⟨(si y),(si y),(si y),t⟩,⟨(si y),(si y),(si y),t⟩,t⟩),(zjL y ⟨⟨(si y),(.nil),(si y),(si y),(si y),(si y),(si y),(zjL y ⟨⟨(si y),(si y),(si y),(si y),t⟩,⟨(si y),(si y),(si y),(si y),t⟩,t⟩),(.nil),(.nil),t⟩,t⟩),t⟩,⟨(si y),(si y),(si y),(.nil),(zjL y ⟨⟨(si y),(si y),(si y),t⟩,t⟩),(zhm y (fun _=>y)),t⟩,t⟩) .nil) zcn<|u<|asg y<|zb ?_
   refine zj ?_
   obtain rfl:=sm h
   exact ⟨_,y,zz []⟩
theorem zD{α:Type}(l:List α)(i:Nat):idx l (i:Int)=l[i]?:=by
 unfold idx
 rw [if_pos (by omega),Int.toNat_natCast]
theorem ziO{α:Type}(l:List α):idx l 0=l[0]?:=zD l 0
theorem zld{n:Int}(h1:-9223372036854775808≤n)(h2:n≤9223372036854775807):IntKind.i64.wrap n=n:=IntWalk.i64_in n ⟨h1,h2⟩
theorem zaz{i:Nat}(h:i<9223372036854775807):IntKind.i64.wrap ((i:Int)+1)=((i+1:Nat):Int):=by
 rw [zld (by omega) (by omega)];omega
theorem zsk{α:Type}{l:List α}{a b:Int}(h0:0≤a)(h1:a≤b)(h2:b≤l.length):zkh l a b=some ((l.drop a.toNat).take (b.toNat-a.toNat)):=by
 unfold zkh;rw [if_pos ⟨h0,h1,h2⟩]
theorem zn1{α:Type}{l:List α}{b:Nat}(h:b≤l.length):zkh l 0 (b:Int)=some (l.take b):=by
 rw [zsk (by omega) (by omega) (by omega)];simp
theorem zio{α:Type}{l:List α}{a:Nat}(h:a≤l.length):zkh l (a:Int) (l.length:Int)=some (l.drop a):=by
 rw [zsk (by omega) (by omega) (by omega)]
 simp only [Int.toNat_natCast]
 rw [List.take_of_length_le (by simp)]
theorem zdm{α:Type}{w:Nat}{l x:List α}(h:(l.length+x.length)*w≤140737488355328)(h2:l.length+x.length≤9223372036854775807):zh2 w l x=some (l++x):=by
 unfold zh2;rw [if_pos ⟨h,h2⟩]
theorem zwD{l x:List UInt8}(h:l.length+x.length≤9223372036854775807):zz4 l x=some (l++x):=by unfold zz4;rw [if_pos h]
def zpr{R U:Type}(u:U):Option R→Sum U R
 |some r=>.inr r
 |none=>.inl u
def zul{R U:Type}(i:Nat):Option R→Sum Int (Sum U R)
 |some r=>.inr (.inr r)
 |none=>.inl ((i+1:Nat):Int)
theorem zlz{α R U:Type}{body:Int→Option (Sum Int (Sum U R))}{l:List α}{g:α→Option R}{u:U}{k:Nat}
  (hb:∀(i:Nat) x,k≤i→l[i]?=some x→body (i:Int)=some (zul i (g x)))
  (he:body (l.length:Int)=some (.inr (.inl u))) (hk:k≤l.length):zw body (k:Int)=some (zpr u ((l.drop k).findSome? g)):=by
 have key:∀d i,l.length-i=d→k≤i→i≤l.length→zw body (i:Int)=some (zpr u ((l.drop i).findSome? g)):=by
  intro d
  induction d with
  |zero =>
   intro i hd hki hi
   have:i=l.length:=by omega
   subst this
   rw [zN,he,List.drop_length]
   rfl
  |succ d ih =>
   intro i hd hki hi
   have hlt:i<l.length:=by omega
   rw [zN,hb i l[i] hki (List.getElem?_eq_getElem hlt),List.drop_eq_getElem_cons hlt,List.findSome?_cons]
   cases g l[i] with
   |some r=>rfl
   |none =>
    show zw body ((i+1:Nat):Int)=_
    exact ih (i+1) (by omega) (by omega) (by omega)
 exact key _ k rfl (Nat.le_refl _) hk
theorem zeR{α R U:Type}{body:Int→Option (Sum Int (Sum U R))}{l:List α}{g:α→Option R}{u:U}
  (hb:∀(i:Nat) x,l[i]?=some x→body (i:Int)=some (zul i (g x)))
  (he:body (l.length:Int)=some (.inr (.inl u))):zw body 0=some (zpr u (l.findSome? g)):=
 zlz (k:=0) (fun i x _=>hb i x) he (Nat.zero_le _)
theorem zvH{R U:Type}{body:Int→Option (Sum Int (Sum U R))}{n:Nat}{g:Nat→Option R}{u:U}
  (hb:∀i,i<n→body (i:Int)=some (zul i (g i)))
  (he:body (n:Int)=some (.inr (.inl u))):zw body 0=some (zpr u ((List.range n).findSome? g)):=by
 have h:=zeR (body:=body) (l:=List.range n) (g:=g) (u:=u) (fun i x hx=>by
  have hi:i<n:=by
   have:=(List.getElem?_eq_some_iff.1 hx).1
   simpa using this
  have hx':x=i:=by
   have:=(List.getElem?_eq_some_iff.1 hx).2
   simpa using this.symm
  subst hx'
  exact hb x hi) (by rw [List.length_range];exact he)
 exact h
theorem zdB{α R:Type}(l:List α)(p:α→Bool)(r:R):l.findSome? (fun x=>cond (p x) (some r) none)=cond (l.any p) (some r) none:=by
 induction l with
 |nil=>rfl
 |cons x l ih =>
  rw [List.findSome?_cons,List.any_cons]
  cases p x with
  |true=>rfl
  |false=>simpa using ih
def zig(n:Int):Nat:=if n<0 then (-2*n-1).toNat else (2*n).toNat
def zC9:Nat→Nat→List UInt8
 | 0,_=>[]
 |k+1,u=>if 127<u then UInt8.ofNat (u % 128+128)::zC9 k (u / 128) else [UInt8.ofNat u]
def put(n:Int):List UInt8:=zC9 10 (zig n)
def okC(x:UInt8):Bool:=zc5 x||zdP x||zht x
def zvF(p:UInt8→Bool):List UInt8→Bool
 | []=>false
 |x :: _=>p x
def zop(s:List UInt8):Bool:=s.all okC&&(!(s == [])&&decide ((s.length:Int)≤8))
def zcy(s:List UInt8):Bool:=zop s&&decide (1<(s.length:Int))&&zvF zdP s
def zpG(s:List UInt8):Bool:=(s == [36,105,110,105,116])||(zop s&&zvF zc5 s)
def zfm:List UInt8→List UInt8
 | []=>[]
 |x ::r=>if x=91 then r else x ::r
def zfq(s:List UInt8):Bool:=(zfm (zfm s) == [73])||zcy (zfm (zfm s))
def zo6(s:List UInt8):Bool:=!(s == [73])&&zfq s
def zsV(s:List UInt8):Bool:=(s == [86])||zfq s
abbrev Len(s:List UInt8):Prop:=s.length≤9223372036854775807
theorem ztO{α:Type}(l:List α)(p:α→Bool):l.any (fun x=>!p x)=!l.all p:=by
 induction l with
 |nil=>rfl
 |cons x l ih=>rw [List.any_cons,List.all_cons,ih];cases p x <;> rfl
theorem zoz{s:List UInt8}(h:Len s):zjY s=some (zop s):=by
 have hl:zw (fun z=>ze5 s z) 0=_:=zeR (l:=s) (g:=fun x=>cond (!okC x) (some false) none) (u:=()) (fun i x hx=>by
  have hi:=(List.getElem?_eq_some_iff.1 hx).1
  show ze5 s (i:Int)=_
  unfold ze5
  rw [zD,hx,decide_eq_true (by omega),zaz (by unfold Len at h;omega)]
  unfold okC
  cases h1:zc5 x <;> cases h2:zdP x <;> cases h3:zht x <;> simp [h1,h2,h3,zul]) (by
  show ze5 s (s.length:Int)=_
  unfold ze5
  rw [decide_eq_false (by omega)]
  rfl)
 unfold zjY
 rw [hl,zdB,ztO]
 unfold zop
 cases s.all okC <;> rfl
theorem zl5(p:UInt8→Bool)(x:UInt8)(r:List UInt8):zvF p (x ::r)=p x:=rfl
theorem zvj{s:List UInt8}(h:zop s=true):∃x r,s=x ::r:=by
 cases s with
 |nil=>exact absurd h (by decide)
 |cons x r=>exact ⟨x,r,rfl⟩
theorem zgo{s:List UInt8}(h:Len s):zfB s=some (zcy s):=by
 unfold zfB
 rw [zoz h,ziO]
 unfold zcy
 cases hw:zop s with
 |false=>rfl
 |true =>
  obtain ⟨x,r,rfl⟩:=zvj hw
  simp only [Option.bind_some,Bool.true_and,List.getElem?_cons_zero]
  cases decide (1<((x ::r).length:Int)) <;> rfl
theorem zlt{s:List UInt8}(h:Len s):zi7 s=some (zpG s):=by
 unfold zi7
 rw [zoz h,ziO]
 unfold zpG
 cases s == [36,105,110,105,116] with
 |true=>rfl
 |false =>
  cases hw:zop s with
  |false=>rfl
  |true =>
   obtain ⟨x,r,rfl⟩:=zvj hw
   rfl
theorem zgz(x:UInt8)(r:List UInt8):zfm (x ::r)=if x=91 then r else x ::r:=rfl
theorem znP(s:List UInt8):(zfm s).length≤s.length:=by
 cases s with
 |nil=>exact Nat.le_refl _
 |cons x r=>rw [zgz];split <;> simp
theorem zyr{s:List UInt8}(h:Len s):zdS s [91]=some (zfm s):=by
 unfold zdS zcl zcp
 cases s with
 |nil=>rfl
 |cons x r =>
  have e1:decide ((List.length [(91:UInt8)]:Int)≤(List.length (x ::r):Int))=true:=decide_eq_true (by simp only [List.length_cons,List.length_nil];omega)
  have e2:zkh (x ::r) 0 (List.length [(91:UInt8)]:Int)=some [x]:=by
   have:=zn1 (l:=x ::r) (b:=1) (by simp)
   simpa using this
  have e3:zkh (x ::r) (List.length [(91:UInt8)]:Int) (List.length (x ::r):Int)=some r:=by
   have:=zio (l:=x ::r) (a:=1) (by simp)
   simpa using this
  rw [e1,e2,e3,zgz]
  by_cases hx:x=91
  ·subst hx;rfl
  ·rw [if_neg hx]
   have:([x] == [(91:UInt8)])=false:=by simp [hx]
   simp [this]
theorem zhb{s:List UInt8}(h:Len s):zhH s=some (zfq s):=by
 have h1:=znP s
 have h2:=znP (zfm s)
 unfold zhH
 rw [zyr h,Option.bind_some,zyr (by unfold Len at *;omega),Option.bind_some,zgo (by unfold Len at *;omega)]
 unfold zfq
 cases zfm (zfm s) == [73] <;> rfl
theorem zkB{s:List UInt8}(h:Len s):zjt s=some (zo6 s):=by
 unfold zjt
 rw [zhb h]
 unfold zo6
 cases s == [73] <;> rfl
theorem ztA{s:List UInt8}(h:Len s):znn s=some (zsV s):=by
 unfold znn
 rw [zhb h]
 unfold zsV
 cases s == [86] <;> rfl
theorem zpU(x:UInt8):zj8 x=zdP x:=rfl
theorem zoj(x:UInt8):zjg x=zc5 x:=rfl
theorem zsT(x:UInt8):zj7 x=zht x:=rfl
theorem zgt{s:List UInt8}(h:Len s):zfC s=some (zcy s):=by
 unfold zfC
 have hend:zc0 s (s.length:Int)=some (.inr (.inl ())):=by
  unfold zc0;rw [decide_eq_false (by omega)];rfl
 cases s with
 |nil=>rw [zN];rfl
 |cons x r =>
  have hrest:zw (fun z=>zc0 (x ::r) z) ((1:Nat):Int)=some (zpr () (((x ::r).drop 1).findSome? (fun y=>cond (!okC y) (some false) none))):=
   zlz (k:=1) (g:=fun y=>cond (!okC y) (some false) none) (fun i y hi hy=>by
    have hlt:=(List.getElem?_eq_some_iff.1 hy).1
    show zc0 (x ::r) (i:Int)=_
    unfold zc0
    rw [zD,hy,decide_eq_true (by omega),zaz (by unfold Len at h;omega)]
    have e:((i:Int) == (0:Int))=false:=by simp;omega
    rw [e]
    simp only [zpU,zoj,zsT]
    unfold okC
    cases h1:zc5 y <;> cases h2:zdP y <;> cases h3:zht y <;> simp [h1,h2,h3,zul]) hend (by simp)
  have hfirst:zc0 (x ::r) 0=some (cond (zdP x) (.inl 1) (.inr (.inr false))):=by
   unfold zc0
   rw [ziO,decide_eq_true (by simp only [List.length_cons,List.length_nil];omega)]
   simp only [zpU]
   have:IntKind.i64.wrap (0+1)=1:=by decide
   rw [this]
   simp only [List.getElem?_cons_zero,Option.bind_some]
   cases hg:zdP x <;> rfl
  rw [zN,hfirst]
  cases hg:zdP x with
  |false =>
   have:zcy (x ::r)=false:=by unfold zcy;rw [zl5,hg];simp
   rw [this]
   rfl
  |true =>
   show ((zw (fun z=>zc0 (x ::r) z) ((1:Nat):Int)).bind _)=_
   rw [hrest,List.drop_one,List.tail_cons,zdB,ztO]
   have:zcy (x ::r)=(r.all okC&&(decide (2≤(List.length (x ::r):Int))&&decide ((List.length (x ::r):Int)≤8))):=by
    unfold zcy zop
    rw [zl5]
    have ho:okC x=true:=by unfold okC;rw [hg];simp
    rw [List.all_cons,ho,hg]
    have e:decide (1<(List.length (x ::r):Int))=decide (2≤(List.length (x ::r):Int)):=by congr 1
    rw [e]
    have e2:((x ::r) == [])=false:=rfl
    rw [e2]
    cases r.all okC <;> cases decide (2≤(List.length (x ::r):Int)) <;> cases decide ((List.length (x ::r):Int)≤8) <;> rfl
   rw [this]
   cases r.all okC <;> rfl
theorem zlE{s:List UInt8}(h:Len s):zjf s=some (zpG s):=by
 unfold zjf
 have hend:zdH s (s.length:Int)=some (.inr (.inl ())):=by
  unfold zdH;rw [decide_eq_false (by omega)];rfl
 unfold zpG
 cases s == [36,105,110,105,116] with
 |true=>rfl
 |false =>
 show (zw _ _).bind _=some (zop s&&zvF zc5 s)
 cases s with
 |nil=>rw [zN];rfl
 |cons x r =>
  have hrest:zw (fun z=>zdH (x ::r) z) ((1:Nat):Int)=some (zpr () (((x ::r).drop 1).findSome? (fun y=>cond (!okC y) (some false) none))):=
   zlz (k:=1) (g:=fun y=>cond (!okC y) (some false) none) (fun i y hi hy=>by
    have hlt:=(List.getElem?_eq_some_iff.1 hy).1
    show zdH (x ::r) (i:Int)=_
    unfold zdH
    rw [zD,hy,decide_eq_true (by omega),zaz (by unfold Len at h;omega)]
    have e:((i:Int) == (0:Int))=false:=by simp;omega
    rw [e]
    simp only [zpU,zoj,zsT]
    unfold okC
    cases h1:zc5 y <;> cases h2:zdP y <;> cases h3:zht y <;> simp [h1,h2,h3,zul]) hend (by simp)
  have hfirst:zdH (x ::r) 0=some (cond (zc5 x) (.inl 1) (.inr (.inr false))):=by
   unfold zdH
   rw [ziO,decide_eq_true (by simp only [List.length_cons,List.length_nil];omega)]
   simp only [zoj]
   have:IntKind.i64.wrap (0+1)=1:=by decide
   rw [this]
   simp only [List.getElem?_cons_zero,Option.bind_some]
   cases hg:zc5 x <;> rfl
  rw [zN,hfirst]
  cases hg:zc5 x with
  |false =>
   have:(zop (x ::r)&&zvF zc5 (x ::r))=false:=by rw [zl5,hg];simp
   rw [this]
   rfl
  |true =>
   show ((zw (fun z=>zdH (x ::r) z) ((1:Nat):Int)).bind _)=_
   rw [hrest,List.drop_one,List.tail_cons,zdB,ztO]
   have:(zop (x ::r)&&zvF zc5 (x ::r))=(r.all okC&&(decide (1≤(List.length (x ::r):Int))&&decide ((List.length (x ::r):Int)≤8))):=by
    unfold zop
    rw [zl5]
    have ho:okC x=true:=by unfold okC;rw [hg];simp
    rw [List.all_cons,ho,hg]
    have e2:((x ::r) == [])=false:=rfl
    have e3:decide (1≤(List.length (x ::r):Int))=true:=decide_eq_true (by simp only [List.length_cons,List.length_nil];omega)
    rw [e2,e3]
    cases r.all okC <;> cases decide ((List.length (x ::r):Int)≤8) <;> rfl
   rw [this]
   cases r.all okC <;> rfl
theorem zed{s:List UInt8}(h:Len s):zfe s=some (zfq s):=by
 have step:∀(t:List UInt8) (i:Int),i<2→zf4 t i=some (match t with | []=>.inr (.inl []) |x ::r=>if x=91 then .inl (r,IntKind.i64.wrap (i+1)) else .inr (.inl (x ::r))):=fun t i hi=>by
  unfold zf4
  rw [decide_eq_true hi]
  cases t with
  |nil=>rfl
  |cons x r =>
   have e1:decide ((0:Int)<(List.length (x ::r):Int))=true:=decide_eq_true (by simp only [List.length_cons,List.length_nil];omega)
   have e3:zkh (x ::r) 1 (List.length (x ::r):Int)=some r:=by
    have:=zio (l:=x ::r) (a:=1) (by simp)
    simpa using this
   rw [e1,ziO,e3]
   by_cases hx:x=91
   ·subst hx;rfl
   ·have e:((x.toNat:Int) == (91:Int))=false:=by
     rw [beq_eq_false_iff_ne]
     intro h
     apply hx
     have:x.toNat=(91:UInt8).toNat:=by simp;omega
     exact UInt8.toNat_inj.1 this
    simp [e,if_neg hx]
 have stop:∀t:List UInt8,zf4 t 2=some (.inr (.inl t)):=fun t=>by unfold zf4;simp
 have hl:zw (fun z:List UInt8×Int=>zf4 z.1 z.2) (s,0)=some (.inl (zfm (zfm s))):=by
  have w1:IntKind.i64.wrap (0+1)=1:=by decide
  have w2:IntKind.i64.wrap (1+1)=2:=by decide
  rw [zN]
  simp only [step s 0 (by omega)]
  cases s with
  |nil=>rfl
  |cons x r =>
   rw [zgz]
   by_cases hx:x=91
   ·simp only [if_pos hx,Option.bind_some,Sum.elim_inl,w1]
    rw [zN]
    simp only [step r 1 (by omega)]
    cases r with
    |nil=>rfl
    |cons y q =>
     by_cases hy:y=91
     ·simp only [if_pos hy,Option.bind_some,Sum.elim_inl,w2]
      rw [zN]
      simp only [stop]
      rw [zgz,if_pos hy]
      rfl
     ·simp only [if_neg hy,Option.bind_some,Sum.elim_inr]
      rw [zgz,if_neg hy]
   ·simp only [if_neg hx,Option.bind_some,Sum.elim_inr]
    rw [zgz,if_neg hx]
 have h1:=znP s
 have h2:=znP (zfm s)
 unfold zfe
 rw [hl]
 show zje _=_
 unfold zje zfq
 rw [zgt (by unfold Len at *;omega)]
 cases zfm (zfm s) == [73] <;> rfl
theorem ztU{s:List UInt8}(h:Len s):znD s=some (zo6 s):=by
 unfold znD
 rw [zed h]
 unfold zo6
 cases s == [73] <;> rfl
def zCt(v1:Int):Bool:=
 ((((v1 == (1:Int))||(v1 == (3:Int)))||(v1 == (4:Int)))||(zeN v1))
def zsA(o:Int)(s:List UInt8):Bool:=cond (zhM o) (zo6 s) (cond (zAl o) (zcy s) (s == []))
def zzd(o:Int)(s:List UInt8):Bool:=cond (zAm o) (zpG s&&!(s == [36,105,110,105,116])) (s == [])
def zlA(x:zp):Bool:=(zkG x.Op&&zjI x.Op x.A)&&zsA x.Op x.C&&zzd x.Op x.M
theorem zvP{o:Int}{s:List UInt8}(h:Len s):zpK o s=some (zsA o s):=by
 unfold zpK zsA
 rw [zkB h,zgo h]
 cases zhM o <;> cases zAl o <;> rfl
theorem zvR{o:Int}{s:List UInt8}(h:Len s):zpL o s=some (zzd o s):=by
 unfold zpL zzd
 rw [zlt h]
 cases zAm o <;> rfl
theorem zxz{x:zp}(hC:Len x.C)(hM:Len x.M):zsJ x=some (zlA x):=by
 unfold zsJ zlA
 rw [zvP hC,zvR hM]
 cases (zkG x.Op&&zjI x.Op x.A) <;> cases zsA x.Op x.C <;> rfl
theorem zBh(o A:Int):zjI o A=cond (zCt o) (zie o A) (A == 0):=by
 have e1:decide (A≤2147483647)=decide (A<2147483648):=by congr 1;apply propext;omega
 have e2:decide (A≤15)=decide (A<16):=by congr 1;apply propext;omega
 have e3:decide (A≤99)=decide (A<100):=by congr 1;apply propext;omega
 unfold zjI zCt zie zic zeN zea
 rw [e1,e2,e3]
 by_cases h1:o=1
 ·subst h1;rfl
 by_cases h3:o=3
 ·subst h3;rfl
 by_cases h4:o=4
 ·subst h4;rfl
 have b1:(o == (1:Int))=false:=beq_eq_false_iff_ne.2 h1
 have b3:(o == (3:Int))=false:=beq_eq_false_iff_ne.2 h3
 have b4:(o == (4:Int))=false:=beq_eq_false_iff_ne.2 h4
 rw [b1,b3,b4]
 cases (decide (20≤o)&&decide (o≤36)) <;> rfl
theorem zxI:∀k:_root_.Fin 62,(zeV (k.val:Int)).1=zCt (k.val:Int)∧(zeV (k.val:Int)).2.1=cond (zhM (k.val:Int)) 2 (cond (zAl (k.val:Int)) 1 0)∧(zeV (k.val:Int)).2.2=zAm (k.val:Int):=by
 decide +kernel
theorem zqq{x:zp}(hC:Len x.C)(hM:Len x.M):zjd x=some (zlA x):=by
 unfold zjd zlA zkG zea
 by_cases hk:1≤x.Op∧x.Op≤61
 ·obtain ⟨k,hkk⟩:∃k:Nat,x.Op=k:=⟨x.Op.toNat,by omega⟩
  obtain ⟨p1,p2,p3⟩:=zxI ⟨k,by omega⟩
  simp only at p1 p2 p3
  rw [hkk] at hk ⊢
  rw [zBh,p1,p2,p3,decide_eq_false (show ¬(k:Int)<1 by omega),decide_eq_false (show ¬(61:Int)<k by omega),decide_eq_true hk.1,decide_eq_true hk.2,zgt hC,ztU hC,zlE hM]
  unfold zsA zzd
  cases zCt (k:Int) <;> cases zie (k:Int) x.A <;> cases (x.A == 0) <;> cases zhM (k:Int) <;> cases zAl (k:Int) <;> cases zAm (k:Int) <;> cases (x.C == []) <;> cases zcy x.C <;> cases zo6 x.C <;> rfl
 ·have h1:(decide (x.Op<1)||decide (61<x.Op))=true:=by
   rw [Bool.or_eq_true]
   by_cases h:x.Op<1
   ·exact .inl (decide_eq_true h)
   ·exact .inr (decide_eq_true (by omega))
  have h2:(decide (1≤x.Op)&&decide (x.Op≤61))=false:=by
   rw [Bool.and_eq_false_iff]
   by_cases h:1≤x.Op
   ·exact .inr (decide_eq_false (by omega))
   ·exact .inl (decide_eq_false h)
  rw [h1,h2]
  rfl
def ixF{α:Type}(p:α→Bool):Nat→List α→Int
 |_,[]=>-1
 |k,x ::r=>cond (p x) (k:Int) (ixF p (k+1) r)
theorem zha{α:Type}(p:α→Bool):∀(k:Nat) (l:List α),decide (0≤ixF p k l)=l.any p
 |_,[]=>rfl
 |k,x ::r=>by
  unfold ixF
  rw [List.any_cons]
  cases p x with
  |true=>exact decide_eq_true (show (0:Int)≤(k:Int) by omega)
  |false=>exact zha p (k+1) r
theorem zcw{α:Type}{body:Int→Option (Sum Int (Sum Unit Int))}{l:List α}{p:α→Bool}(hl:l.length≤9223372036854775807)
  (hb:∀(i:Nat) x,l[i]?=some x→body (i:Int)=cond (p x) (some (.inr (.inr (i:Int)))) (some (.inl (IntKind.i64.wrap ((i:Int)+1)))))
  (he:body (l.length:Int)=some (.inr (.inl ()))):
  (zw body 0).bind (fun o=>zU o (fun _=>some (-1:Int)) some)=some (ixF p 0 l):=by
 have key:∀(r pre:List α),l=pre++r→(zw body (pre.length:Int)).bind (fun o=>zU o (fun _=>some (-1:Int)) some)=some (ixF p pre.length r):=by
  intro r
  induction r with
  |nil =>
   intro pre h
   rw [List.append_nil] at h
   subst h
   rw [zN,he]
   rfl
  |cons x r ih =>
   intro pre h
   have hlen:l.length=pre.length+(r.length+1):=by rw [h];simp
   have hx:l[pre.length]?=some x:=by rw [h];simp
   rw [zN,hb _ x hx]
   unfold ixF
   cases p x with
   |true=>rfl
   |false =>
    rw [zaz (by omega)]
    have:=ih (pre++[x]) (by rw [h];simp)
    rw [show (pre++[x]).length=pre.length+1 by simp] at this
    exact this
 exact key l [] rfl
def uB{α:Type}(ok:α→Bool)(nm:α→List UInt8):List α→List α→Bool
 |_,[]=>false
 |pre,x ::r=>(!ok x||pre.any (fun y=>nm x == nm y))||uB ok nm (pre++[x]) r
theorem zp5{α:Type}{body:Int→Option (Sum Int (Sum Unit Bool))}{l:List α}{ok:α→Bool}{nm:α→List UInt8}(hl:l.length≤9223372036854775807)
  (hb:∀(i:Nat) x,l[i]?=some x→body (i:Int)=cond (!ok x||(l.take i).any (fun y=>nm x == nm y)) (some (.inr (.inr false))) (some (.inl (IntKind.i64.wrap ((i:Int)+1)))))
  (he:body (l.length:Int)=some (.inr (.inl ()))) {k:Option Bool}:
  (zw body 0).bind (fun o=>zU o (fun _=>k) some)=cond (uB ok nm [] l) (some false) k:=by
 have key:∀(r pre:List α),l=pre++r→(zw body (pre.length:Int)).bind (fun o=>zU o (fun _=>k) some)=cond (uB ok nm pre r) (some false) k:=by
  intro r
  induction r with
  |nil =>
   intro pre h
   rw [List.append_nil] at h
   subst h
   rw [zN,he]
   rfl
  |cons x r ih =>
   intro pre h
   have hlen:l.length=pre.length+(r.length+1):=by rw [h];simp
   have hx:l[pre.length]?=some x:=by rw [h];simp
   have ht:l.take pre.length=pre:=by rw [h];simp
   rw [zN,hb _ x hx,ht]
   unfold uB
   cases !ok x||pre.any (fun y=>nm x == nm y) with
   |true=>rfl
   |false =>
    rw [zaz (by omega)]
    have:=ih (pre++[x]) (by rw [h];simp)
    rw [show (pre++[x]).length=pre.length+1 by simp] at this
    exact this
 exact key l [] rfl
abbrev zkg{α:Type}(l:List α):Prop:=l.length≤9223372036854775807
theorem zgm{α:Type}{l:List α}{i:Nat}{x:α}(h:l[i]?=some x):decide ((i:Int)<(l.length:Int))=true:=
 decide_eq_true (by have:=(List.getElem?_eq_some_iff.1 h).1;omega)
theorem zg2{α:Type}(l:List α):decide ((l.length:Int)<(l.length:Int))=false:=decide_eq_false (by omega)
theorem zy6{l:List zt}(hl:zkg l)(n t:List UInt8)(s:Bool):zax l n t s=some (l.any fun y=>n == y.Name):=by
 unfold zax zbp
 rw [show ((zw (fun z=>zac l n t s z) 0).bind fun o=>zU o (fun b=>zbc) some)=_ from zcw (p:=fun y:zt=>n == y.Name) hl
  (fun i x hx=>by unfold zac;rw [zgm hx,zD,hx];rfl) (by unfold zac;rw [zg2];rfl)]
 exact congrArg some (zha _ 0 l)
theorem zw8{l:List zc}(hl:zkg l)(n:List UInt8)(a b c d e f g h i):zap l n a b c d e f g h i=some (l.any fun y=>n == y.Name):=by
 unfold zap zbg
 rw [show ((zw (fun z=>z2 l n a b c d e f g h i z) 0).bind fun o=>zU o (fun b=>za2) some)=_ from zcw (p:=fun y:zc=>n == y.Name) hl
  (fun i x hx=>by unfold z2;rw [zgm hx,zD,hx];rfl) (by unfold z2;rw [zg2];rfl)]
 exact congrArg some (zha _ 0 l)
theorem zA5{l:List (List UInt8)}(hl:zkg l)(n:List UInt8):zaJ l n=some (l.any fun y=>n == y):=by
 unfold zaJ zbV
 rw [show ((zw (fun z=>zak l n z) 0).bind fun o=>zU o (fun b=>zbr) some)=_ from zcw (p:=fun y:List UInt8=>n == y) hl
  (fun i x hx=>by unfold zak;rw [zgm hx,zD,hx];rfl) (by unfold zak;rw [zg2];rfl)]
 exact congrArg some (zha _ 0 l)
theorem zpm{c:za}(hl:zkg c.Methods)(n:List UInt8):zfR c n=some (ixF (fun y=>y.Name == n) 0 c.Methods):=by
 unfold zfR za3
 rw [show ((zw (fun z=>zT c.Methods n z) 0).bind fun o=>zU o (fun b=>zaE) some)=_ from zcw (p:=fun y:zc=>y.Name == n) hl
  (fun i x hx=>by unfold zT;rw [zgm hx,zD,hx];rfl) (by unfold zT;rw [zg2];rfl)]
 rfl
theorem zp8{c:za}(hl:zkg c.Fields)(n:List UInt8):zi1 c n=some (ixF (fun y=>y.Name == n) 0 c.Fields):=by
 unfold zi1 zbd
 rw [show ((zw (fun z=>zX c.Fields n z) 0).bind fun o=>zU o (fun b=>zaR) some)=_ from zcw (p:=fun y:zt=>y.Name == n) hl
  (fun i x hx=>by unfold zX;rw [zgm hx,zD,hx];rfl) (by unfold zX;rw [zg2];rfl)]
 rfl
def zmu(f:zt):Bool:=(zpG f.Name&&!(f.Name == [36,105,110,105,116]))&&zfq f.Type_
theorem zqa{f:zt}(h1:Len f.Name)(h2:Len f.Type_):zi2 f=some (zmu f):=by
 unfold zi2 zmu
 rw [zlt h1,zhb h2,Option.bind_some]
 cases (zpG f.Name&&!(f.Name == [36,105,110,105,116])) <;> rfl
theorem zwr{l:List zt}(hl:zkg l)(h:∀f∈l,Len f.Name∧Len f.Type_)(n:Int):zeb l n=cond (uB zmu (·.Name) [] l) (some false) (some (decide ((l.length:Int)≤n))):=by
 unfold zeb
 refine zp5 (ok:=zmu) (nm:=(·.Name)) hl (fun i x hx=>?_) ?_
 ·have hm:=h x (List.mem_of_getElem? hx)
  have hi:=(List.getElem?_eq_some_iff.1 hx).1
  unfold zdj
  rw [zgm hx,zD,hx]
  simp only [Option.bind_some,cond_true]
  rw [zqa hm.1 hm.2,Option.bind_some,zn1 (by omega),Option.bind_some,zy6 (by unfold zkg at *;rw [List.length_take];omega)]
  cases zmu x <;> rfl
 ·unfold zdj
  rw [zg2];rfl
theorem zyN{l:List (List UInt8)}(hl:zkg l)(h:∀s∈l,Len s)(n:Int):zfo l n=cond (uB zcy id [] l) (some false) (some (decide ((l.length:Int)≤n))):=by
 unfold zfo
 refine zp5 (ok:=zcy) (nm:=id) hl (fun i x hx=>?_) ?_
 ·have hm:=h x (List.mem_of_getElem? hx)
  have hi:=(List.getElem?_eq_some_iff.1 hx).1
  unfold zec
  rw [zgm hx,zD,hx]
  simp only [Option.bind_some,cond_true]
  rw [zgo hm,Option.bind_some,zn1 (by omega),Option.bind_some,zA5 (by unfold zkg at *;rw [List.length_take];omega)]
  cases zcy x <;> rfl
 ·unfold zec
  rw [zg2];rfl
def zta(l:List (List UInt8)):Bool:=!(l.any fun s=>!zfq s)
theorem zqg{l:List (List UInt8)}(hl:zkg l)(h:∀s∈l,Len s):zi4 l=some (zta l):=by
 unfold zi4 zbS zcu
 rw [show ((zw (fun z=>zaA l z) 0).bind fun o=>zU o (fun b=>zbT) some)=_ from zcw (p:=fun s=>!zfq s) hl
  (fun i x hx=>by
   unfold zaA ziM
   rw [zgm hx,zD,hx]
   simp only [Option.bind_some,cond_true]
   rw [zhb (h x (List.mem_of_getElem? hx))]
   rfl) (by unfold zaA;rw [zg2];rfl)]
 rw [Option.bind_some,zha]
 rfl
def zA8(n:Int)(x:zp):Bool:=(!zlA x)||(zeN x.Op&&decide (n≤x.A))
def instrN(c:List zp):Bool:=zn (c.length:Int) 1 100&&(c.getLast?.elim false (fun y=>ziE y.Op)&&!(c.any (zA8 (c.length:Int))))
theorem zlm{m:zc}(hl:zkg m.Code)(h:∀x∈m.Code,Len x.C∧Len x.M):zes m=some (instrN m.Code):=by
 have hc:zaW m.Code (m.Code.length:Int)=some (m.Code.any (zA8 (m.Code.length:Int))):=by
  unfold zaW zb3
  rw [show ((zw (fun z=>zar m.Code (m.Code.length:Int) z) 0).bind fun o=>zU o (fun b=>zbE) some)=_ from zcw (p:=zA8 (m.Code.length:Int)) hl
   (fun i x hx=>by
    have hm:=h x (List.mem_of_getElem? hx)
    unfold zar zeM
    rw [zgm hx,zD,hx]
    simp only [Option.bind_some,cond_true]
    rw [zxz hm.1 hm.2]
    rfl) (by unfold zar;rw [zg2];rfl)]
  exact congrArg some (zha _ 0 _)
 unfold zes instrN
 rw [hc]
 cases hb:zn (m.Code.length:Int) 1 100 with
 |false=>rfl
 |true =>
  have hb':(decide (1≤(m.Code.length:Int))&&decide ((m.Code.length:Int)≤100))=true:=hb
  simp only [Bool.and_eq_true,decide_eq_true_eq] at hb'
  have e:IntKind.i64.wrap ((m.Code.length:Int)-1)=((m.Code.length-1:Nat):Int):=by
   rw [zld (by omega) (by omega)];omega
  rw [e,zD,←List.getLast?_eq_getElem?]
  cases hg:m.Code.getLast? with
  |none =>
   rw [List.getLast?_eq_none_iff] at hg
   rw [hg] at hb'
   simp at hb'
  |some y =>
   simp only [Option.bind_some,Bool.not_true,cond_false,Option.elim_some,Bool.true_and]
   cases ziE y.Op <;> rfl
def zqw(n:Int)(y:zaF):Bool:=(((decide (y.From<0)||decide (y.To≤y.From))||decide (n<y.To))||!(zn y.At 0 (IntKind.i64.wrap (n-1))))||(!(y.C == [])&&!zcy y.C)
def znO(m:zc):Bool:=!(m.Traps.any (zqw (m.Code.length:Int)))&&decide ((m.Traps.length:Int)≤6)
theorem zqe{m:zc}(hl:zkg m.Traps)(h:∀x∈m.Traps,Len x.C):zi3 m=some (znO m):=by
 unfold zi3 zbj zbL
 rw [show ((zw (fun z=>zah m.Traps m.Name m.Params m.Ret m.Static m.Abstract m.Locals m.Stack m.Code m.Maps m.Traps z) 0).bind fun o=>zU o (fun b=>zbk) some)=_ from zcw (p:=zqw (m.Code.length:Int)) hl
  (fun i x hx=>by
   have hm:=h x (List.mem_of_getElem? hx)
   unfold zah ziL zqw
   rw [zgm hx,zD,hx]
   simp only [Option.bind_some,cond_true]
   rw [zgo hm]
   cases (((decide (x.From<0)||decide (x.To≤x.From))||decide ((m.Code.length:Int)<x.To))||!(zn x.At 0 (IntKind.i64.wrap ((m.Code.length:Int)-1)))) with
   |true=>rfl
   |false=>cases (x.C == []) <;> rfl) (by unfold zah;rw [zg2];rfl)]
 rw [Option.bind_some,zha]
 rfl
def gB{α:Type}(bad:List α→α→Bool):List α→List α→Bool
 |_,[]=>false
 |pre,x ::r=>bad pre x||gB bad (pre++[x]) r
theorem zl4{α:Type}{body:Int→Option (Sum Int (Sum Unit Bool))}{l:List α}{bad:List α→α→Bool}(hl:l.length≤9223372036854775807)
  (hb:∀(i:Nat) x,l[i]?=some x→body (i:Int)=cond (bad (l.take i) x) (some (.inr (.inr false))) (some (.inl (IntKind.i64.wrap ((i:Int)+1)))))
  (he:body (l.length:Int)=some (.inr (.inl ()))):zw body 0=some (cond (gB bad [] l) (.inr false) (.inl ())):=by
 have key:∀(r pre:List α),l=pre++r→zw body (pre.length:Int)=some (cond (gB bad pre r) (.inr false) (.inl ())):=by
  intro r
  induction r with
  |nil =>
   intro pre h
   rw [List.append_nil] at h
   subst h
   rw [zN,he]
   rfl
  |cons x r ih =>
   intro pre h
   have hlen:l.length=pre.length+(r.length+1):=by rw [h];simp
   have hx:l[pre.length]?=some x:=by rw [h];simp
   have ht:l.take pre.length=pre:=by rw [h];simp
   rw [zN,hb _ x hx,ht]
   unfold gB
   cases bad pre x with
   |true=>rfl
   |false =>
    rw [zaz (by omega)]
    have:=ih (pre++[x]) (by rw [h];simp)
    rw [show (pre++[x]).length=pre.length+1 by simp] at this
    exact this
 exact key l [] rfl
theorem zAa{α:Type}(p:α→Bool):∀(pre r:List α),gB (fun _ x=>p x) pre r=r.any p
 |_,[]=>rfl
 |pre,x ::r=>by
  show (p x||gB _ _ r)=_
  rw [zAa p (pre++[x]) r,List.any_cons]
theorem zzQ{α:Type}(ok:α→Bool)(nm:α→List UInt8):∀(pre r:List α),uB ok nm pre r=gB (fun pre x=>!ok x||pre.any (fun y=>nm x == nm y)) pre r
 |_,[]=>rfl
 |pre,x ::r=>by
  show (_||uB ok nm (pre++[x]) r)=(_||gB _ (pre++[x]) r)
  rw [zzQ ok nm (pre++[x]) r]
theorem zj0{α:Type}{body:Int→Option (Sum Int (Sum Unit Bool))}{l:List α}{bad:α→Bool}(hl:l.length≤9223372036854775807)
  (hb:∀(i:Nat) x,l[i]?=some x→body (i:Int)=cond (bad x) (some (.inr (.inr false))) (some (.inl (IntKind.i64.wrap ((i:Int)+1)))))
  (he:body (l.length:Int)=some (.inr (.inl ()))):zw body 0=some (cond (l.any bad) (.inr false) (.inl ())):=by
 rw [zl4 (bad:=fun _ x=>bad x) hl hb he,zAa]
def zm6(v:List UInt8):Bool:=(((v == [73])||(v == [78]))||(v == [84]))||zo6 v
theorem zra{s:List UInt8}(h:Len s):zjT s=some (zm6 s):=by
 unfold zjT zm6
 rw [zkB h]
 cases (((s == [73])||(s == [78]))||(s == [84])) <;> rfl
def ziz(l:List (List UInt8)):Bool:=!(l.any fun s=>!zm6 s)
theorem zjU{l:List (List UInt8)}(hl:zkg l)(h:∀s∈l,Len s):zfz l=some (ziz l):=by
 unfold zfz zbm zbU
 rw [show ((zw (fun z=>zaj l z) 0).bind fun o=>zU o (fun b=>zbq) some)=_ from zcw (p:=fun s=>!zm6 s) hl
  (fun i x hx=>by
   unfold zaj zgY
   rw [zgm hx,zD,hx]
   simp only [Option.bind_some,cond_true]
   rw [zra (h x (List.mem_of_getElem? hx))]
   rfl) (by unfold zaj;rw [zg2];rfl)]
 rw [Option.bind_some,zha]
 rfl
theorem zw9{l:List (List UInt8)}(hl:zkg l)(n:List UInt8):zK l n=some (l.any fun y=>n == y):=by
 unfold zK zdi
 rw [show ((zw (fun z=>za8 l n z) 0).bind fun o=>zU o (fun b=>zcB) some)=_ from zcw (p:=fun y:List UInt8=>n == y) hl
  (fun i x hx=>by unfold za8;rw [zgm hx,zD,hx];rfl) (by unfold za8;rw [zg2];rfl)]
 exact congrArg some (zha _ 0 l)
def zAf(m:zc)(pre:List z8)(x:z8):Bool:=
 ((!(decide (0≤x.At)&&decide (x.At<(m.Code.length:Int))))||(pre.getLast?.elim false (fun y=>decide (x.At≤y.At)))) ||
 (((!((x.Locals.length:Int) == m.Locals))||decide (m.Stack<(x.Stack.length:Int)))||((!ziz x.Locals||!ziz x.Stack)||x.Stack.any (fun y=>[84] == y)))
def zrB(m:zc):Bool:=!(gB (zAf m) [] m.Maps)&&decide ((m.Maps.length:Int)≤100)
structure zwi(m:zc):Prop where
 len:zkg m.Maps
 code:zkg m.Code
 all:∀x∈m.Maps,(zkg x.Locals∧∀s∈x.Locals,Len s)∧(zkg x.Stack∧∀s∈x.Stack,Len s)
theorem zs7{α:Type}{l:List α}{i:Nat}(h:i<l.length)(h0:0<i):(l.take i).getLast?=l[i-1]?:=by
 rw [List.getLast?_eq_getElem?,List.getElem?_take_of_lt (by simp;omega)]
 congr 1
 simp;omega
theorem zq9{m:zc}(h:zwi m):zjS m=some (zrB m):=by
 have j2:∀(i:Nat) (x:z8) (b:Bool),x∈m.Maps→zet m (i:Int) x b=cond (b||(((!((x.Locals.length:Int) == m.Locals))||decide (m.Stack<(x.Stack.length:Int)))||((!ziz x.Locals||!ziz x.Stack)||x.Stack.any (fun y=>[84] == y)))) (some (.inr (.inr false))) (some (.inl (IntKind.i64.wrap ((i:Int)+1)))):=fun i x b hx=>by
  obtain ⟨⟨h1,h2⟩,h3,h4⟩:=h.all x hx
  unfold zet
  rw [zjU h1 h2,zjU h3 h4,zw9 h3]
  cases b with
  |true=>rfl
  |false =>
   cases ((!((x.Locals.length:Int) == m.Locals))||decide (m.Stack<(x.Stack.length:Int))) with
   |true=>rfl
   |false =>
    cases ziz x.Locals with
    |false=>rfl
    |true=>cases ziz x.Stack <;> rfl
 have hl:zw (fun z=>zeu m z) 0=_:=zl4 (bad:=zAf m) h.len (fun i x hx=>by
  have hm:=List.mem_of_getElem? hx
  have hi:=(List.getElem?_eq_some_iff.1 hx).1
  have hlen:=h.len
  have hcode:=h.code
  unfold zkg at hlen hcode
  show zeu m (i:Int)=_
  unfold zeu zAf
  rw [zgm hx,zD,hx]
  simp only [Option.bind_some,cond_true]
  have hb:zn x.At 0 (IntKind.i64.wrap ((m.Code.length:Int)-1))=(decide (0≤x.At)&&decide (x.At<(m.Code.length:Int))):=by
   show (decide (0≤x.At)&&decide (x.At≤IntKind.i64.wrap ((m.Code.length:Int)-1)))=_
   rw [zld (by omega) (by omega)]
   congr 1
   exact decide_eq_decide.2 (by omega)
  rw [hb]
  cases (decide (0≤x.At)&&decide (x.At<(m.Code.length:Int))) with
  |false=>exact j2 i x true hm
  |true =>
   rcases Nat.eq_zero_or_pos i with h0 |h0
   ·subst h0
    exact j2 0 x false hm
   ·rw [decide_eq_true (show (0:Int)<(i:Int) by omega),zs7 hi h0]
    have e:IntKind.i64.wrap ((i:Int)-1)=((i-1:Nat):Int):=by
     rw [zld (by omega) (by omega)];omega
    rw [e,zD,List.getElem?_eq_getElem (show i-1<m.Maps.length by omega)]
    exact j2 i x _ hm) (by show zeu m (m.Maps.length:Int)=_;unfold zeu;rw [zg2];rfl)
 unfold zjS zrB
 rw [hl]
 cases gB (zAf m) [] m.Maps <;> rfl
theorem zzB(v:List UInt8):(cond (!(v == [84])&&!(v == [78])) (!zfq v) false)=!zm6 v:=by
 by_cases h1:v=[73]
 ·subst h1;decide +kernel
 by_cases h2:v=[78]
 ·subst h2;decide +kernel
 by_cases h3:v=[84]
 ·subst h3;decide +kernel
 unfold zm6 zo6
 rw [beq_eq_false_iff_ne.2 h1,beq_eq_false_iff_ne.2 h2,beq_eq_false_iff_ne.2 h3]
 simp
theorem zzC(v:List UInt8):(cond (!(v == [78])) (!zfq v) false)=(!zm6 v||([84] == v)):=by
 by_cases h1:v=[73]
 ·subst h1;decide +kernel
 by_cases h2:v=[78]
 ·subst h2;decide +kernel
 by_cases h3:v=[84]
 ·subst h3;decide +kernel
 unfold zm6 zo6
 rw [beq_eq_false_iff_ne.2 h1,beq_eq_false_iff_ne.2 h2,beq_eq_false_iff_ne.2 h3,beq_eq_false_iff_ne.2 (Ne.symm h3)]
 simp
theorem zBM{α:Type}(l:List α)(p q:α→Bool):l.any (fun x=>p x||q x)=(l.any p||l.any q):=by
 induction l with
 |nil=>rfl
 |cons x l ih =>
  simp only [List.any_cons,ih]
  cases p x <;> cases q x <;> simp
theorem zsR{m:zc}(h:zwi m):zlJ m=some (zrB m):=by
 have l7:∀x:z8,x∈m.Maps→zw (fun z=>zeB x z) 0=some (cond (!ziz x.Locals) (.inr false) (.inl ())):=fun x hx=>by
  obtain ⟨⟨h1,h2⟩,h3,h4⟩:=h.all x hx
  have:=zj0 (body:=fun z=>zeB x z) (bad:=fun v=>!zm6 v) h1 (fun i v hv=>by
   show zeB x (i:Int)=_
   unfold zeB
   rw [zgm hv,zD,hv]
   simp only [Option.bind_some,cond_true]
   rw [zed (h2 v (List.mem_of_getElem? hv)),←zzB]
   cases (!(v == [84])&&!(v == [78])) <;> rfl) (by show zeB x (x.Locals.length:Int)=_;unfold zeB;rw [zg2];rfl)
  rw [this]
  unfold ziz
  rw [Bool.not_not]
 have l9:∀x:z8,x∈m.Maps→zw (fun z=>zeC x z) 0=some (cond (!ziz x.Stack||x.Stack.any (fun y=>[84] == y)) (.inr false) (.inl ())):=fun x hx=>by
  obtain ⟨⟨h1,h2⟩,h3,h4⟩:=h.all x hx
  have:=zj0 (body:=fun z=>zeC x z) (bad:=fun v=>!zm6 v||([84] == v)) h3 (fun i v hv=>by
   show zeC x (i:Int)=_
   unfold zeC
   rw [zgm hv,zD,hv]
   simp only [Option.bind_some,cond_true]
   rw [zed (h4 v (List.mem_of_getElem? hv)),←zzC]
   cases (!(v == [78])) <;> rfl) (by show zeC x (x.Stack.length:Int)=_;unfold zeC;rw [zg2];rfl)
  rw [this,zBM]
  unfold ziz
  rw [Bool.not_not]
 have j6:∀(i:Nat) (x:z8) (b:Bool),x∈m.Maps→zcq (i:Int) x b=cond (b||((!ziz x.Locals||!ziz x.Stack)||x.Stack.any (fun y=>[84] == y))) (some (.inr (.inr false))) (some (.inl (IntKind.i64.wrap ((i:Int)+1)))):=fun i x b hx=>by
  unfold zcq
  rw [l7 x hx]
  cases b with
  |true=>rfl
  |false =>
   cases ziz x.Locals with
   |false=>rfl
   |true =>
    show ziw (i:Int) x=_
    unfold ziw
    rw [l9 x hx]
    cases ziz x.Stack with
    |false=>rfl
    |true=>cases x.Stack.any (fun y=>[84] == y) <;> rfl
 have hl:zw (fun z=>zeA m z) 0=_:=zl4 (bad:=zAf m) h.len (fun i x hx=>by
  have hm:=List.mem_of_getElem? hx
  have hi:=(List.getElem?_eq_some_iff.1 hx).1
  have hlen:=h.len
  have hcode:=h.code
  unfold zkg at hlen hcode
  show zeA m (i:Int)=_
  unfold zeA zAf
  rw [zgm hx,zD,hx]
  simp only [Option.bind_some,cond_true]
  by_cases h1:x.At<0
  ·rw [decide_eq_true h1,decide_eq_false (show ¬0≤x.At by omega)]
   exact j6 i x true hm
  rw [decide_eq_false h1,decide_eq_true (show 0≤x.At by omega)]
  by_cases h2:(m.Code.length:Int)≤x.At
  ·rw [decide_eq_true h2,decide_eq_false (show ¬x.At<(m.Code.length:Int) by omega)]
   exact j6 i x true hm
  rw [decide_eq_false h2,decide_eq_true (show x.At<(m.Code.length:Int) by omega)]
  rcases Nat.eq_zero_or_pos i with h0 |h0
  ·subst h0
   show cond (!((x.Locals.length:Int) == m.Locals)) (zcq ((0:Nat):Int) x true) (zcq ((0:Nat):Int) x (decide (m.Stack<(x.Stack.length:Int))))=_
   cases (!((x.Locals.length:Int) == m.Locals)) with
   |true=>exact j6 0 x true hm
   |false=>exact j6 0 x _ hm
  ·rw [decide_eq_true (show (0:Int)<(i:Int) by omega),zs7 hi h0]
   have e:IntKind.i64.wrap ((i:Int)-1)=((i-1:Nat):Int):=by
    rw [zld (by omega) (by omega)];omega
   rw [e,zD,List.getElem?_eq_getElem (show i-1<m.Maps.length by omega)]
   simp only [cond_true,cond_false,Option.bind_some,Option.elim_some]
   cases decide (x.At≤m.Maps[i-1].At) with
   |true=>exact j6 i x true hm
   |false =>
    cases (!((x.Locals.length:Int) == m.Locals)) with
    |true=>exact j6 i x true hm
    |false=>exact j6 i x _ hm) (by show zeA m (m.Maps.length:Int)=_;unfold zeA;rw [zg2];rfl)
 unfold zlJ zrB
 rw [hl]
 by_cases hn:(m.Maps.length:Int)≤100
 ·rw [decide_eq_true hn,decide_eq_false (show ¬100<(m.Maps.length:Int) by omega)]
  cases gB (zAf m) [] m.Maps <;> rfl
 ·rw [decide_eq_false hn,decide_eq_true (show 100<(m.Maps.length:Int) by omega),Bool.and_false]
  rfl
structure zzU(m:zc):Prop where
 code:zkg m.Code∧∀x∈m.Code,Len x.C∧Len x.M
 traps:zkg m.Traps∧∀x∈m.Traps,Len x.C
theorem zsP{m:zc}(h:zzU m):zlH m=some (instrN m.Code&&znO m):=by
 have hcl:=h.code.1
 unfold zkg at hcl
 have lc:zw (fun z=>ze7 m z) 0=some (cond (m.Code.any (zA8 (m.Code.length:Int))) (.inr false) (.inl ())):=
  zj0 h.code.1 (fun i x hx=>by
   have hm:=h.code.2 x (List.mem_of_getElem? hx)
   show ze7 m (i:Int)=_
   unfold ze7
   rw [zgm hx,zD,hx]
   simp only [Option.bind_some,cond_true]
   rw [zqq hm.1 hm.2]
   rfl) (by show ze7 m (m.Code.length:Int)=_;unfold ze7;rw [zg2];rfl)
 have lt:zw (fun z=>ze8 m z) 0=some (cond (m.Traps.any (zqw (m.Code.length:Int))) (.inr false) (.inl ())):=
  zj0 h.traps.1 (fun i x hx=>by
   have hm:=h.traps.2 x (List.mem_of_getElem? hx)
   show ze8 m (i:Int)=_
   unfold ze8
   rw [zgm hx,zD,hx]
   simp only [Option.bind_some,cond_true]
   rw [zgt hm]
   have hb:(!(zn x.At 0 (IntKind.i64.wrap ((m.Code.length:Int)-1))))=(decide (x.At<0)||decide ((m.Code.length:Int)≤x.At)):=by
    show (!(decide (0≤x.At)&&decide (x.At≤IntKind.i64.wrap ((m.Code.length:Int)-1))))=_
    rw [zld (by omega) (by omega)]
    by_cases h1:x.At<0
    ·rw [decide_eq_true h1,decide_eq_false (show ¬0≤x.At by omega)];rfl
    ·rw [decide_eq_false h1,decide_eq_true (show 0≤x.At by omega)]
     by_cases h2:(m.Code.length:Int)≤x.At
     ·rw [decide_eq_true h2,decide_eq_false (show ¬x.At≤(m.Code.length:Int)-1 by omega)];rfl
     ·rw [decide_eq_false h2,decide_eq_true (show x.At≤(m.Code.length:Int)-1 by omega)];rfl
   unfold zqw
   rw [hb]
   cases decide (x.From<0) <;> cases decide (x.To≤x.From) <;> cases decide ((m.Code.length:Int)<x.To) <;> cases decide (x.At<0) <;> cases decide ((m.Code.length:Int)≤x.At) <;> cases (x.C == []) <;> rfl) (by show ze8 m (m.Traps.length:Int)=_;unfold ze8;rw [zg2];rfl)
 have hn:decide (6<(m.Traps.length:Int))=!decide ((m.Traps.length:Int)≤6):=by
  by_cases h6:(m.Traps.length:Int)≤6
  ·rw [decide_eq_true h6,decide_eq_false (show ¬6<(m.Traps.length:Int) by omega)];rfl
  ·rw [decide_eq_false h6,decide_eq_true (show 6<(m.Traps.length:Int) by omega)];rfl
 have k2:zhu m=some (!m.Traps.any (zqw (m.Code.length:Int))):=by
  unfold zhu
  rw [lt]
  cases m.Traps.any (zqw (m.Code.length:Int)) <;> rfl
 unfold zlH znO instrN
 rw [lc,hn]
 by_cases h1:(m.Code.length:Int)<1
 ·rw [decide_eq_true h1,show zn (m.Code.length:Int) 1 100=false from by show (decide (1≤(m.Code.length:Int))&&_)=false;rw [decide_eq_false (show ¬1≤(m.Code.length:Int) by omega)];rfl]
  rfl
 by_cases h2:100<(m.Code.length:Int)
 ·rw [decide_eq_true h2,show zn (m.Code.length:Int) 1 100=false from by show (decide (1≤(m.Code.length:Int))&&decide ((m.Code.length:Int)≤100))=false;rw [decide_eq_false (show ¬(m.Code.length:Int)≤100 by omega),Bool.and_false],Bool.or_true]
  rfl
 rw [decide_eq_false h1,decide_eq_false h2,show zn (m.Code.length:Int) 1 100=true from by show (decide (1≤(m.Code.length:Int))&&decide ((m.Code.length:Int)≤100))=true;rw [decide_eq_true (show 1≤(m.Code.length:Int) by omega),decide_eq_true (show (m.Code.length:Int)≤100 by omega)];rfl]
 have e:IntKind.i64.wrap ((m.Code.length:Int)-1)=((m.Code.length-1:Nat):Int):=by
  rw [zld (by omega) (by omega)];omega
 rw [e,zD,←List.getLast?_eq_getElem?]
 cases hg:m.Code.getLast? with
 |none =>
  rw [List.getLast?_eq_none_iff] at hg
  rw [hg] at h1
  simp at h1
 |some y =>
  simp only [Option.bind_some,Option.elim_some]
  rw [show zhN y.Op=ziE y.Op from rfl]
  cases ziE y.Op with
  |false=>rfl
  |true =>
   cases decide ((m.Traps.length:Int)≤6) with
   |false =>
    cases m.Code.any (zA8 (m.Code.length:Int)) <;> cases m.Traps.any (zqw (m.Code.length:Int)) <;> rfl
   |true =>
    cases m.Code.any (zA8 (m.Code.length:Int)) with
    |true=>rfl
    |false =>
     show zhu m=_
     rw [k2]
     cases m.Traps.any (zqw (m.Code.length:Int)) <;> rfl
structure GIn(m:zc):Prop where
 name:Len m.Name
 params:m.Params.length≤1000000000000∧∀s∈m.Params,Len s
 ret:Len m.Ret
 maps:zwi m
 body:zzU m
 small:m.Code.length≤1000000000000∧m.Maps.length≤1000000000000∧m.Traps.length≤1000000000000
def zfH(m:zc):Bool:=
 ((!((!zpG m.Name)||decide (6<(m.Params.length:Int)))&&zta m.Params)&&zsV m.Ret)&&cond m.Abstract (zfT m)
  (!((m.Name == [36,105,110,105,116])&&(((!m.Static)||decide (0<(m.Params.length:Int)))||(!(m.Ret == [86]))))&&(zn m.Locals (zaa m) 16&&(zn m.Stack 0 16&&((instrN m.Code&&znO m)&&zrB m))))
theorem zC7{m:zc}(h:GIn m):zkg m.Params:=by have:=h.params.1;unfold zkg;omega
theorem zoN{m:zc}(h:GIn m):zin m=some (zfH m):=by
 unfold zin zfH
 rw [zlt h.name,Option.bind_some,zqg (zC7 h) h.params.2,ztA h.ret,zlm h.body.code.1 h.body.code.2,zq9 h.maps,zqe h.body.traps.1 h.body.traps.2]
 cases ((!zpG m.Name)||decide (6<(m.Params.length:Int))) with
 |true=>rfl
 |false =>
  cases zta m.Params with
  |false=>rfl
  |true =>
   cases zsV m.Ret with
   |false=>rfl
   |true =>
    cases m.Abstract with
    |true=>rfl
    |false =>
     cases ((m.Name == [36,105,110,105,116])&&(((!m.Static)||decide (0<(m.Params.length:Int)))||(!(m.Ret == [86])))) with
     |true=>rfl
     |false =>
      cases zn m.Locals (zaa m) 16 with
      |false=>rfl
      |true =>
       cases zn m.Stack 0 16 with
       |false=>rfl
       |true=>cases instrN m.Code <;> cases zrB m <;> cases znO m <;> rfl
theorem ztW{s:List UInt8}(h:Len s):znE s=some (zsV s):=by
 unfold znE zsV
 rw [zed h]
 cases (s == [86]) <;> rfl
theorem zyU{m:zc}(h:GIn m):zfT m=(((((((!m.Static)&&(!(m.Name == [36,105,110,105,116])))&&(m.Locals == (0:Int)))&&(m.Stack == (0:Int)))&&((m.Code.length:Int) == (0:Int)))&&((m.Maps.length:Int) == (0:Int)))&&((m.Traps.length:Int) == (0:Int))):=by
 obtain ⟨h1,h2,h3⟩:=h.small
 have key:(((m.Code.length:Int)+(m.Maps.length:Int)+(m.Traps.length:Int)) == (0:Int))=((((m.Code.length:Int) == 0)&&((m.Maps.length:Int) == 0))&&((m.Traps.length:Int) == 0)):=by
  by_cases a:(m.Code.length:Int)=0
  ·by_cases b:(m.Maps.length:Int)=0
   ·rw [a,b,Int.zero_add,Int.zero_add];rfl
   ·rw [beq_eq_false_iff_ne.2 (show ((m.Code.length:Int)+m.Maps.length+m.Traps.length)≠0 by omega),beq_eq_false_iff_ne.2 b,Bool.and_false,Bool.false_and]
  ·rw [beq_eq_false_iff_ne.2 (show ((m.Code.length:Int)+m.Maps.length+m.Traps.length)≠0 by omega),beq_eq_false_iff_ne.2 a,Bool.false_and,Bool.false_and]
 unfold zfT
 rw [zld (n:=(m.Code.length:Int)+(m.Maps.length:Int)) (by omega) (by omega),zld (by omega) (by omega),key]
 simp only [Bool.and_assoc]
theorem zpf(x a b:Int):(decide (x<a)||decide (b<x))=!(zn x a b):=by
 show _=!(decide (a≤x)&&decide (x≤b))
 by_cases h1:x<a
 ·rw [decide_eq_true h1,decide_eq_false (show ¬a≤x by omega)];rfl
 ·rw [decide_eq_false h1,decide_eq_true (show a≤x by omega)]
  by_cases h2:b<x
  ·rw [decide_eq_true h2,decide_eq_false (show ¬x≤b by omega)];rfl
  ·rw [decide_eq_false h2,decide_eq_true (show x≤b by omega)];rfl
theorem zog{m:zc}(h:GIn m):zgO m=some (zfH m):=by
 have lp:zw (fun z=>zcN m z) 0=some (cond (m.Params.any fun s=>!zfq s) (.inr false) (.inl ())):=
  zj0 (zC7 h) (fun i x hx=>by
   show zcN m (i:Int)=_
   unfold zcN
   rw [zgm hx,zD,hx]
   simp only [Option.bind_some,cond_true]
   rw [zed (h.params.2 x (List.mem_of_getElem? hx))]
   rfl) (by show zcN m (m.Params.length:Int)=_;unfold zcN;rw [zg2];rfl)
 have j3:∀a,zdp m a=some (zn m.Locals a 16&&(zn m.Stack 0 16&&((instrN m.Code&&znO m)&&zrB m))):=fun a=>by
  unfold zdp
  rw [zpf,Bool.or_assoc,zpf,zsP h.body,zsR h.maps]
  cases zn m.Locals a 16 with
  |false=>rfl
  |true =>
   cases zn m.Stack 0 16 with
   |false=>rfl
   |true=>cases (instrN m.Code&&znO m) <;> rfl
 have k2:zeU m=some (cond m.Abstract (zfT m)
  (!((m.Name == [36,105,110,105,116])&&(((!m.Static)||decide (0<(m.Params.length:Int)))||(!(m.Ret == [86]))))&&(zn m.Locals (zaa m) 16&&(zn m.Stack 0 16&&((instrN m.Code&&znO m)&&zrB m))))):=by
  unfold zeU zaa
  rw [j3,j3,zyU h]
  cases m.Abstract with
  |true=>rfl
  |false =>
   cases ((m.Name == [36,105,110,105,116])&&(((!m.Static)||decide (0<(m.Params.length:Int)))||(!(m.Ret == [86])))) with
   |true=>rfl
   |false=>cases m.Static <;> rfl
 unfold zgO zfH zta
 rw [zlE h.name,Option.bind_some,ztW h.ret,lp]
 cases ((!zpG m.Name)||decide (6<(m.Params.length:Int))) with
 |true=>rfl
 |false =>
  cases zsV m.Ret with
  |false=>rw [Bool.and_false];rfl
  |true =>
   cases m.Params.any fun s=>!zfq s with
   |true=>rfl
   |false=>exact k2
theorem zto{l:List zc}(hl:zkg l)(h:∀m∈l,GIn m)(n:Int)(a b:List UInt8)(i:Bool)(c:List (List UInt8))(d:List zt)(e:List zc):
  zdY l n a b i c d e=cond (uB (fun m=>(m.Abstract == i)&&zfH m) (·.Name) [] l) (some false) (some (decide ((l.length:Int)≤n))):=by
 unfold zdY
 refine zp5 (ok:=fun m=>(m.Abstract == i)&&zfH m) (nm:=(·.Name)) hl (fun j x hx=>?_) ?_
 ·have hm:=h x (List.mem_of_getElem? hx)
  have hi:=(List.getElem?_eq_some_iff.1 hx).1
  unfold zcY zkl
  rw [zgm hx,zD,hx]
  simp only [Option.bind_some,cond_true]
  rw [zoN hm,zn1 (by omega)]
  simp only [Option.bind_some]
  rw [zw8 (by unfold zkg at *;rw [List.length_take];omega)]
  cases (x.Abstract == i) with
  |false=>rfl
  |true=>cases zfH x <;> rfl
 ·unfold zcY
  rw [zg2];rfl
structure zzV(c:za):Prop where
 name:Len c.Name
 super:Len c.Super
 impl:zkg c.Impl∧∀s∈c.Impl,Len s
 fields:zkg c.Fields∧∀f∈c.Fields,Len f.Name∧Len f.Type_
 methods:zkg c.Methods∧∀m∈c.Methods,GIn m
def zqQ(c:za):Bool:=
 !(c.Interface&&((!(c.Super == [79,98,106,101,99,116]))||decide (0<(c.Fields.length:Int)))) &&
 (((((zcy c.Name&&zcy c.Super)&&(!(uB zcy id [] c.Impl)&&decide ((c.Impl.length:Int)≤4)))&&(!(uB zmu (·.Name) [] c.Fields)&&decide ((c.Fields.length:Int)≤8)))) &&
  (!(uB (fun m=>(m.Abstract == c.Interface)&&zfH m) (·.Name) [] c.Methods)&&decide ((c.Methods.length:Int)≤8)))
theorem zq8{c:za}(h:zzV c):zlj c=some (zqQ c):=by
 have e:∀(b d:Bool),cond b (some false) (some d)=some (!b&&d):=fun b d=>by cases b <;> rfl
 unfold zlj zqQ
 rw [zwr h.fields.1 h.fields.2,zto h.methods.1 h.methods.2,zgo h.name,zgo h.super,zyN h.impl.1 h.impl.2,e,e,e]
 cases (c.Interface&&((!(c.Super == [79,98,106,101,99,116]))||decide (0<(c.Fields.length:Int)))) with
 |true=>rfl
 |false =>
  cases zcy c.Name with
  |false=>rfl
  |true=>cases zcy c.Super <;> rfl
theorem zrg{α:Type}(p:α→Bool):∀(l:List α) (k i:Nat) (x:α),l[i]?=some x→p x=true→(ixF p k l == ((k+i:Nat):Int))=!((l.take i).any p)
 | [],k,i,x,h,_=>by simp at h
 |y ::r,k,0,x,h,hp=>by
  have:y=x:=by simpa using h
  subst this
  show (cond (p y) (k:Int) (ixF p (k+1) r) == (k:Int))=true
  rw [hp]
  exact beq_self_eq_true _
 |y ::r,k,i+1,x,h,hp=>by
  have h':r[i]?=some x:=by simpa using h
  show (cond (p y) (k:Int) (ixF p (k+1) r) == ((k+(i+1):Nat):Int))=!(p y||(r.take i).any p)
  cases p y with
  |true=>exact beq_eq_false_iff_ne.2 (show (k:Int)≠((k+(i+1):Nat):Int) by omega)
  |false =>
   have:=zrg p r (k+1) i x h' hp
   rw [show k+1+i=k+(i+1) by omega] at this
   exact this
theorem znB{c:za}(hl:zkg c.Fields)(n:List UInt8):ziX c n=some (ixF (fun y=>y.Name == n) 0 c.Fields):=by
 unfold ziX
 rw [show ((zw (fun z=>zgv c n z) 0).bind fun o=>zU o (fun b=>ziS) some)=_ from zcw (p:=fun y:zt=>y.Name == n) hl
  (fun i x hx=>by unfold zgv;rw [zgm hx,zD,hx];rfl) (by unfold zgv;rw [zg2];rfl)]
theorem zjJ{c:za}(hl:zkg c.Methods)(n:List UInt8):zhe c n=some (ixF (fun y=>y.Name == n) 0 c.Methods):=by
 unfold zhe
 rw [show ((zw (fun z=>zfD c n z) 0).bind fun o=>zU o (fun b=>zil) some)=_ from zcw (p:=fun y:zc=>y.Name == n) hl
  (fun i x hx=>by unfold zfD;rw [zgm hx,zD,hx];rfl) (by unfold zfD;rw [zg2];rfl)]
theorem zBO(x y:List UInt8):(x == y)=(y == x):=by
 by_cases h:x=y
 ·rw [h]
 ·rw [beq_eq_false_iff_ne.2 h,beq_eq_false_iff_ne.2 (Ne.symm h)]
theorem zt5{α:Type}(l:List α)(f:α→List UInt8)(n:List UInt8):(l.any fun y=>f y == n)=l.any fun y=>n == f y:=by
 congr 1
 funext y
 exact zBO _ _
theorem zoU{c:za}(h:zzV c):zhO c=some (zqQ c):=by
 have himp:=h.impl.1
 unfold zkg at himp
 have lf:zw (fun z=>zde c z) 0=some (cond (uB zmu (·.Name) [] c.Fields) (.inr false) (.inl ())):=by
  rw [zzQ]
  refine zl4 h.fields.1 (fun i x hx=>?_) (by show zde c (c.Fields.length:Int)=_;unfold zde;rw [zg2];rfl)
  have hm:=h.fields.2 x (List.mem_of_getElem? hx)
  have hfi:=zrg (fun y:zt=>y.Name == x.Name) c.Fields 0 i x hx (beq_self_eq_true _)
  rw [Nat.zero_add,zt5] at hfi
  show zde c (i:Int)=_
  unfold zde zmu
  rw [zgm hx,zD,hx]
  simp only [Option.bind_some,cond_true]
  rw [zlE hm.1,zed hm.2,znB h.fields.1]
  simp only [Option.bind_some]
  rw [hfi]
  cases zpG x.Name with
  |false=>rfl
  |true =>
   cases (x.Name == [36,105,110,105,116]) with
   |true=>rfl
   |false =>
    cases zfq x.Type_ with
    |false=>rfl
    |true=>cases (c.Fields.take i).any fun y=>x.Name == y.Name <;> rfl
 have lm:zw (fun z=>zdf c z) 0=some (cond (uB (fun m=>(m.Abstract == c.Interface)&&zfH m) (·.Name) [] c.Methods) (.inr false) (.inl ())):=by
  rw [zzQ]
  refine zl4 h.methods.1 (fun i x hx=>?_) (by show zdf c (c.Methods.length:Int)=_;unfold zdf;rw [zg2];rfl)
  have hm:=h.methods.2 x (List.mem_of_getElem? hx)
  have hfi:=zrg (fun y:zc=>y.Name == x.Name) c.Methods 0 i x hx (beq_self_eq_true _)
  rw [Nat.zero_add,zt5] at hfi
  show zdf c (i:Int)=_
  unfold zdf
  rw [zgm hx,zD,hx]
  simp only [Option.bind_some,cond_true]
  rw [zog hm,zjJ h.methods.1]
  simp only [Option.bind_some]
  rw [hfi]
  cases (x.Abstract == c.Interface) with
  |false=>rfl
  |true =>
   cases zfH x with
   |false=>cases (c.Methods.take i).any fun y=>x.Name == y.Name <;> rfl
   |true=>cases (c.Methods.take i).any fun y=>x.Name == y.Name <;> rfl
 have li:zw (fun z=>zdd c z) 0=some (cond (uB zcy id [] c.Impl) (.inr false) (.inl ())):=by
  rw [zzQ]
  refine zl4 h.impl.1 (fun i x hx=>?_) (by show zdd c (c.Impl.length:Int)=_;unfold zdd;rw [zg2];rfl)
  have hm:=h.impl.2 x (List.mem_of_getElem? hx)
  have hi:=(List.getElem?_eq_some_iff.1 hx).1
  have hin:zw (fun z=>zdc c (i:Int) z) 0=some (cond ((c.Impl.take i).any fun y=>y == x) (.inr false) (.inl ())):=by
   have ht:(c.Impl.take i).length=i:=by rw [List.length_take];omega
   refine zj0 (by omega) (fun j y hy=>?_) ?_
   ·have hj:=(List.getElem?_eq_some_iff.1 hy).1
    rw [ht] at hj
    rw [List.getElem?_take_of_lt hj] at hy
    show zdc c (i:Int) (j:Int)=_
    unfold zdc
    rw [decide_eq_true (show (j:Int)<(i:Int) by omega),zD,hy,zD,hx]
    rfl
   ·rw [ht]
    show zdc c (i:Int) (i:Int)=_
    unfold zdc
    rw [decide_eq_false (show ¬(i:Int)<(i:Int) by omega)];rfl
  show zdd c (i:Int)=_
  unfold zdd
  rw [zgm hx,zD,hx]
  simp only [Option.bind_some,cond_true]
  rw [zgt hm,hin,show ((c.Impl.take i).any fun y=>y == x)=(c.Impl.take i).any fun y=>id x == id y from zt5 _ id x]
  cases zcy x with
  |false=>rfl
  |true=>cases (c.Impl.take i).any fun y=>id x == id y <;> rfl
 have hle:∀(n:Nat) (b:Int),decide (b<(n:Int))=!decide ((n:Int)≤b):=fun n b=>by
  by_cases hb:(n:Int)≤b
  ·rw [decide_eq_true hb,decide_eq_false (show ¬b<(n:Int) by omega)];rfl
  ·rw [decide_eq_false hb,decide_eq_true (show b<(n:Int) by omega)];rfl
 unfold zhO zg5 zg6 zqQ
 rw [zgt h.name,zgt h.super,li,lf,lm,hle c.Impl.length 4,hle c.Fields.length 8,hle c.Methods.length 8]
 generalize (c.Interface&&((!(c.Super == [79,98,106,101,99,116]))||decide (0<(c.Fields.length:Int))))=B
 generalize uB zcy id [] c.Impl=u1
 generalize uB zmu (·.Name) [] c.Fields=u2
 generalize uB (fun m=>(m.Abstract == c.Interface)&&zfH m) (·.Name) [] c.Methods=u3
 generalize decide ((c.Impl.length:Int)≤4)=d1
 generalize decide ((c.Fields.length:Int)≤8)=d2
 generalize decide ((c.Methods.length:Int)≤8)=d3
 cases zcy c.Name with
 |false=>cases B <;> rfl
 |true =>
  cases zcy c.Super with
  |false=>cases B <;> rfl
  |true=>cases B <;> cases u1 <;> cases u2 <;> cases u3 <;> cases d1 <;> cases d2 <;> cases d3 <;> rfl
abbrev Tx:=List UInt8
def cl(L:List za)(n:Tx):Option za:=L.find? (fun c=>c.Name == n)
def atN(L:List za)(n:Tx):Int:=ixF (fun c=>c.Name == n) 0 L
def zda(L:List za)(n:Tx):Bool:=L.any (fun c=>c.Name == n)
def isF(L:List za)(n:Tx):Bool:=match cl L n with |some c=>c.Interface |none=>false
theorem zpy{α:Type}(p:α→Bool):∀(l:List α) (k:Nat),(∃j x,ixF p k l=((k+j:Nat):Int)∧l[j]?=some x∧p x=true∧l.find? p=some x)∨(ixF p k l=-1∧l.find? p=none)
 | [],k=>.inr ⟨rfl,rfl⟩
 |y ::r,k=>by
  unfold ixF
  cases h:p y with
  |true=>exact .inl ⟨0,y,rfl,rfl,h,by simp [List.find?,h]⟩
  |false =>
   rcases zpy p r (k+1) with ⟨j,x,h1,h2,h3,h4⟩ |⟨h1,h2⟩
   ·exact .inl ⟨j+1,x,by show ixF p (k+1) r=_;rw [h1];congr 1;omega,by simpa using h2,h3,by simp [List.find?,h,h4]⟩
   ·exact .inr ⟨h1,by simp [List.find?,h,h2]⟩
theorem zqL{α:Type}(p:α→Bool):∀(l r:List α) (k:Nat),ixF p k (l++r)=cond (l.any p) (ixF p k l) (ixF p (k+l.length) r)
 | [],r,k=>rfl
 |y ::l,r,k=>by
  show ixF p k (y ::(l++r))=_
  rw [show ixF p k (y ::(l++r))=cond (p y) (k:Int) (ixF p (k+1) (l++r)) from rfl,show ixF p k (y ::l)=cond (p y) (k:Int) (ixF p (k+1) l) from rfl,List.any_cons]
  cases h:p y with
  |true=>rfl
  |false =>
   rw [Bool.false_or,cond_false,cond_false,zqL p l r (k+1),show k+1+l.length=k+(y ::l).length by simp;omega]
theorem zpe(L:List za)(n:Tx):decide (0≤atN L n)=zda L n:=zha _ 0 L
theorem zot(L:List za)(n:Tx):decide (atN L n<0)=!zda L n:=by
 rw [←zpe]
 by_cases h:0≤atN L n
 ·rw [decide_eq_true h,decide_eq_false (by omega)];rfl
 ·rw [decide_eq_false h,decide_eq_true (by omega)];rfl
theorem znk(L:List za)(n:Tx):idx L (atN L n)=cl L n:=by
 unfold atN cl
 rcases zpy (fun c:za=>c.Name == n) L 0 with ⟨j,x,h1,h2,h3,h4⟩ |⟨h1,h2⟩
 ·rw [h1,h4,zD,Nat.zero_add,h2]
 ·rw [h1,h2];rfl
theorem zwG(L:List za)(n:Tx):(cl L n).isSome=zda L n:=by
 unfold cl zda
 rw [Bool.eq_iff_iff,List.any_eq_true]
 exact List.find?_isSome
theorem zcX{L:List za}{n:Tx}{c:za}(h:cl L n=some c):c∈L∧c.Name=n:=by
 unfold cl at h
 exact ⟨List.mem_of_find?_eq_some h,eq_of_beq (List.find?_some (p:=fun c:za=>c.Name == n) h)⟩
theorem zgC{L:List za}{n:Tx}(h:zda L n=true):∃c,cl L n=some c:=by
 rw [←zwG] at h
 exact Option.isSome_iff_exists.1 h
theorem zhq{L:List za}{n:Tx}{c:za}(h:cl L n=some c):zda L n=true:=by rw [←zwG,h];rfl
theorem zmH{L:List za}{n:Tx}(h:cl L n=none):zda L n=false:=by rw [←zwG,h];rfl
theorem ziC{L:List za}{n:Tx}:zda L n=true↔n∈L.map (·.Name):=by
 unfold zda
 rw [List.any_eq_true,List.mem_map]
 constructor
 ·rintro ⟨c,h1,h2⟩;exact ⟨c,h1,eq_of_beq h2⟩
 ·rintro ⟨c,h1,h2⟩;exact ⟨c,h1,beq_iff_eq.2 h2⟩
def Nd(L:List za):Prop:=∀(i j:Nat) (c d:za),L[i]?=some c→L[j]?=some d→c.Name=d.Name→i=j
theorem Nd.at{L:List za}(h:Nd L){i:Nat}{c:za}(hi:L[i]?=some c):atN L c.Name=(i:Int):=by
 unfold atN
 rcases zpy (fun d:za=>d.Name == c.Name) L 0 with ⟨j,x,h1,h2,h3,h4⟩ |⟨h1,h2⟩
 ·rw [h1,Nat.zero_add,h j i x c h2 hi (eq_of_beq h3)]
 ·have:=List.find?_eq_none.1 h2 c (List.mem_of_getElem? hi)
  simp at this
theorem Nd.cl{L:List za}(h:Nd L){c:za}(hc:c∈L):cl L c.Name=some c:=by
 obtain ⟨i,hi,e⟩:=List.getElem_of_mem hc
 have hi':L[i]?=some c:=by rw [List.getElem?_eq_getElem hi,e]
 rw [←znk,h.at hi',zD,hi']
theorem Nd.snoc{L:List za}(h:Nd L){c:za}(hc:zda L c.Name=false):Nd (L++[c]):=by
 have no:∀(i:Nat) d,L[i]?=some d→d.Name≠c.Name:=fun i d hi e=>by
  have:zda L c.Name=true:=ziC.2 (List.mem_map.2 ⟨d,List.mem_of_getElem? hi,e⟩)
  rw [hc] at this;cases this
 have get:∀(i:Nat) d,(L++[c])[i]?=some d→(L[i]?=some d)∨(i=L.length∧d=c):=fun i d hi=>by
  rw [List.getElem?_append] at hi
  split at hi
  ·exact .inl hi
  ·rename_i hlt
   right
   have h1:=(List.getElem?_eq_some_iff.1 hi).1
   simp at h1
   have h2:i=L.length:=by omega
   subst h2
   simp at hi
   exact ⟨rfl,hi.symm⟩
 intro i j d e hi hj hn
 rcases get i d hi with h1 |⟨h1,h1'⟩ <;> rcases get j e hj with h2 |⟨h2,h2'⟩
 ·exact h i j d e h1 h2 hn
 ·subst h2';exact absurd hn (no i d h1)
 ·subst h1';exact absurd hn.symm (no j e h2)
 ·rw [h1,h2]
theorem zy7(L:List za)(c:za)(n:Tx):zda (L++[c]) n=(zda L n||(c.Name == n)):=by
 unfold zda;simp
theorem zqP{α:Type}(k k':Tx)(x:α):∀(m:List (Tx×α)),zcD k (zgN k' x m)=if k=k' then some x else zcD k m
 | []=>by
  unfold zgN zcD zcD
  by_cases h:k=k'
  ·rw [if_pos h,decide_eq_true h];rfl
  ·rw [if_neg h,decide_eq_false h];rfl
 |(a,y)::r=>by
  unfold zgN
  by_cases h':k'=a
  ·subst h'
   rw [decide_eq_true rfl]
   show zcD k ((k',x)::r)=_
   unfold zcD
   by_cases h:k=k'
   ·rw [if_pos h,decide_eq_true h];rfl
   ·rw [if_neg h,decide_eq_false h];rfl
  ·rw [decide_eq_false h']
   show zcD k ((a,y)::zgN k' x r)=_
   unfold zcD
   rw [zqP k k' x r]
   by_cases h:k=k'
   ·subst h
    rw [if_pos rfl,decide_eq_false h',if_pos rfl];rfl
   ·rw [if_neg h,if_neg h]
def zdz(L:List za)(m:List (Tx×Int)):Prop:=∀n,zcD n m=cond (zda L n) (some (atN L n)) none
theorem zdz.snoc{L:List za}{m:List (Tx×Int)}(h:zdz L m){c:za}(hc:zda L c.Name=false):zdz (L++[c]) (zgN c.Name (L.length:Int) m):=by
 intro n
 rw [zqP,zy7,h n]
 unfold atN
 rw [zqL]
 show _=cond _ (some (cond (zda L n) _ _)) none
 by_cases e:n=c.Name
 ·subst e
  rw [if_pos rfl,hc,beq_self_eq_true]
  simp [ixF]
 ·rw [if_neg e,beq_eq_false_iff_ne.2 (Ne.symm e)]
  cases zda L n <;> rfl
theorem zdz.has{L:List za}{m:List (Tx×Int)}(h:zdz L m)(n:Tx):(zcD n m).isSome=zda L n:=by
 rw [h n];cases zda L n <;> rfl
theorem zdz.idx{L:List za}{m:List (Tx×Int)}(h:zdz L m){n:Tx}(hn:zda L n=true):idx L ((zcD n m).getD 0)=cl L n:=by
 rw [h n,hn];exact znk L n
inductive Rc(nx:Tx→List Tx):Tx→Tx→Prop
 |one {a b}:b∈nx a→Rc nx a b
 |more {a b c}:b∈nx a→Rc nx b c→Rc nx a c
theorem Rc.snoc{nx:Tx→List Tx}{a b c:Tx}(h:Rc nx a b)(hc:c∈nx b):Rc nx a c:=by
 induction h with
 |one h=>exact .more h (.one hc)
 |more h _ ih=>exact .more h (ih hc)
theorem Rc.into{nx:Tx→List Tx}{F:Tx→Prop}(hF:∀x,F x→∀y∈nx x,F y){a b:Tx}(h:Rc nx a b):(∀y∈nx a,F y)→F b:=by
 induction h with
 |one h=>exact fun ha=>ha _ h
 |more h _ ih=>exact fun ha=>ih (hF _ (ha _ h))
theorem zxK:∀{a b:List Tx},a.Nodup→(∀x∈a,x∈b)→a.length≤b.length
 | [],b,_,_=>by simp
 |x ::r,b,h,hs=>by
  rw [List.nodup_cons] at h
  have hx:=hs x (by simp)
  have h1:=zxK (a:=r) (b:=b.erase x) h.2 (fun y hy=>(List.mem_erase_of_ne (fun e=>h.1 (by rw [←e];exact hy))).2 (hs y (by simp [hy])))
  have h2:=List.length_erase_of_mem hx
  have h3:=List.length_pos_of_mem hx
  simp only [List.length_cons]
  omega
def push(zae:List Tx):List Tx→List Tx
 | []=>zae
 |s ::r=>push (cond (zae.any fun y=>s == y) zae (zae++[s])) r
theorem zwv{s:Tx}{l:List Tx}:(l.any fun y=>s == y)=true↔s∈l:=by
 rw [List.any_eq_true]
 constructor
 ·rintro ⟨y,h1,h2⟩;rw [eq_of_beq h2];exact h1
 ·intro h;exact ⟨s,h,beq_self_eq_true _⟩
theorem ziR:∀(l zae:List Tx),∃t,push zae l=zae++t∧t.Nodup∧(∀x∈t,x ∉ zae∧x∈l)∧∀x∈l,x∈zae++t
 | [],zae=>⟨[],by simp [push],by simp,fun x h=>(by cases h),fun x h=>(by cases h)⟩
 |s ::r,zae=>by
  unfold push
  cases h:(zae.any fun y=>s == y) with
  |true =>
   obtain ⟨t,h1,h2,h3,h4⟩:=ziR r zae
   refine ⟨t,h1,h2,fun x hx=>⟨(h3 x hx).1,List.mem_cons_of_mem _ (h3 x hx).2⟩,fun x hx=>?_⟩
   rcases List.mem_cons.1 hx with e |e
   ·rw [e];exact List.mem_append_left _ (zwv.1 h)
   ·exact h4 x e
  |false =>
   have hs:s ∉ zae:=fun hm=>by rw [zwv.2 hm] at h;cases h
   obtain ⟨t,h1,h2,h3,h4⟩:=ziR r (zae++[s])
   refine ⟨s ::t,by show push (zae++[s]) r=_;rw [h1];simp,List.nodup_cons.2 ⟨fun hm=>(h3 s hm).1 (by simp),h2⟩,fun x hx=>?_,fun x hx=>?_⟩
   ·rcases List.mem_cons.1 hx with e |e
    ·rw [e];exact ⟨hs,by simp⟩
    ·exact ⟨fun hm=>(h3 x e).1 (List.mem_append_left _ hm),List.mem_cons_of_mem _ (h3 x e).2⟩
   ·rcases List.mem_cons.1 hx with e |e
    ·rw [e];simp
    ·have:=h4 x e
     simpa using this
def bfs(nx:Tx→List Tx):Nat→Nat→List Tx→List Tx
 | 0,_,zae=>zae
 |d+1,i,zae=>match zae[i]? with |none=>zae |some x=>bfs nx d (i+1) (push zae (nx x))
def fin(nx:Tx→List Tx):Nat→Nat→List Tx→Bool
 | 0,i,zae=>decide (zae.length≤i)
 |d+1,i,zae=>match zae[i]? with |none=>true |some x=>fin nx d (i+1) (push zae (nx x))
def Inv(U s0 zae:List Tx):Prop:=∃T,zae=s0++T∧T.Nodup∧(∀x∈T,x∈U) 
theorem Inv.push{U s0 zae l:List Tx}(h:Inv U s0 zae)(hU:∀y∈l,y∈U):Inv U s0 (push zae l):=by
 obtain ⟨T,h1,h2,h3⟩:=h
 obtain ⟨t,k1,k2,k3,k4⟩:=ziR l zae
 refine ⟨T++t,by rw [k1,h1];simp,List.nodup_append.2 ⟨h2,k2,fun a ha b hb e=>(k3 b hb).1 (by rw [h1,←e];exact List.mem_append_right _ ha)⟩,fun x hx=>?_⟩
 rcases List.mem_append.1 hx with e |e
 ·exact h3 x e
 ·exact hU x (k3 x e).2
theorem Inv.len{U s0 zae:List Tx}(h:Inv U s0 zae):zae.length≤s0.length+U.length:=by
 obtain ⟨T,h1,h2,h3⟩:=h
 have:=zxK h2 h3
 rw [h1,List.length_append];omega
theorem Inv.mem{U s0 zae:List Tx}(h:Inv U s0 zae)(h0:∀x∈s0,x∈U):∀x∈zae,x∈U:=by
 obtain ⟨T,h1,h2,h3⟩:=h
 intro x hx
 rw [h1] at hx
 rcases List.mem_append.1 hx with e |e
 ·exact h0 x e
 ·exact h3 x e
theorem Inv.start{U s0:List Tx}:Inv U s0 s0:=⟨[],by simp,by simp,fun x h=>(by cases h)⟩
theorem zwV{nx:Tx→List Tx}{U s0:List Tx}(hU:∀x y,y∈nx x→y∈U):∀(d i:Nat) (zae:List Tx),Inv U s0 zae→s0.length+U.length≤d+i→fin nx d i zae=true
 | 0,i,zae,h,hd=>by
  have:=h.len
  exact decide_eq_true (by omega)
 |d+1,i,zae,h,hd=>by
  unfold fin
  cases zae[i]? with
  |none=>rfl
  |some x=>exact zwV hU d (i+1) _ (h.push (hU x)) (by omega)
theorem znc{nx:Tx→List Tx}:∀(d i:Nat) (zae:List Tx),∃t,bfs nx d i zae=zae++t
 | 0,i,zae=>⟨[],by simp [bfs]⟩
 |d+1,i,zae=>by
  unfold bfs
  cases zae[i]? with
  |none=>exact ⟨[],by simp⟩
  |some x =>
   obtain ⟨t,h⟩:=znc (nx:=nx) d (i+1) (push zae (nx x))
   obtain ⟨u,k,_⟩:=ziR (nx x) zae
   exact ⟨u++t,by show bfs nx d (i+1) _=_;rw [h,k];simp⟩
theorem zwA{nx:Tx→List Tx}{U s0:List Tx}(hU:∀x y,y∈nx x→y∈U):∀(d i:Nat) (zae:List Tx),Inv U s0 zae→Inv U s0 (bfs nx d i zae)
 | 0,i,zae,h=>h
 |d+1,i,zae,h=>by
  unfold bfs
  cases zae[i]? with
  |none=>exact h
  |some x=>exact zwA hU d (i+1) _ (h.push (hU x))
theorem zpg{nx:Tx→List Tx}{Q:Tx→Prop}(hQ:∀x,Q x→∀y∈nx x,Q y):∀(d i:Nat) (zae:List Tx),(∀x∈zae,Q x)→∀x∈bfs nx d i zae,Q x
 | 0,i,zae,h=>h
 |d+1,i,zae,h=>by
  unfold bfs
  cases hi:zae[i]? with
  |none=>exact h
  |some x =>
   refine zpg hQ d (i+1) _ fun y hy=>?_
   obtain ⟨u,k1,_,k3,_⟩:=ziR (nx x) zae
   rw [k1] at hy
   rcases List.mem_append.1 hy with e |e
   ·exact h y e
   ·exact hQ x (h x (List.mem_of_getElem? hi)) y (k3 y e).2
theorem znY{nx:Tx→List Tx}:∀(d i:Nat) (zae:List Tx),fin nx d i zae=true→(∀j x,j<i→zae[j]?=some x→∀y∈nx x,y∈zae)→∀x∈bfs nx d i zae,∀y∈nx x,y∈bfs nx d i zae
 | 0,i,zae,hf,h=>fun x hx y hy=>by
  have hl:zae.length≤i:=of_decide_eq_true hf
  obtain ⟨j,hj,e⟩:=List.getElem_of_mem (show x∈zae from hx)
  exact h j x (by omega) (by rw [List.getElem?_eq_getElem hj,e]) y hy
 |d+1,i,zae,hf,h=>by
  unfold fin at hf
  unfold bfs
  cases hi:zae[i]? with
  |none =>
   intro x hx y hy
   have hl:zae.length≤i:=List.getElem?_eq_none_iff.1 hi
   obtain ⟨j,hj,e⟩:=List.getElem_of_mem (show x∈zae from hx)
   exact h j x (by omega) (by rw [List.getElem?_eq_getElem hj,e]) y hy
  |some z =>
   rw [hi] at hf
   obtain ⟨u,k1,_,k3,k4⟩:=ziR (nx z) zae
   have hlt:i<zae.length:=(List.getElem?_eq_some_iff.1 hi).1
   refine znY d (i+1) _ hf fun j x hj hx y hy=>?_
   rw [k1] at hx ⊢
   rw [List.getElem?_append_left (by omega)] at hx
   by_cases e:j=i
   ·subst e
    rw [hi] at hx
    cases hx
    exact k4 y hy
   ·exact List.mem_append_left _ (h j x (by omega) hx y hy)
theorem zBP{nx:Tx→List Tx}{d:Nat}{a b:Tx}(hf:fin nx d 0 (nx a)=true):b∈bfs nx d 0 (nx a)↔Rc nx a b:=by
 constructor
 ·exact zpg (Q:=fun x=>Rc nx a x) (fun x hx y hy=>hx.snoc hy) d 0 _ (fun x hx=>.one hx) b
 ·intro h
  refine h.into (F:=fun x=>x∈bfs nx d 0 (nx a)) (znY d 0 _ hf (fun j x hj=>by omega)) fun y hy=>?_
  obtain ⟨t,e⟩:=znc (nx:=nx) d 0 (nx a)
  rw [e];exact List.mem_append_left _ hy
theorem ztd{R:Type}{I:List Tx→Prop}{nx:Tx→List Tx}{stop:Tx→Option R}{body:List Tx×Int→Option (Sum (List Tx×Int) (Sum Unit R))}
  (hb:∀(i:Nat) zae x,I zae→zae[i]?=some x→body (zae,(i:Int))=match stop x with |some r=>some (.inr (.inr r)) |none=>some (.inl (push zae (nx x),((i+1:Nat):Int))))
  (he:∀(i:Nat) zae,I zae→zae.length≤i→body (zae,(i:Int))=some (.inr (.inl ())))
  (hp:∀zae x,I zae→x∈zae→I (push zae (nx x))):∀(d i:Nat) (zae:List Tx),I zae→fin nx d i zae=true →
  zw body (zae,(i:Int))=some (match ((bfs nx d i zae).drop i).findSome? stop with |some r=>(Sum.inr r:Sum Unit R) |none=>Sum.inl ())
 | 0,i,zae,hI,hf=>by
  have hl:zae.length≤i:=of_decide_eq_true hf
  rw [zN,he i zae hI hl]
  show _=some (match (zae.drop i).findSome? stop with |some r=>(Sum.inr r:Sum Unit R) |none=>Sum.inl ())
  rw [List.drop_eq_nil_of_le hl]
  rfl
 |d+1,i,zae,hI,hf=>by
  unfold fin at hf
  unfold bfs
  cases hi:zae[i]? with
  |none =>
   have hl:zae.length≤i:=List.getElem?_eq_none_iff.1 hi
   rw [zN,he i zae hI hl]
   show _=some (match (zae.drop i).findSome? stop with |some r=>(Sum.inr r:Sum Unit R) |none=>Sum.inl ())
   rw [List.drop_eq_nil_of_le hl]
   rfl
  |some x =>
   rw [hi] at hf
   obtain ⟨t,ht⟩:=znc (nx:=nx) d (i+1) (push zae (nx x))
   obtain ⟨u,hu,_⟩:=ziR (nx x) zae
   have hx:(bfs nx d (i+1) (push zae (nx x)))[i]?=some x:=by
    rw [ht,hu,List.append_assoc,List.getElem?_append_left (List.getElem?_eq_some_iff.1 hi).1,hi]
   obtain ⟨hlt,hge⟩:=List.getElem?_eq_some_iff.1 hx
   rw [zN,hb i zae x hI hi]
   show _=some (match ((bfs nx d (i+1) (push zae (nx x))).drop i).findSome? stop with |some r=>(Sum.inr r:Sum Unit R) |none=>Sum.inl ())
   rw [List.drop_eq_getElem_cons hlt,List.findSome?_cons,hge]
   cases stop x with
   |some r=>rfl
   |none=>exact ztd hb he hp d (i+1) _ (hp _ _ hI (List.mem_of_getElem? hi)) hf
def nxA(L:List za)(n:Tx):List Tx:=match cl L n with |none=>[] |some c=>(c.Super ::c.Impl).filter (fun s=>!(s == []))
def nxI(L:List za)(n:Tx):List Tx:=match cl L n with |none=>[] |some c=>c.Impl
structure zyK(L:List za):Prop where
 nd:Nd L
 noE:zda L []=false
 closed:∀c∈L,∀s∈c.Super ::c.Impl,s≠[]→zda L s=true
 implE:∀c∈L,[] ∉ c.Impl
structure Wf(L:List za):Prop extends zyK L where
 acyc:∀n,¬Rc (nxA L) n n
 superF:∀c∈L,isF L c.Super=false
 implF:∀c∈L,∀s∈c.Impl,isF L s=true
theorem zyK.nxA_in{L:List za}(h:zyK L)(x y:Tx)(hy:y∈nxA L x):y∈L.map (·.Name):=by
 unfold nxA at hy
 split at hy
 ·cases hy
 ·rename_i c hc
  rw [List.mem_filter] at hy
  exact ziC.1 (h.closed c (zcX hc).1 y hy.1 (by have:=hy.2;simpa using this))
theorem zyK.nxI_in{L:List za}(h:zyK L)(x y:Tx)(hy:y∈nxI L x):y∈L.map (·.Name):=by
 unfold nxI at hy
 split at hy
 ·cases hy
 ·rename_i c hc
  exact ziC.1 (h.closed c (zcX hc).1 y (List.mem_cons_of_mem _ hy) (fun e=>h.implE c (zcX hc).1 (by rw [←e];exact hy)))
def sup(L:List za):Nat→Tx→List Tx
 | 0,_=>[]
 |d+1,n=>match cl L n with |none=>[] |some c=>n ::sup L d c.Super
def zwf(L:List za):Nat→Tx→Bool
 | 0,n=>!zda L n
 |d+1,n=>match cl L n with |none=>true |some c=>zwf L d c.Super
theorem zu7{L:List za}(h:Wf L):∀(d:Nat) (n:Tx),zwf L d n=false→zda L n=true∧∃r,sup L (d+1) n=n ::r∧r.length=d∧(n ::r).Nodup∧(∀x∈r,x∈L.map (·.Name)∧Rc (nxA L) n x)
 | 0,n,hf=>by
  have hn:zda L n=true:=by simpa [zwf] using hf
  obtain ⟨c,hc⟩:=zgC hn
  exact ⟨hn,[],by simp [sup,hc],rfl,by simp,fun x h=>(by cases h)⟩
 |d+1,n,hf=>by
  unfold zwf at hf
  split at hf
  ·cases hf
  ·rename_i c hc
   obtain ⟨h0,r,h1,h2,h3,h4⟩:=zu7 h d c.Super hf
   have hs:c.Super∈nxA L n:=by
    unfold nxA
    rw [hc]
    refine List.mem_filter.2 ⟨by simp,?_⟩
    have:c.Super≠[]:=fun e=>by rw [e,h.noE] at h0;cases h0
    simpa using this
   have h5:∀x∈c.Super ::r,x∈L.map (·.Name)∧Rc (nxA L) n x:=fun x hx=>by
    rcases List.mem_cons.1 hx with e |e
    ·rw [e];exact ⟨ziC.1 h0,.one hs⟩
    ·exact ⟨(h4 x e).1,.more hs (h4 x e).2⟩
   refine ⟨zhq hc,c.Super ::r,?_,by simp [h2],List.nodup_cons.2 ⟨fun hm=>h.acyc n (h5 n hm).2,h3⟩,h5⟩
   show (match cl L n with |none=>[] |some c=>n ::sup L (d+1) c.Super)=_
   rw [hc]
   show n ::sup L (d+1) c.Super=_
   rw [h1]
theorem zu6{L:List za}(h:Wf L)(n:Tx):zwf L L.length n=true:=by
 cases hf:zwf L L.length n with
 |true=>rfl
 |false =>
  obtain ⟨h0,r,h1,h2,h3,h4⟩:=zu7 h _ n hf
  have:=zxK h3 (b:=L.map (·.Name)) (fun x hx=>by
   rcases List.mem_cons.1 hx with e |e
   ·rw [e];exact ziC.1 h0
   ·exact (h4 x e).1)
  simp at this
  omega
def zCy:Tx:=[79,98,106,101,99,116]
def zzN:Tx:=[84,104,114,111,119,110]
def gC(n s:Tx):za:=za.mk n s false [] [] []
def giv:List za:=[gC zCy [],gC zzN zCy,gC [78,117,108,108,69,114,114] zzN,gC [82,97,110,103,101,69,114,114] zzN,gC [77,97,116,104,69,114,114] zzN,gC [67,97,115,116,69,114,114] zzN,
 gC [83,105,122,101,69,114,114] zzN,gC [83,116,111,114,101,69,114,114] zzN,gC [73,110,105,116,69,114,114] zzN,gC [67,108,97,115,115,69,114,114] zzN]
theorem zrj:zl7=some giv:=by kernel_rfl
theorem zrP:zma=some giv:=by kernel_rfl
def zsE(k:Nat)(m:List (Tx×Int)):List za→List (Tx×Int)
 | []=>m
 |c ::r=>zsE (k+1) (zgN c.Name (k:Int) m) r
def fresh(pre:List za):List za→Bool
 | []=>true
 |c ::r=>!zda pre c.Name&&fresh (pre++[c]) r
theorem zuN:∀(r pre:List za) (m:List (Tx×Int)),zdz pre m→fresh pre r=true→zdz (pre++r) (zsE pre.length m r)
 | [],pre,m,h,_=>by simpa [zsE] using h
 |c ::r,pre,m,h,hf=>by
  simp only [fresh,Bool.and_eq_true,Bool.not_eq_true'] at hf
  have:=zuN r (pre++[c]) _ (h.snoc hf.1) hf.2
  simpa [zsE] using this
theorem zuB:∀(r pre:List za),Nd pre→fresh pre r=true→Nd (pre++r)
 | [],pre,h,_=>by simpa using h
 |c ::r,pre,h,hf=>by
  simp only [fresh,Bool.and_eq_true,Bool.not_eq_true'] at hf
  have:=zuB r (pre++[c]) (h.snoc hf.1) hf.2
  simpa using this
theorem zA0:zw (fun z=>zkv giv z.1 z.2) ([],0)=some (.inl (zsE 0 [] giv)):=by kernel_rfl
theorem zw5:zdz giv (zsE 0 [] giv):=zuN giv [] [] (fun n=>rfl) (by decide +kernel)
theorem zqK:Nd giv:=zuB giv [] (fun i j c d h=>by simp at h) (by decide +kernel)
def lay:List za→List za→Option (List za)
 |L,[]=>some L
 |L,c ::r=>cond (zda L c.Name||!zqQ c) none (lay (L++[c]) r)
theorem zqN:∀(r L L':List za),Nd L→lay L r=some L'→L'=L++r∧Nd L'∧∀c∈r,zqQ c=true
 | [],L,L',h,e=>by
  unfold lay at e
  cases e
  exact ⟨by simp,h,fun c hc=>by cases hc⟩
 |c ::r,L,L',h,e=>by
  unfold lay at e
  cases h1:zda L c.Name with
  |true=>rw [h1] at e;cases e
  |false =>
   cases h2:zqQ c with
   |false=>rw [h1,h2] at e;cases e
   |true =>
    rw [h1,h2] at e
    obtain ⟨k1,k2,k3⟩:=zqN r (L++[c]) L' (h.snoc h1) e
    refine ⟨by rw [k1];simp,k2,fun d hd=>?_⟩
    rcases List.mem_cons.1 hd with e |e
    ·rw [e];exact h2
    ·exact k3 d e
theorem zC4{w:Nat}{L:List za}{c:za}(h:L.length≤1000)(hw:w≤1000):zh2 w L [c]=some (L++[c]):=by
 refine zdm ?_ (by simp;omega)
 have:(L.length+[c].length)*w≤1001*1000:=Nat.mul_le_mul (by simp;omega) hw
 omega
theorem zuH{l:List za}(hl:l.length≤16)(hc:∀c∈l,zzV c):∀(r pre L:List za) (m:List (Tx×Int)),l=pre++r→zdz L m→L.length=10+pre.length →
  (lay L r=none→zw (fun z=>zdo l z.1 z.2.1 z.2.2) (L,m,(pre.length:Int))=some (.inr (none,1))) ∧
  (∀L',lay L r=some L'→∃m',zdz L' m'∧zw (fun z=>zdo l z.1 z.2.1 z.2.2) (L,m,(pre.length:Int))=some (.inl (L',m')))
 | [],pre,L,m,e,hm,hL=>by
  rw [List.append_nil] at e
  subst e
  unfold lay
  refine ⟨fun h=>(by cases h),fun L' h=>?_⟩
  cases h
  refine ⟨m,hm,?_⟩
  rw [zN]
  show (zdo l L m (l.length:Int)).bind _=_
  unfold zdo
  rw [zg2];rfl
 |c ::r,pre,L,m,e,hm,hL=>by
  have hlen:l.length=pre.length+(r.length+1):=by rw [e];simp
  have hx:l[pre.length]?=some c:=by rw [e];simp
  have hcm:c∈l:=List.mem_of_getElem? hx
  have step:zw (fun z=>zdo l z.1 z.2.1 z.2.2) (L,m,(pre.length:Int))=(cond (zda L c.Name||!zqQ c) (some (.inr (.inr (none,1)))) (some (.inl (L++[c],zgN c.Name (L.length:Int) m,((pre.length+1:Nat):Int))))).bind (Sum.elim (zw (fun z=>zdo l z.1 z.2.1 z.2.2)) some):=by
   rw [zN]
   show (zdo l L m (pre.length:Int)).bind _=_
   congr 1
   unfold zdo
   rw [zgm hx,zD,hx]
   simp only [cond_true,Option.bind_some]
   rw [hm.has,zq8 (hc c hcm),zC4 (by omega) (by omega),zaz (by omega)]
   cases zda L c.Name <;> cases zqQ c <;> rfl
  rw [step]
  unfold lay
  cases h1:(zda L c.Name||!zqQ c) with
  |true=>exact ⟨fun _=>rfl,fun L' h=>by cases h⟩
  |false =>
   rw [Bool.or_eq_false_iff] at h1
   have:=zuH hl hc r (pre++[c]) (L++[c]) _ (by rw [e];simp) (hm.snoc h1.1) (by simp;omega)
   rw [show (pre++[c]).length=pre.length+1 by simp] at this
   exact this
structure Okc(c:za):Prop where
 name:c.Name≠[]
 impl:c.Impl.length≤4
 implE:∀s∈c.Impl,s≠[]
theorem zjQ{s:Tx}(h:zcy s=true):s≠[]:=by
 intro e
 subst e
 unfold zcy at h
 simp at h
theorem ztb{α:Type}{ok:α→Bool}{nm:α→List UInt8}:∀{l pre:List α},uB ok nm pre l=false→∀x∈l,ok x=true
 | [],_,_,x,hx=>by cases hx
 |y ::r,pre,h,x,hx=>by
  unfold uB at h
  simp only [Bool.or_eq_false_iff,Bool.not_eq_false'] at h
  rcases List.mem_cons.1 hx with e |e
  ·rw [e];exact h.1.1
  ·exact ztb h.2 x e
theorem zBj{c:za}(h:zqQ c=true):Okc c:=by
 unfold zqQ at h
 simp only [Bool.and_eq_true,Bool.not_eq_true',decide_eq_true_eq] at h
 obtain ⟨_,⟨⟨⟨⟨h1,h2⟩,h3,h4⟩,h5⟩,h6⟩⟩:=h
 exact ⟨zjQ h1,by omega,fun s hs=>zjQ (ztb h3 s hs)⟩
theorem zA2:∀c∈giv,Okc c:=by
 intro c hc
 have h:giv.all (fun c=>!(c.Name == [])&&(c.Impl == []))=true:=by decide +kernel
 have:=List.all_eq_true.1 h c hc
 simp only [Bool.and_eq_true,Bool.not_eq_true',beq_eq_false_iff_ne,beq_iff_eq] at this
 exact ⟨this.1,by rw [this.2];simp,fun s hs=>by rw [this.2] at hs;cases hs⟩
theorem zrs{l L:List za}(h:lay giv l=some L):∀c∈L,Okc c:=by
 obtain ⟨h1,h2,h3⟩:=zqN l giv L zqK h
 intro c hc
 rw [h1] at hc
 rcases List.mem_append.1 hc with e |e
 ·exact zA2 c e
 ·exact zBj (h3 c e)
theorem zud{c:za}(h:c.Impl.length≤4):zh2 16 [c.Super] c.Impl=some (c.Super ::c.Impl):=zdm (by simp;omega) (by simp;omega)
theorem zkw{c:za}(h:c.Impl.length≤4):zh7 c=some (c.Super ::c.Impl):=by
 unfold zh7;rw [zud h];rfl
theorem zwK{l:List Tx}{L:List za}{m:List (Tx×Int)}(hm:zdz L m)(hl:l.length≤1000):zaK l L m=some (l.any fun s=>!zda L s):=by
 unfold zaK zbW
 rw [show ((zw (fun z=>zal l L m z) 0).bind fun o=>zU o (fun b=>zbs) some)=_ from zcw (l:=l) (p:=fun s=>!zda L s) (by omega)
  (fun i x hx=>by unfold zal zl6 zbQ;rw [zgm hx,zD,hx];simp only [cond_true,Option.bind_some];rw [hm.has]) (by unfold zal;rw [zg2];rfl)]
 exact congrArg some (zha _ 0 l)
theorem zqJ{L:List za}{m:List (Tx×Int)}(hm:zdz L m){n:Tx}(hn:zda L n=true):zcZ L m n=cl L n:=by
 unfold zcZ
 rw [hm.idx hn]
 cases cl L n <;> rfl
theorem zwL{l:List Tx}{L:List za}{m:List (Tx×Int)}(hm:zdz L m)(hl:l.length≤1000)(hh:∀s∈l,zda L s=true):zaL l L m=some (l.any fun s=>!isF L s):=by
 unfold zaL zbX
 rw [show ((zw (fun z=>zam l L m z) 0).bind fun o=>zU o (fun b=>zbt) some)=_ from zcw (l:=l) (p:=fun s=>!isF L s) (by omega)
  (fun i x hx=>by
   obtain ⟨c,hc⟩:=zgC (hh x (List.mem_of_getElem? hx))
   unfold zam zgZ isF
   rw [zgm hx,zD,hx];simp only [cond_true,Option.bind_some];rw [zqJ hm (zhq hc),hc];rfl) (by unfold zam;rw [zg2];rfl)]
 exact congrArg some (zha _ 0 l)
def cyc(L:List za)(n:Tx):Bool:=@decide (Rc (nxA L) n n) (Classical.propDecidable _)
theorem zre{L:List za}{n:Tx}:cyc L n=true↔Rc (nxA L) n n:=by unfold cyc;exact @decide_eq_true_iff _ (Classical.propDecidable _)
def ztg(L:List za)(c:za):Bool:=isF L c.Super||(c.Impl.any (fun s=>!isF L s)||cyc L c.Name)
theorem zpS{R:Type}{body:List Tx×Int→Option (Sum (List Tx×Int) (Sum (List Tx) R))}{l:List Tx}{p:Tx→Bool}(hl:l.length≤100)
  (hb:∀(i:Nat) x zae,zae.length≤1000→l[i]?=some x→body (zae,(i:Int))=some (.inl (cond (p x&&!(zae.any fun y=>x == y)) (zae++[x]) zae,IntKind.i64.wrap ((i:Int)+1))))
  (he:∀zae,body (zae,(l.length:Int))=some (.inr (.inl zae))):∀(r pre zae:List Tx),l=pre++r→zae.length+r.length≤1000→zw body (zae,(pre.length:Int))=some (.inl (push zae (r.filter p)))
 | [],pre,zae,e,hs=>by
  rw [List.append_nil] at e
  subst e
  rw [zN,he];rfl
 |x ::r,pre,zae,e,hs=>by
  have hlen:l.length=pre.length+(r.length+1):=by rw [e];simp
  have hx:l[pre.length]?=some x:=by rw [e];simp
  simp only [List.length_cons] at hs
  rw [zN,hb _ x zae (by omega) hx,zaz (by omega)]
  have ih:=fun s h=>zpS hl hb he r (pre++[x]) s (by rw [e];simp) h
  rw [show (pre++[x]).length=pre.length+1 by simp] at ih
  cases h1:p x with
  |false =>
   rw [List.filter_cons_of_neg (by rw [h1];exact Bool.false_ne_true)]
   exact ih zae (by omega)
  |true =>
   rw [List.filter_cons_of_pos h1]
   unfold push
   cases h2:(zae.any fun y=>x == y) with
   |true=>exact ih zae (by omega)
   |false=>exact ih (zae++[x]) (by simp;omega)
theorem zo1{l:List Tx}(hl:l.length≤1000)(n:Tx):zK l n=some (l.any fun y=>n == y):=zw9 (by unfold zkg;omega) n
theorem zwX{l zae:List Tx}(hl:l.length≤100)(hs:zae.length+l.length≤1000):zw (fun z=>zcL l z.1 z.2) (zae,0)=some (.inl (push zae (l.filter (fun s=>!(s == []))))):=by
 refine zpS (l:=l) (p:=fun s=>!(s == [])) hl (fun i x s h hx=>?_) (fun s=>?_) l [] zae rfl hs
 ·show zcL l s (i:Int)=_
  unfold zcL zd9
  rw [zgm hx,zD,hx]
  simp only [cond_true,Option.bind_some]
  rw [zo1 h,zdm (w:=16) (l:=s) (x:=[x]) (by simp;omega) (by simp;omega)]
  cases (x == []) <;> cases (s.any fun y=>x == y) <;> rfl
 ·show zcL l s (l.length:Int)=_
  unfold zcL
  rw [zg2];rfl
theorem zpI{L:List za}{n:Tx}{c:za}(h:cl L n=some c):nxA L n=(c.Super ::c.Impl).filter (fun s=>!(s == [])):=by unfold nxA;rw [h]
theorem zAj{L:List za}(hL:∀c∈L,Okc c)(n:Tx):(nxA L n).length≤5:=by
 unfold nxA
 split
 ·simp
 ·rename_i c hc
  have:=(hL c (zcX hc).1).impl
  exact Nat.le_trans (List.length_filter_le _ _) (by simp;omega)
theorem zzq(l zae:List Tx):(push zae l).length≤zae.length+l.length:=by
 induction l generalizing zae with
 |nil=>simp [push]
 |cons x r ih =>
  unfold push
  cases (zae.any fun y=>x == y) with
  |true=>have:=ih zae;simp only [cond_true,List.length_cons];omega
  |false=>have:=ih (zae++[x]);simp only [cond_false,List.length_cons];simp at this;omega
theorem zAW{L:List za}{m:List (Tx×Int)}(hm:zdz L m)(h:zyK L)(hO:∀c∈L,Okc c)(hlen:L.length≤100){c:za}(hc:c∈L)(hs:c.Super≠[]):zfA L m c=some (!ztg L c):=by
 have hcs:=h.closed c hc
 have hsup:zda L c.Super=true:=hcs c.Super (by simp) hs
 obtain ⟨x,hx⟩:=zgC hsup
 have himp:∀s∈c.Impl,zda L s=true:=fun s hm=>hcs s (by simp [hm]) ((hO c hc).implE s hm)
 have hi4:=(hO c hc).impl
 have e0:(c.Super ::c.Impl)=nxA L c.Name:=by
  rw [zpI (h.nd.cl hc),List.filter_eq_self.2]
  intro s hsm
  rcases List.mem_cons.1 hsm with e |e
  ·rw [e];simpa using hs
  ·simpa using (hO c hc).implE s e
 unfold zfA
 rw [zqJ hm hsup,hx,zwL hm (by omega) himp,zkw hi4]
 simp only [Option.bind_some]
 have eF:isF L c.Super=x.Interface:=by unfold isF;rw [hx]
 unfold ztg
 rw [eF]
 cases x.Interface with
 |true=>rfl
 |false =>
  cases c.Impl.any (fun s=>!isF L s) with
  |true=>rfl
  |false =>
   have hfin:fin (nxA L) (5+L.length) 0 (nxA L c.Name)=true:=zwV (U:=L.map (·.Name)) (s0:=nxA L c.Name) h.nxA_in _ _ _ .start (by have:=zAj hO c.Name;simp;omega)
   have hw:=ztd (R:=Bool) (I:=fun s=>Inv (List.map (fun c:za=>c.Name) L) (nxA L c.Name) s) (nx:=nxA L) (stop:=fun y=>cond (y == c.Name) (some false) none) (body:=fun z=>zck L m c z.1 z.2)
    (fun i zae y hI hy=>by
     have hsl:=hI.len
     have h5:=zAj hO c.Name
     have hym:zda L y=true:=ziC.2 (hI.mem (fun z hz=>h.nxA_in _ z hz) y (List.mem_of_getElem? hy))
     obtain ⟨d,hd⟩:=zgC hym
     have hd4:=(hO d (zcX hd).1).impl
     have hpl:=zzq (nxA L y) zae
     simp only [List.length_map] at hsl
     show zck L m c zae (i:Int)=_
     unfold zck zgn
     rw [zgm hy,zD,hy]
     simp only [cond_true,Option.bind_some]
     have hilt:=(List.getElem?_eq_some_iff.1 hy).1
     rw [zqJ hm hym,hd]
     simp only [Option.bind_some]
     rw [zkw hd4]
     simp only [Option.bind_some]
     rw [zwX (by simp;omega) (by simp;omega),←zpI hd,zaz (by omega)]
     cases y == c.Name <;> rfl)
    (fun i zae hI hle=>by
     show zck L m c zae (i:Int)=_
     unfold zck
     rw [decide_eq_false (by omega)];rfl)
    (fun zae y hI hy=>hI.push (h.nxA_in y)) (5+L.length) 0 (nxA L c.Name) .start hfin
   rw [e0]
   rw [show zw (fun z=>zck L m c z.1 z.2) (nxA L c.Name,0)=_ from hw,List.drop_zero,zdB]
   have:(bfs (nxA L) (5+L.length) 0 (nxA L c.Name)).any (fun y=>y == c.Name)=cyc L c.Name:=by
    rw [Bool.eq_iff_iff,zre,←zBP hfin,List.any_eq_true]
    constructor
    ·rintro ⟨y,h1,h2⟩;obtain rfl:=eq_of_beq h2;exact h1
    ·intro h1;exact ⟨_,h1,beq_self_eq_true _⟩
   rw [this]
   cases cyc L c.Name <;> rfl
def onB(inn:List Bool)(n:Nat):Bool:=inn.getD n false
def zpH(L:List za)(inn:List Bool)(s:Tx):Bool:=zda L s&&!onB inn (atN L s).toNat
def mk1(L:List za)(inn:List Bool)(s:Tx):List Bool:=cond (zpH L inn s) (inn.set (atN L s).toNat true) inn
def mkS(L:List za):List Bool→List Tx→List Bool
 |inn,[]=>inn
 |inn,s ::r=>mkS L (mk1 L inn s) r
theorem ztq{L:List za}{s:Tx}(h:zda L s=true):0≤atN L s∧(atN L s).toNat<L.length:=by
 unfold zda at h
 unfold atN
 rcases zpy (fun c:za=>c.Name == s) L 0 with ⟨j,x,h1,h2,h3,h4⟩ |⟨h1,h2⟩
 ·have:=(List.getElem?_eq_some_iff.1 h2).1
  rw [h1]
  omega
 ·rw [List.any_eq_true] at h
  obtain ⟨c,k1,k2⟩:=h
  have:=List.find?_eq_none.1 h2 c k1
  exact absurd k2 this
theorem zrE(L:List za)(inn:List Bool)(s:Tx):(mk1 L inn s).length=inn.length:=by
 unfold mk1
 cases zpH L inn s <;> simp
theorem zmW(L:List za):∀(l:List Tx) (inn:List Bool),(mkS L inn l).length=inn.length
 | [],inn=>rfl
 |s ::r,inn=>by unfold mkS;rw [zmW L r,zrE]
theorem zAk{inn:List Bool}{n k:Nat}(h:n<inn.length):onB (inn.set n true) k=(onB inn k||Nat.beq k n):=by
 unfold onB
 rw [List.getD_eq_getElem?_getD,List.getD_eq_getElem?_getD,List.getElem?_set]
 by_cases e:n=k
 ·subst e
  simp [h]
 ·rw [if_neg e]
  have:Nat.beq k n=false:=by
   cases hb:Nat.beq k n with
   |false=>rfl
   |true=>exact absurd (Nat.eq_of_beq_eq_true hb).symm e
  rw [this,Bool.or_false]
theorem zB0{L:List za}{inn:List Bool}(hl:inn.length=L.length)(s:Tx)(k:Nat):onB (mk1 L inn s) k=(onB inn k||(zda L s&&Nat.beq k (atN L s).toNat)):=by
 unfold mk1 zpH
 cases h:zda L s with
 |false=>simp
 |true =>
  cases h2:onB inn (atN L s).toNat with
  |false =>
   simp only [Bool.not_false,Bool.and_self,cond_true,Bool.true_and]
   exact zAk (by rw [hl];exact (ztq h).2)
  |true =>
   simp only [Bool.not_true,Bool.and_false,cond_false,Bool.true_and]
   cases h3:Nat.beq k (atN L s).toNat with
   |false=>simp
   |true=>rw [Nat.eq_of_beq_eq_true h3,h2];rfl
theorem zuM{L:List za}:∀(l:List Tx) (inn:List Bool),inn.length=L.length→∀k,onB (mkS L inn l) k=(onB inn k||l.any (fun s=>zda L s&&Nat.beq k (atN L s).toNat))
 | [],inn,hl,k=>by simp [mkS]
 |s ::r,inn,hl,k=>by
  unfold mkS
  rw [zuM r _ (by rw [zrE];exact hl),zB0 hl,List.any_cons,Bool.or_assoc]
theorem zsD{L:List za}:∀(l:List Tx) (inn:List Bool),l.any (zpH L inn)=false→mkS L inn l=inn
 | [],inn,_=>rfl
 |s ::r,inn,h=>by
  rw [List.any_cons,Bool.or_eq_false_iff] at h
  unfold mkS
  have:mk1 L inn s=inn:=by unfold mk1;rw [h.1];rfl
  rw [this,zsD r inn h.2]
theorem zoa{R:Type}{L:List za}{l:List Tx}{body:List Bool×Bool×Int→Option (Sum (List Bool×Bool×Int) (Sum (List Bool×Bool) R))}(hl:l.length≤1000)
  (hb:∀(j:Nat) s inn more,inn.length=L.length→l[j]?=some s→body (inn,more,(j:Int))=some (.inl (mk1 L inn s,more||zpH L inn s,IntKind.i64.wrap ((j:Int)+1))))
  (he:∀inn more,body (inn,more,(l.length:Int))=some (.inr (.inl (inn,more)))):
  ∀(r pre:List Tx) (inn:List Bool) (more:Bool),l=pre++r→inn.length=L.length→zw body (inn,more,(pre.length:Int))=some (.inl (mkS L inn r,more||r.any (zpH L inn)))
 | [],pre,inn,more,e,hi=>by
  rw [List.append_nil] at e
  subst e
  rw [zN,he]
  show some _=some _
  simp [mkS]
 |s ::r,pre,inn,more,e,hi=>by
  have hlen:l.length=pre.length+(r.length+1):=by rw [e];simp
  have hx:l[pre.length]?=some s:=by rw [e];simp
  rw [zN,hb _ s inn more hi hx,zaz (by omega)]
  have ih:=fun i m h=>zoa hl hb he r (pre++[s]) i m (by rw [e];simp) h
  rw [show (pre++[s]).length=pre.length+1 by simp] at ih
  show zw body (mk1 L inn s,more||zpH L inn s,((pre.length+1:Nat):Int))=_
  rw [ih _ _ (by rw [zrE];exact hi),List.any_cons,show mkS L inn (s ::r)=mkS L (mk1 L inn s) r from rfl]
  cases h:zpH L inn s with
  |true=>simp
  |false =>
   have:mk1 L inn s=inn:=by unfold mk1;rw [h];rfl
   rw [this];simp
def ziQ(L:List za)(nx:za→List Tx)(act:Nat→Bool):List Bool→Nat→List za→List Bool
 |inn,_,[]=>inn
 |inn,k,c ::r=>ziQ L nx act (cond (onB inn k||act k) (mkS L inn (nx c)) inn) (k+1) r
def zmj(L:List za)(nx:za→List Tx)(act:Nat→Bool):List Bool→Nat→List za→Bool
 |_,_,[]=>false
 |inn,k,c ::r=>cond (onB inn k||act k) ((nx c).any (zpH L inn)) false||zmj L nx act (cond (onB inn k||act k) (mkS L inn (nx c)) inn) (k+1) r
section
variable {L : List za} {nx : za → List Tx} {act : Nat → Bool}
theorem zrI:∀(r:List za) (k:Nat) (inn:List Bool),(ziQ L nx act inn k r).length=inn.length
 | [],k,inn=>rfl
 |c ::r,k,inn=>by
  unfold ziQ
  rw [zrI r]
  cases onB inn k||act k
  ·rfl
  ·exact zmW L _ _
theorem zya{inn:List Bool}(hl:inn.length=L.length)(b:Bool)(l:List Tx)(n:Nat)(h:onB inn n=true):onB (cond b (mkS L inn l) inn) n=true:=by
 cases b with
 |false=>exact h
 |true=>show onB (mkS L inn l) n=true;rw [zuM l inn hl,h];rfl
theorem zpP:∀(r:List za) (k:Nat) (inn:List Bool),inn.length=L.length→∀n,onB inn n=true→onB (ziQ L nx act inn k r) n=true
 | [],k,inn,hl,n,h=>h
 |c ::r,k,inn,hl,n,h=>by
  unfold ziQ
  refine zpP r (k+1) _ ?_ n (zya hl _ _ n h)
  cases onB inn k||act k
  ·exact hl
  ·exact (zmW L _ _).trans hl
theorem zl9:∀(r:List za) (k:Nat) (inn:List Bool),zmj L nx act inn k r=false→ziQ L nx act inn k r=inn∧∀(j:Nat) c,r[j]?=some c→(onB inn (k+j)||act (k+j))=true→(nx c).any (zpH L inn)=false
 | [],k,inn,_=>⟨rfl,fun j c h=>by simp at h⟩
 |c ::r,k,inn,h=>by
  unfold zmj at h
  unfold ziQ
  rw [Bool.or_eq_false_iff] at h
  have e:cond (onB inn k||act k) (mkS L inn (nx c)) inn=inn:=by
   cases hb:onB inn k||act k with
   |false=>rfl
   |true=>rw [hb] at h;exact zsD _ _ h.1
  rw [e] at h ⊢
  obtain ⟨h1,h2⟩:=zl9 r (k+1) inn h.2
  refine ⟨h1,fun j d hj hb=>?_⟩
  cases j with
  |zero =>
   have:c=d:=by simpa using hj
   subst this
   rw [Nat.add_zero] at hb
   rw [hb] at h
   exact h.1
  |succ j=>exact h2 j d (by simpa using hj) (by rw [show k+1+j=k+(j+1) by omega];exact hb)
theorem zuV:∀(r:List za) (k:Nat) (inn:List Bool),inn.length=L.length→∀(j:Nat) c,r[j]?=some c→(onB inn (k+j)||act (k+j))=true→∀s∈nx c,zda L s=true→onB (ziQ L nx act inn k r) (atN L s).toNat=true
 | [],k,inn,hl,j,c,h,_=>by simp at h
 |d ::r,k,inn,hl,j,c,hj,hb=>by
  intro s hs hh
  unfold ziQ
  have hl2:(cond (onB inn k||act k) (mkS L inn (nx d)) inn).length=L.length:=by
   cases onB inn k||act k
   ·exact hl
   ·exact (zmW L _ _).trans hl
  cases j with
  |zero =>
   have:d=c:=by simpa using hj
   subst this
   rw [Nat.add_zero] at hb
   refine zpP r (k+1) _ hl2 _ ?_
   rw [hb]
   show onB (mkS L inn (nx d)) _=true
   rw [zuM _ _ hl,Bool.or_eq_true]
   right
   rw [List.any_eq_true]
   exact ⟨s,hs,by rw [hh,Bool.true_and];exact Nat.beq_refl _⟩
  |succ j =>
   refine zuV r (k+1) _ hl2 j c (by simpa using hj) ?_ s hs hh
   rw [show k+1+j=k+(j+1) by omega]
   rw [Bool.or_eq_true] at hb ⊢
   rcases hb with hb |hb
   ·exact .inl (zya hl _ _ _ hb)
   ·exact .inr hb
theorem zoe{Q:Nat→Prop}:∀(r:List za) (k:Nat) (inn:List Bool),inn.length=L.length→(∀(j:Nat) c,r[j]?=some c→(Q (k+j)∨act (k+j)=true)→∀s∈nx c,zda L s=true→Q (atN L s).toNat) →
  (∀n,onB inn n=true→Q n)→∀n,onB (ziQ L nx act inn k r) n=true→Q n
 | [],k,inn,hl,hQ,h=>h
 |c ::r,k,inn,hl,hQ,h=>by
  unfold ziQ
  refine zoe r (k+1) _ ?_ (fun j d hj hor=>?_) (fun n hn=>?_)
  ·cases onB inn k||act k
   ·exact hl
   ·exact (zmW L _ _).trans hl
  ·rw [show k+1+j=k+(j+1) by omega] at hor
   exact hQ (j+1) d (by simpa using hj) hor
  ·cases hb:onB inn k||act k with
   |false=>rw [hb] at hn;exact h n hn
   |true =>
    rw [hb] at hn
    have hn:onB (mkS L inn (nx c)) n=true:=hn
    rw [zuM _ _ hl,Bool.or_eq_true] at hn
    rcases hn with hn |hn
    ·exact h n hn
    ·rw [List.any_eq_true] at hn
     obtain ⟨s,hs,hs2⟩:=hn
     rw [Bool.and_eq_true] at hs2
     rw [Nat.eq_of_beq_eq_true hs2.2]
     refine hQ 0 c rfl ?_ s hs hs2.1
     rw [Nat.add_zero]
     rw [Bool.or_eq_true] at hb
     exact hb.imp (h k) id
def cnt(inn:List Bool):Nat:=inn.count true
theorem zwJ:∀(inn:List Bool) (n:Nat),n<inn.length→onB inn n=false→cnt (inn.set n true)=cnt inn+1
 | [],n,h,_=>by simp at h
 |b ::r,0,h,hb=>by
  have:b=false:=by simpa [onB] using hb
  subst this
  simp [cnt]
 |b ::r,n+1,h,hb=>by
  have:=zwJ r n (by simpa using h) (by simpa [onB] using hb)
  unfold cnt at this ⊢
  rw [List.set_cons_succ,List.count_cons,List.count_cons,this]
  omega
theorem zAM{inn:List Bool}(hl:inn.length=L.length)(s:Tx):cnt (mk1 L inn s)=cnt inn+cond (zpH L inn s) 1 0:=by
 unfold mk1
 cases h:zpH L inn s with
 |false=>rfl
 |true =>
  unfold zpH at h
  rw [Bool.and_eq_true,Bool.not_eq_true'] at h
  exact zwJ inn _ (by rw [hl];exact (ztq h.1).2) h.2
theorem zwI:∀(l:List Tx) (inn:List Bool),inn.length=L.length→cnt inn+cond (l.any (zpH L inn)) 1 0≤cnt (mkS L inn l)
 | [],inn,hl=>by simp [mkS]
 |s ::r,inn,hl=>by
  have ih:=zwI r (mk1 L inn s) (by rw [zrE];exact hl)
  have h1:=zAM hl s
  unfold mkS
  rw [List.any_cons]
  cases h:zpH L inn s with
  |true=>rw [h] at h1;simp only [cond_true] at h1;simp only [Bool.true_or,cond_true];omega
  |false =>
   have e:mk1 L inn s=inn:=by unfold mk1;rw [h];rfl
   rw [e] at ih ⊢
   simpa using ih
theorem zuq:∀(r:List za) (k:Nat) (inn:List Bool),inn.length=L.length→cnt inn+cond (zmj L nx act inn k r) 1 0≤cnt (ziQ L nx act inn k r)
 | [],k,inn,hl=>by simp [ziQ,zmj]
 |c ::r,k,inn,hl=>by
  unfold ziQ zmj
  have hl2:(cond (onB inn k||act k) (mkS L inn (nx c)) inn).length=L.length:=by
   cases onB inn k||act k
   ·exact hl
   ·exact (zmW L _ _).trans hl
  have ih:=zuq r (k+1) _ hl2
  have h1:cnt inn+cond (cond (onB inn k||act k) ((nx c).any (zpH L inn)) false) 1 0≤cnt (cond (onB inn k||act k) (mkS L inn (nx c)) inn):=by
   cases onB inn k||act k with
   |false=>simp
   |true=>exact zwI _ _ hl
  generalize cond (onB inn k||act k) ((nx c).any (zpH L inn)) false=x at *
  generalize zmj L nx act (cond (onB inn k||act k) (mkS L inn (nx c)) inn) (k+1) r=y at *
  cases x <;> cases y <;> simp only [Bool.or_false,Bool.or_true,cond_true,cond_false] at*<;> omega
theorem zBS(inn:List Bool):cnt inn≤inn.length:=List.count_le_length
theorem zpO{R X:Type}{st:List Bool→Bool→Int→X}{body:X→Option (Sum X (Sum (List Bool×Bool) R))}(hL:L.length≤1000)
  (hb:∀(k:Nat) c inn more,inn.length=L.length→L[k]?=some c→body (st inn more (k:Int))=some (.inl (cond (onB inn k||act k) (st (mkS L inn (nx c)) (more||(nx c).any (zpH L inn)) ((k+1:Nat):Int)) (st inn more ((k+1:Nat):Int)))))
  (he:∀inn more,body (st inn more (L.length:Int))=some (.inr (.inl (inn,more)))):
  ∀(r pre:List za) (inn:List Bool) (more:Bool),L=pre++r→inn.length=L.length→zw body (st inn more (pre.length:Int))=some (.inl (ziQ L nx act inn pre.length r,more||zmj L nx act inn pre.length r))
 | [],pre,inn,more,e,hi=>by
  rw [List.append_nil] at e
  subst e
  rw [zN,he]
  show some _=some _
  simp [ziQ,zmj]
 |c ::r,pre,inn,more,e,hi=>by
  have hx:L[pre.length]?=some c:=by rw [e];simp
  rw [zN,hb _ c inn more hi hx]
  have ih:=fun i m h=>zpO hL hb he r (pre++[c]) i m (by rw [e];simp) h
  rw [show (pre++[c]).length=pre.length+1 by simp] at ih
  unfold ziQ zmj
  cases onB inn pre.length||act pre.length with
  |false =>
   show zw body (st inn more ((pre.length+1:Nat):Int))=_
   rw [ih _ _ hi]
   simp
  |true =>
   show zw body (st (mkS L inn (nx c)) _ ((pre.length+1:Nat):Int))=_
   rw [ih _ _ (by rw [zmW];exact hi),Bool.or_assoc]
   rfl
def zCE(L:List za)(nx:za→List Tx)(act:Nat→Bool)(R:List Bool):Prop:=
 ∀(k:Nat) c,L[k]?=some c→(onB R k||act k)=true→∀s∈nx c,zda L s=true→onB R (atN L s).toNat=true
theorem zBu{inn:List Bool}(h:zmj L nx act inn 0 L=false):zCE L nx act inn:=fun k c hk hb s hs hh=>by
 have:=(zl9 L 0 inn h).2 k c hk (by rw [Nat.zero_add];exact hb)
 rw [List.any_eq_false] at this
 have:=this s hs
 unfold zpH at this
 rw [hh,Bool.true_and,Bool.not_eq_true',Bool.not_eq_false] at this
 exact this
theorem zod{R X:Type}{st:List Bool→Bool→X}{body:X→Option (Sum X (Sum (List Bool) R))}{Q:Nat→Prop}
  (hb:∀inn,inn.length=L.length→body (st inn true)=some (.inl (st (ziQ L nx act inn 0 L) (zmj L nx act inn 0 L))))
  (he:∀inn,inn.length=L.length→body (st inn false)=some (.inr (.inl inn)))
  (hQ:∀(j:Nat) c,L[j]?=some c→(Q j∨act j=true)→∀s∈nx c,zda L s=true→Q (atN L s).toNat):
  ∀(d:Nat) (inn:List Bool),inn.length=L.length→L.length≤d+cnt inn→(∀n,onB inn n=true→Q n) →
  ∃F,zw body (st inn true)=some (.inl F)∧F.length=L.length∧zCE L nx act F∧(∀n,onB inn n=true→onB F n=true)∧(∀n,onB F n=true→Q n)
 |d,inn,hl,hd,hq=>by
  have hl2:(ziQ L nx act inn 0 L).length=L.length:=(zrI L 0 inn).trans hl
  rw [zN,hb inn hl]
  cases hg:zmj L nx act inn 0 L with
  |false =>
   have e:=(zl9 L 0 inn hg).1
   refine ⟨inn,?_,hl,zBu hg,fun n h=>h,hq⟩
   show zw body (st _ false)=_
   rw [zN,he _ hl2,e];rfl
  |true =>
   have hc:=zuq (nx:=nx) (act:=act) L 0 inn hl
   rw [hg] at hc
   simp only [cond_true] at hc
   have hle:=zBS (ziQ L nx act inn 0 L)
   have hq2:∀n,onB (ziQ L nx act inn 0 L) n=true→Q n:=zoe L 0 inn hl (fun j c hj hor=>by rw [Nat.zero_add] at hor;exact hQ j c hj hor) hq
   cases d with
   |zero=>omega
   |succ d =>
    obtain ⟨F,k1,k2,k3,k4,k5⟩:=zod hb he hQ d _ hl2 (by omega) hq2
    exact ⟨F,k1,k2,k3,fun n h=>k4 n (zpP L 0 inn hl n h),k5⟩
end
def mis(L:List za)(c:za):Bool:=(c.Super ::c.Impl).any (fun s=>!zda L s)
def zxo(l:List za):Option (List za)×Int:=
 cond (decide (16<(l.length:Int))) (none,3) (match lay giv l with
  |none=>(none,1)
  |some L=>cond (l.any (mis L)) (none,4) (cond (l.any (ztg L)) (none,1) (some L,0)))
theorem ztC{l L:List za}(h:lay giv l=some L)(hm:l.any (mis L)=false):zyK L∧∀c∈l,c.Super≠[]:=by
 obtain ⟨h1,h2,h3⟩:=zqN l giv L zqK h
 have hO:=zrs h
 have noE:zda L []=false:=by
  cases hh:zda L [] with
  |false=>rfl
  |true =>
   obtain ⟨c,hc⟩:=zgC hh
   exact absurd (zcX hc).2 (hO c (zcX hc).1).name
 have hl:∀c∈l,∀s∈c.Super ::c.Impl,zda L s=true:=fun c hc s hs=>by
  have:=List.any_eq_false.1 hm c hc
  unfold mis at this
  rw [Bool.not_eq_true,List.any_eq_false] at this
  simpa using this s hs
 refine ⟨⟨h2,noE,fun c hc s hs hne=>?_,fun c hc hm=>(hO c hc).implE [] hm rfl⟩,fun c hc e=>?_⟩
 ·rw [h1] at hc
  rcases List.mem_append.1 hc with e |e
  ·have hg:giv.all (fun c=>(c.Super ::c.Impl).all (fun s=>s == []||zda giv s))=true:=by decide +kernel
   have:=List.all_eq_true.1 (List.all_eq_true.1 hg c e) s hs
   rw [Bool.or_eq_true,beq_iff_eq] at this
   rcases this with e |e
   ·exact absurd e hne
   ·rw [ziC] at e ⊢
    rw [h1,List.map_append]
    exact List.mem_append_left _ e
  ·exact hl c e s hs
 ·have:=hl c hc c.Super (by simp)
  rw [e,noE] at this;cases this
theorem zB2{l L:List za}{m:List (Tx×Int)}(hl:l.length≤16)(hm:zdz L m)(hO:∀c∈l,c.Impl.length≤4):
  zw (fun z=>zfW l L m z) 0=some (zpr () (cond (l.any (mis L)) (some (none,4)) none)):=by
 rw [←zdB]
 refine zeR (fun i c hc=>?_) ?_
 ·show zfW l L m (i:Int)=_
  have:=hO c (List.mem_of_getElem? hc)
  have hi:=(List.getElem?_eq_some_iff.1 hc).1
  unfold zfW
  rw [zgm hc,zD,hc]
  simp only [cond_true,Option.bind_some]
  rw [zkw this]
  simp only [Option.bind_some]
  rw [zwK hm (by simp;omega),zaz (by omega)]
  simp only [Option.bind_some]
  show _=some (zul i (cond (mis L c) _ _))
  unfold mis
  cases ((c.Super ::c.Impl).any fun s=>!zda L s) <;> rfl
 ·show zfW l L m (l.length:Int)=_
  unfold zfW
  rw [zg2];rfl
theorem zB3{l L:List za}{m:List (Tx×Int)}(hl:l.length≤16)(hf:∀c∈l,zfA L m c=some (!ztg L c)):
  zw (fun z=>zfX l L m z) 0=some (zpr () (cond (l.any (ztg L)) (some (none,1)) none)):=by
 rw [←zdB]
 refine zeR (fun i c hc=>?_) ?_
 ·show zfX l L m (i:Int)=_
  have hi:=(List.getElem?_eq_some_iff.1 hc).1
  unfold zfX
  rw [zgm hc,zD,hc]
  simp only [cond_true,Option.bind_some]
  rw [hf c (List.mem_of_getElem? hc),zaz (by omega)]
  simp only [Option.bind_some]
  cases ztg L c <;> rfl
 ·show zfX l L m (l.length:Int)=_
  unfold zfX
  rw [zg2];rfl
theorem zty{l:List za}(hc:∀c∈l,zzV c):∃m,(∀L,(zxo l).1=some L→zdz L m)∧zkr l=some ((zxo l).1.map (fun L=>zad.mk L m),(zxo l).2):=by
 unfold zkr zxo
 cases hl:decide (16<(l.length:Int)) with
 |true=>exact ⟨[],fun L h=>(by cases h),rfl⟩
 |false =>
  have hl:=of_decide_eq_false hl
  rw [zrj]
  simp only [cond_false,Option.bind_some]
  rw [zA0]
  simp only [Option.bind_some,zU]
  have hl16:l.length≤16:=by omega
  obtain ⟨h1,h2⟩:=zuH hl16 hc l [] giv _ rfl zw5 rfl
  unfold zks
  cases hy:lay giv l with
  |none =>
   rw [show zw (fun z=>zdo l z.1 z.2.1 z.2.2) (giv,zsE 0 [] giv,0)=_ from h1 hy]
   exact ⟨[],fun L h=>(by cases h),rfl⟩
  |some L =>
   obtain ⟨m,hm,e⟩:=h2 L hy
   rw [show zw (fun z=>zdo l z.1 z.2.1 z.2.2) (giv,zsE 0 [] giv,0)=_ from e]
   obtain ⟨k1,k2,k3⟩:=zqN l giv L zqK hy
   have hO:=zrs hy
   have hlL:∀c∈l,c∈L:=fun c hc=>by rw [k1];exact List.mem_append_right _ hc
   have hlen:L.length≤100:=by rw [k1,List.length_append];have:giv.length=10:=rfl;omega
   simp only [Option.bind_some,zU]
   unfold zkt
   rw [zB2 hl16 hm (fun c hc=>(hO c (hlL c hc)).impl)]
   cases hmis:l.any (mis L) with
   |true=>exact ⟨[],fun L h=>(by cases h),rfl⟩
   |false =>
    obtain ⟨hL,hS⟩:=ztC hy hmis
    simp only [cond_false,Option.bind_some,zU,zpr]
    unfold zku
    rw [zB3 hl16 (fun c hc=>zAW hm hL hO hlen (hlL c hc) (hS c hc))]
    cases hb:l.any (ztg L) with
    |true=>exact ⟨[],fun L h=>(by cases h),rfl⟩
    |false=>exact ⟨m,fun L' h=>(by cases h;exact hm),rfl⟩
theorem zjN{L:List za}(hl:L.length≤1000)(n:Tx):zaD L n=some (atN L n):=by
 unfold zaD
 rw [show ((zw (fun z=>zeW L n z) 0).bind fun o=>zU o (fun b=>zhP) some)=_ from zcw (l:=L) (p:=fun c:za=>c.Name == n) (by omega)
  (fun i x hx=>by unfold zeW;rw [zgm hx,zD,hx];rfl) (by unfold zeW;rw [zg2];rfl)]
 rfl
theorem zxf{l:List za}(hl:l.length≤16)(hc:∀c∈l,zzV c):∀(r pre L:List za),l=pre++r→L.length=10+pre.length →
  zw (fun z=>zeg l z.1 z.2) (L,(pre.length:Int))=some (match lay L r with |none=>.inr (none,1) |some L'=>.inl L')
 | [],pre,L,e,hL=>by
  rw [List.append_nil] at e
  subst e
  rw [zN]
  show (zeg l L (l.length:Int)).bind _=_
  unfold zeg
  rw [zg2];rfl
 |c ::r,pre,L,e,hL=>by
  have hlen:l.length=pre.length+(r.length+1):=by rw [e];simp
  have hx:l[pre.length]?=some c:=by rw [e];simp
  have hcm:c∈l:=List.mem_of_getElem? hx
  have step:zw (fun z=>zeg l z.1 z.2) (L,(pre.length:Int))=(cond (zda L c.Name||!zqQ c) (some (.inr (.inr (none,1)))) (some (.inl (L++[c],((pre.length+1:Nat):Int))))).bind (Sum.elim (zw (fun z=>zeg l z.1 z.2)) some):=by
   rw [zN]
   show (zeg l L (pre.length:Int)).bind _=_
   congr 1
   unfold zeg
   rw [zgm hx,zD,hx]
   simp only [cond_true,Option.bind_some]
   rw [zoU (hc c hcm),zjN (by omega),zC4 (by omega) (by omega),zaz (by omega)]
   simp only [Option.bind_some]
   rw [zpe]
   cases zda L c.Name <;> cases zqQ c <;> rfl
  rw [step]
  unfold lay
  cases h1:(zda L c.Name||!zqQ c) with
  |true=>rfl
  |false =>
   have:=zxf hl hc r (pre++[c]) (L++[c]) (by rw [e];simp) (by simp;omega)
   rw [show (pre++[c]).length=pre.length+1 by simp] at this
   exact this
theorem zCi{L:List za}(hL:L.length≤100){c:za}(hi:c.Impl.length≤4):zw (fun z=>zf7 L c z) 0=some (zpr () (cond (c.Impl.any (fun s=>!zda L s)) (some (none,4)) none)):=by
 rw [←zdB]
 refine zeR (fun i s hs=>?_) ?_
 ·show zf7 L c (i:Int)=_
  have hi:=(List.getElem?_eq_some_iff.1 hs).1
  unfold zf7
  rw [zgm hs,zD,hs]
  simp only [cond_true,Option.bind_some]
  rw [zjN (by omega),zaz (by omega)]
  simp only [Option.bind_some]
  rw [zot]
  cases zda L s <;> rfl
 ·show zf7 L c (c.Impl.length:Int)=_
  unfold zf7
  rw [zg2];rfl
theorem zCj{L:List za}(hL:L.length≤100)(h1:1≤L.length)(hO:∀c∈L,Okc c):zw (fun z=>zf8 L z) 1=some (zpr () (cond ((L.drop 1).any (mis L)) (some (none,4)) none)):=by
 rw [←zdB]
 refine zlz (k:=1) (fun i c _ hc=>?_) ?_ h1
 ·show zf8 L (i:Int)=_
  have hi:=(List.getElem?_eq_some_iff.1 hc).1
  unfold zf8
  rw [zgm hc,zD,hc]
  simp only [cond_true,Option.bind_some]
  rw [zjN (by omega)]
  simp only [Option.bind_some]
  rw [zot,zCi hL (hO c (List.mem_of_getElem? hc)).impl]
  unfold zkN
  rw [zaz (by omega)]
  show _=some (zul i (cond (mis L c) _ _))
  unfold mis
  rw [List.any_cons]
  cases zda L c.Super <;> cases (c.Impl.any fun s=>!zda L s) <;> rfl
 ·show zf8 L (L.length:Int)=_
  unfold zf8
  rw [zg2];rfl
theorem ztk{L:List za}{l:List Tx}(hL:L.length≤100)(hl:l.length≤100){inn:List Bool}(hi:inn.length=L.length)(more:Bool):
  zw (fun z=>zcf L l z.1 z.2.1 z.2.2) (inn,more,0)=some (.inl (mkS L inn l,more||l.any (zpH L inn))):=by
 refine zoa (l:=l) (by omega) (fun j s inn more hi hs=>?_) (fun inn more=>?_) l [] inn more rfl hi
 ·show zcf L l inn more (j:Int)=_
  unfold zcf zdu
  rw [zgm hs,zD,hs]
  simp only [cond_true,Option.bind_some]
  rw [zjN (by omega)]
  simp only [Option.bind_some]
  rw [zpe]
  unfold mk1 zpH
  cases hh:zda L s with
  |false=>simp
  |true =>
   obtain ⟨g1,g2⟩:=ztq hh
   have e:idx inn (atN L s)=some (onB inn (atN L s).toNat):=by
    unfold idx onB
    rw [if_pos g1,List.getD_eq_getElem?_getD,List.getElem?_eq_getElem (by omega)];rfl
   rw [e]
   simp only [cond_true,Option.bind_some,Bool.true_and]
   cases onB inn (atN L s).toNat <;> simp
 ·show zcf L l inn more (l.length:Int)=_
  unfold zcf
  rw [zg2];rfl
theorem zuR{inn:List Bool}{k:Nat}(h:k<inn.length):idx inn (k:Int)=some (onB inn k):=by
 rw [zD,List.getElem?_eq_getElem h]
 unfold onB
 rw [List.getD_eq_getElem?_getD,List.getElem?_eq_getElem h];rfl
abbrev abv(c:za):List Tx:=c.Super ::c.Impl
theorem zqA{L:List za}(hL:L.length≤100)(hO:∀c∈L,Okc c)(v:Nat)(first:Bool){inn:List Bool}(hi:inn.length=L.length)(more:Bool):
  zw (fun z=>zbC L (v:Int) first z.1 z.2.1 z.2.2) (inn,more,0)=some (.inl (ziQ L abv (fun k=>first&&Nat.beq k v) inn 0 L,more||zmj L abv (fun k=>first&&Nat.beq k v) inn 0 L)):=by
 refine zpO (st:=fun a b c=>(a,b,c)) (nx:=abv) (act:=fun k=>first&&Nat.beq k v) (by omega) (fun k c inn more hi hc=>?_) (fun inn more=>?_) L [] inn more rfl hi
 ·show zbC L (v:Int) first inn more (k:Int)=_
  have hk:=(List.getElem?_eq_some_iff.1 hc).1
  have h4:=(hO c (List.mem_of_getElem? hc)).impl
  unfold zbC
  rw [zgm hc,zuR (by omega),zD,hc]
  simp only [cond_true,Option.bind_some]
  rw [zud h4]
  simp only [Option.bind_some]
  rw [ztk hL (by simp;omega) hi]
  unfold zfj zdv
  rw [zaz (by omega)]
  have e:((k:Int) == (v:Int))=Nat.beq k v:=by
   rw [Bool.eq_iff_iff,beq_iff_eq,Nat.beq_eq];omega
  rw [e]
  cases onB inn k <;> cases first <;> cases Nat.beq k v <;> rfl
 ·show zbC L (v:Int) first inn more (L.length:Int)=_
  unfold zbC
  rw [zg2];rfl
theorem zwl{L:List za}(hL:L.length≤100)(hO:∀c∈L,Okc c)(h:zyK L){v:Nat}{c0:za}(hv:L[v]?=some c0):zf6 L (v:Int)=some (cyc L c0.Name):=by
 have hvl:=(List.getElem?_eq_some_iff.1 hv).1
 let Q:Nat→Prop:=fun n=>∃c,L[n]?=some c∧Rc (nxA L) c0.Name c.Name
 have hnx:∀{c:za},c∈L→∀s∈abv c,zda L s=true→s∈nxA L c.Name:=fun {c} hc s hs hh=>by
  rw [zpI (h.nd.cl hc)]
  refine List.mem_filter.2 ⟨hs,?_⟩
  have:s≠[]:=fun e=>by rw [e,h.noE] at hh;cases hh
  simpa using this
 have hat:∀{s:Tx},zda L s=true→∃d,L[(atN L s).toNat]?=some d∧d.Name=s:=fun {s} hh=>by
  obtain ⟨d,hd⟩:=zgC hh
  have e:=znk L s
  rw [hd] at e
  obtain ⟨g1,g2⟩:=ztq hh
  refine ⟨d,?_,(zcX hd).2⟩
  unfold idx at e
  rw [if_pos g1] at e
  exact e
 have hQ:∀(a:Nat→Bool),(∀k,a k=true→k=v)→∀(j:Nat) c,L[j]?=some c→(Q j∨a j=true)→∀s∈abv c,zda L s=true→Q (atN L s).toNat:=fun a ha j c hj hor s hs hh=>by
  obtain ⟨d,hd,hd2⟩:=hat hh
  have hsx:=hnx (List.mem_of_getElem? hj) s hs hh
  refine ⟨d,hd,?_⟩
  rw [hd2]
  rcases hor with ⟨c',hc',hr⟩ |hj2
  ·rw [hj] at hc';cases hc'
   exact hr.snoc hsx
  ·have:=ha j hj2
   subst this
   rw [hj] at hv;cases hv
   exact .one hsx
 have body2:∀inn more first,zbD L (v:Int) inn more first=cond more ((zw (fun z=>zbC L (v:Int) first z.1 z.2.1 z.2.2) (inn,false,0)).bind fun o=>zU o (fun b=>zfk b.1 b.2) (fun r=>some (.inr (.inr r)))) (some (.inr (.inl inn))):=fun _ _ _=>rfl
 have hrep:(List.replicate L.length false).length=L.length:=by simp
 have hoff:∀n,onB (List.replicate L.length false) n=false:=fun n=>by
  unfold onB
  rw [List.getD_eq_getElem?_getD,List.getElem?_replicate]
  split <;> rfl
 have hF:∃F,zw (fun z=>zbD L (v:Int) z.1 z.2.1 z.2.2) (List.replicate L.length false,true,true)=some (.inl F)∧F.length=L.length∧zCE L abv (fun _=>false) F∧(∀s∈abv c0,zda L s=true→onB F (atN L s).toNat=true)∧(∀n,onB F n=true→Q n):=by
  let inn1:=ziQ L abv (fun k=>true&&Nat.beq k v) (List.replicate L.length false) 0 L
  have hl1:inn1.length=L.length:=(zrI L 0 _).trans hrep
  have hq1:∀n,onB inn1 n=true→Q n:=zoe L 0 _ hrep (fun j c hj hor=>by
   rw [Nat.zero_add] at hor
   exact hQ (fun k=>true&&Nat.beq k v) (fun k hk=>by simpa using hk) j c hj hor) (fun n hn=>by rw [hoff] at hn;cases hn)
  have ha1:∀s∈abv c0,zda L s=true→onB inn1 (atN L s).toNat=true:=zuV L 0 _ hrep v c0 hv (by simp)
  rw [zN]
  show ∃F,(zbD L (v:Int) (List.replicate L.length false) true true).bind _=_∧_
  rw [body2,zqA hL hO v true hrep false]
  cases hg:zmj L abv (fun k=>true&&Nat.beq k v) (List.replicate L.length false) 0 L with
  |false =>
   refine ⟨inn1,?_,hl1,?_,ha1,hq1⟩
   ·show zw (fun z=>zbD L (v:Int) z.1 z.2.1 z.2.2) (inn1,false,false)=_
    rw [zN]
    rfl
   ·have e:inn1=List.replicate L.length false:=(zl9 L 0 _ hg).1
    rw [e]
    intro k c hk hb
    rw [hoff] at hb
    cases hb
  |true =>
   obtain ⟨F,k1,k2,k3,k4,k5⟩:=zod (L:=L) (nx:=abv) (act:=fun k=>false&&Nat.beq k v) (R:=Bool) (st:=fun a b=>(a,b,false)) (body:=fun z=>zbD L (v:Int) z.1 z.2.1 z.2.2) (Q:=Q)
    (fun inn hi=>by
     show zbD L (v:Int) inn true false=_
     rw [body2,zqA hL hO v false hi false]
     rfl) (fun inn hi=>rfl) (hQ _ (fun k hk=>by simp at hk)) L.length inn1 hl1 (by omega) hq1
   refine ⟨F,k1,k2,fun k c hk hb=>k3 k c hk (by simpa using hb),fun s hs hh=>k4 _ (ha1 s hs hh),k5⟩
 obtain ⟨F,f1,f2,f3,f4,f5⟩:=hF
 unfold zf6
 rw [show mkP 1 (L.length:Int)=some L.length by unfold mkP;rw [if_pos (by omega),Int.toNat_natCast]]
 simp only [Option.bind_some]
 rw [f1]
 show (idx F (v:Int)).bind _=_
 rw [zuR (by omega)]
 show some (onB F v)=_
 congr 1
 rw [Bool.eq_iff_iff,zre]
 constructor
 ·intro hb
  obtain ⟨c,hc,hr⟩:=f5 v hb
  rw [hv] at hc;cases hc
  exact hr
 ·intro hr
  have key:∀x,Rc (nxA L) c0.Name x→onB F (atN L x).toNat=true:=fun x hx=>by
   refine hx.into (F:=fun y=>onB F (atN L y).toNat=true∧zda L y=true) (fun y hy z hz=>?_) (fun y hy=>?_) |>.1
   ·have hz2:zda L z=true:=ziC.2 (h.nxA_in y z hz)
    obtain ⟨d,hd,hd2⟩:=hat hy.2
    refine ⟨f3 _ d hd (by rw [hy.1];rfl) z ?_ hz2,hz2⟩
    rw [←hd2,zpI (h.nd.cl (List.mem_of_getElem? hd))] at hz
    exact (List.mem_filter.1 hz).1
   ·have hy2:zda L y=true:=ziC.2 (h.nxA_in _ y hy)
    refine ⟨f4 y ?_ hy2,hy2⟩
    rw [zpI (h.nd.cl (List.mem_of_getElem? hv))] at hy
    exact (List.mem_filter.1 hy).1
  have:=key _ hr
  rw [h.nd.at hv,Int.toNat_natCast] at this
  exact this
theorem zwF{L l:List za}(h:L=giv++l){n:Tx}{c:za}(hc:cl giv n=some c):cl L n=some c:=by
 rw [h]
 unfold cl at hc ⊢
 rw [List.find?_append,hc];rfl
theorem zBR{L l:List za}(h:L=giv++l){n:Tx}(hn:zda giv n=true):cl L n=cl giv n:=by
 obtain ⟨c,hc⟩:=zgC hn
 rw [hc,zwF h hc]
theorem zA6{L l:List za}(h:L=giv++l){n:Tx}(hn:zda giv n=true):zda L n=true:=by
 obtain ⟨c,hc⟩:=zgC hn
 exact zhq (zwF h hc)
theorem zy5:giv.all (fun c=>(nxA giv c.Name).all (fun s=>decide (atN giv s<atN giv c.Name)&&zda giv s))=true:=by decide +kernel
theorem zBV{L l:List za}(h:L=giv++l){a b:Tx}(hr:Rc (nxA L) a b):zda giv a=true→atN giv b<atN giv a∧zda giv b=true:=by
 have one:∀{a b:Tx},b∈nxA L a→zda giv a=true→atN giv b<atN giv a∧zda giv b=true:=fun {a b} hb ha=>by
  have e:nxA L a=nxA giv a:=by unfold nxA;rw [zBR h ha]
  rw [e] at hb
  obtain ⟨c,hc⟩:=zgC ha
  have h1:=List.all_eq_true.1 zy5 c (zcX hc).1
  rw [(zcX hc).2] at h1
  have h2:=List.all_eq_true.1 h1 b hb
  rw [Bool.and_eq_true,decide_eq_true_eq] at h2
  exact h2
 induction hr with
 |one hb=>exact one hb
 |more hb _ ih =>
  intro ha
  have h1:=one hb ha
  have h2:=ih h1.2
  exact ⟨by omega,h2.2⟩
theorem zAY{L l:List za}(h:L=giv++l){c:za}(hc:c∈giv):cyc L c.Name=false:=by
 cases hh:cyc L c.Name with
 |false=>rfl
 |true =>
  have:=(zBV h (zre.1 hh) (zhq (zqK.cl hc))).1
  omega
theorem zw4:giv.all (fun c=>(c.Impl == [])&&!c.Interface&&(c.Super == []||zda giv c.Super))=true:=by decide +kernel
theorem zso:(giv.drop 1).all (fun c=>!(c.Super == []))=true:=by decide +kernel
theorem zAX{c:za}(hc:c∈giv):c.Impl=[]∧c.Interface=false∧(c.Super=[]∨zda giv c.Super=true):=by
 have:=List.all_eq_true.1 zw4 c hc
 simp only [Bool.and_eq_true,beq_iff_eq,Bool.not_eq_true',Bool.or_eq_true] at this
 exact ⟨this.1.1,this.1.2,this.2⟩
theorem zAZ{L l:List za}(h:L=giv++l){n:Tx}(hn:zda giv n=true):isF L n=false:=by
 obtain ⟨c,hc⟩:=zgC hn
 unfold isF
 rw [zwF h hc]
 exact (zAX (zcX hc).1).2.1
theorem zw2{L l:List za}(h:L=giv++l)(hE:zda L []=false){c:za}(hc:c∈giv):ztg L c=false:=by
 obtain ⟨h1,h2,h3⟩:=zAX hc
 unfold ztg
 rw [zAY h hc,h1]
 rcases h3 with e |e
 ·rw [e]
  have:isF L []=false:=by
   unfold isF
   cases hcl:cl L [] with
   |none=>rfl
   |some d=>rw [zhq hcl] at hE;cases hE
  rw [this];rfl
 ·rw [zAZ h e];rfl
theorem zA1{L l:List za}(h:L=giv++l){c:za}(hc:c∈giv.drop 1):mis L c=false:=by
 obtain ⟨h1,h2,h3⟩:=zAX (List.mem_of_mem_drop hc)
 have hs:=List.all_eq_true.1 zso c hc
 unfold mis
 rw [h1,List.any_cons,List.any_nil,Bool.or_false]
 rcases h3 with e |e
 ·rw [e] at hs;cases hs
 ·rw [zA6 h e];rfl
theorem zus{L l:List za}(h:L=giv++l){p:za→Bool}(hp:∀c∈giv.drop 1,p c=false):(L.drop 1).any p=l.any p:=by
 have e:L.drop 1=giv.drop 1++l:=by rw [h];rfl
 rw [e,List.any_append,List.any_eq_false.2 (fun c hc=>by rw [hp c hc];exact Bool.false_ne_true),Bool.false_or]
theorem zmL{L:List za}{n:Tx}{c:za}(h:cl L n=some c):idx L (atN L n)=some c:=by rw [znk,h]
theorem zxR{L:List za}(hL:L.length≤100){c:za}(hi:c.Impl.length≤4)(hh:∀s∈c.Impl,zda L s=true)(b:Bool):
  zw (fun z=>zdI L c z.1 z.2) (b,0)=some (.inl (b||c.Impl.any (fun s=>!isF L s))):=by
 have key:∀(r pre:List Tx) (b:Bool),c.Impl=pre++r→zw (fun z=>zdI L c z.1 z.2) (b,(pre.length:Int))=some (.inl (b||r.any (fun s=>!isF L s))):=by
  intro r
  induction r with
  |nil =>
   intro pre b e
   rw [List.append_nil] at e
   rw [zN]
   show (zdI L c b (pre.length:Int)).bind _=_
   unfold zdI
   rw [←e,zg2]
   simp
  |cons s r ih =>
   intro pre b e
   have hlen:c.Impl.length=pre.length+(r.length+1):=by rw [e];simp
   have hx:c.Impl[pre.length]?=some s:=by rw [e];simp
   obtain ⟨d,hd⟩:=zgC (hh s (List.mem_of_getElem? hx))
   have step:zdI L c b (pre.length:Int)=some (.inl (b||!isF L s,((pre.length+1:Nat):Int))):=by
    unfold zdI
    rw [zgm hx,zD,hx]
    simp only [cond_true,Option.bind_some]
    rw [zjN (by omega)]
    simp only [Option.bind_some]
    rw [zmL hd,zaz (by omega)]
    unfold isF
    rw [hd]
    cases b <;> rfl
   rw [zN]
   show (zdI L c b (pre.length:Int)).bind _=_
   rw [step]
   show zw (fun z=>zdI L c z.1 z.2) (b||!isF L s,((pre.length+1:Nat):Int))=_
   have:=ih (pre++[s]) (b||!isF L s) (by rw [e];simp)
   rw [show (pre++[s]).length=pre.length+1 by simp] at this
   rw [this,List.any_cons,Bool.or_assoc]
 exact key c.Impl [] b rfl
theorem zBr{L:List za}(hL:L.length≤100)(h1:1≤L.length)(hO:∀c∈L,Okc c)(h:zyK L)(hS:∀c∈L.drop 1,c.Super≠[]):
  zw (fun z=>ze9 L z) 1=some (zpr () (cond ((L.drop 1).any (ztg L)) (some (none,1)) none)):=by
 rw [←zdB]
 refine zlz (k:=1) (fun i c hk hc=>?_) ?_ h1
 ·show ze9 L (i:Int)=_
  have hcm:=List.mem_of_getElem? hc
  have hi:=(List.getElem?_eq_some_iff.1 hc).1
  have hcd:c∈L.drop 1:=List.mem_of_getElem? (i:=i-1) (by rw [List.getElem?_drop,show 1+(i-1)=i by omega,hc])
  obtain ⟨x,hx⟩:=zgC (h.closed c hcm c.Super (by simp) (hS c hcd))
  have himp:∀s∈c.Impl,zda L s=true:=fun s hs=>h.closed c hcm s (by simp [hs]) ((hO c hcm).implE s hs)
  unfold ze9
  rw [zgm hc,zD,hc]
  simp only [cond_true,Option.bind_some]
  rw [zjN (by omega)]
  simp only [Option.bind_some]
  rw [zmL hx]
  simp only [Option.bind_some]
  rw [zwl hL hO h hc]
  simp only [Option.bind_some]
  unfold zhv
  rw [zxR hL (hO c hcm).impl himp,zxR hL (hO c hcm).impl himp]
  simp only [Option.bind_some,zU]
  unfold zjz
  rw [zaz (by omega)]
  show _=some (zul i (cond (ztg L c) _ _))
  unfold ztg
  rw [show isF L c.Super=x.Interface by unfold isF;rw [hx]]
  cases x.Interface <;> cases (c.Impl.any fun s=>!isF L s) <;> cases cyc L c.Name <;> rfl
 ·show ze9 L (L.length:Int)=_
  unfold ze9
  rw [zg2];rfl
theorem zvv{L l:List za}(h:L=giv++l)(hS:∀c∈l,c.Super≠[]):∀c∈L.drop 1,c.Super≠[]:=by
 have e:L.drop 1=giv.drop 1++l:=by rw [h];rfl
 intro c hc
 rw [e] at hc
 rcases List.mem_append.1 hc with e |e
 ·have:=List.all_eq_true.1 zso c e
  intro e2
  rw [e2] at this;cases this
 ·exact hS c e
theorem ztY{l:List za}(hc:∀c∈l,zzV c):znI l=some ((zxo l).1.map zR.mk,(zxo l).2):=by
 unfold znI zxo
 cases hl:decide (16<(l.length:Int)) with
 |true=>rfl
 |false =>
  have hl:=of_decide_eq_false hl
  rw [zrP]
  simp only [cond_false,Option.bind_some]
  have hl16:l.length≤16:=by omega
  rw [show zw (fun z=>zeg l z.1 z.2) (giv,0)=_ from zxf hl16 hc l [] giv rfl rfl]
  cases hy:lay giv l with
  |none=>rfl
  |some L =>
   obtain ⟨k1,k2,k3⟩:=zqN l giv L zqK hy
   have hO:=zrs hy
   have hlen:L.length≤100:=by rw [k1,List.length_append];have:giv.length=10:=rfl;omega
   have hpos:1≤L.length:=by rw [k1,List.length_append];have:giv.length=10:=rfl;omega
   simp only [Option.bind_some,zU]
   unfold zkM
   rw [zCj hlen hpos hO,zus k1 (fun c hc=>zA1 k1 hc)]
   cases hmis:l.any (mis L) with
   |true=>rfl
   |false =>
    obtain ⟨hL,hS⟩:=ztC hy hmis
    simp only [cond_false,Option.bind_some,zU,zpr]
    unfold zkO
    rw [zBr hlen hpos hO hL (zvv k1 hS),zus k1 (fun c hc=>zw2 k1 hL.noE (List.mem_of_mem_drop hc))]
    cases hb:l.any (ztg L) with
    |true=>rfl
    |false=>rfl
structure ze0(l L:List za):Prop extends Wf L where
 app:L=giv++l
 few:l.length≤16
 okc:∀c∈L,Okc c
 may:∀c∈l,zqQ c=true
theorem ze0.len{l L:List za}(h:ze0 l L):L.length≤26:=by
 rw [h.app,List.length_append];have:giv.length=10:=rfl;have:=h.few;omega
theorem zxp{l L:List za}(h:(zxo l).1=some L):ze0 l L∧(zxo l).2=0:=by
 unfold zxo at h ⊢
 cases hl:decide (16<(l.length:Int)) with
 |true=>rw [hl] at h;cases h
 |false =>
  rw [hl] at h
  have hl:=of_decide_eq_false hl
  simp only [cond_false] at h ⊢
  cases hy:lay giv l with
  |none=>rw [hy] at h;cases h
  |some L' =>
   rw [hy] at h
   simp only at h ⊢
   cases hmis:l.any (mis L') with
   |true=>rw [hmis] at h;cases h
   |false =>
    cases hb:l.any (ztg L') with
    |true=>rw [hmis,hb] at h;cases h
    |false =>
     rw [hmis,hb] at h
     have e:L'=L:=by
      have h:some L'=some L:=h
      cases h;rfl
     subst e
     obtain ⟨hL,hS⟩:=ztC hy hmis
     obtain ⟨k1,k2,k3⟩:=zqN l giv L' zqK hy
     have bad:∀c∈L',ztg L' c=false:=fun c hc=>by
      rw [k1] at hc
      rcases List.mem_append.1 hc with e |e
      ·exact zw2 k1 hL.noE e
      ·simpa using List.any_eq_false.1 hb c e
     have bad':∀c∈L',isF L' c.Super=false∧(c.Impl.any (fun s=>!isF L' s)=false∧cyc L' c.Name=false):=fun c hc=>by
      have:=bad c hc
      unfold ztg at this
      rw [Bool.or_eq_false_iff,Bool.or_eq_false_iff] at this
      exact this
     refine ⟨⟨⟨hL,fun n hr=>?_,fun c hc=>(bad' c hc).1,fun c hc s hs=>?_⟩,k1,by omega,zrs hy,k3⟩,rfl⟩
     ·cases hn:cl L' n with
      |none =>
       have:nxA L' n=[]:=by unfold nxA;rw [hn]
       cases hr with
       |one h=>rw [this] at h;cases h
       |more h _=>rw [this] at h;cases h
      |some c =>
       have h1:=(bad' c (zcX hn).1).2.2
       rw [(zcX hn).2] at h1
       rw [zre.2 hr] at h1;cases h1
     ·have:=List.any_eq_false.1 (bad' c hc).2.1 s hs
      simpa using this
section
variable {l L : List za} {m : List (Tx × Int)}
theorem zpZ(h:ze0 l L)(hm:zdz L m):∀(d:Nat) (n:Tx) (acc:List Tx),zwf L d n=true→acc.length+d≤200→zw (fun z=>za0 L m z.1 z.2) (n,acc)=some (.inl (acc++sup L d n))
 | 0,n,acc,hf,hd=>by
  rw [zN]
  show (za0 L m n acc).bind _=_
  unfold za0 zbQ
  rw [hm.has]
  have:zda L n=false:=by simpa [zwf] using hf
  rw [this]
  simp [sup]
 |d+1,n,acc,hf,hd=>by
  rw [zN]
  show (za0 L m n acc).bind _=_
  unfold za0 zbQ
  rw [hm.has]
  unfold zwf at hf
  unfold sup
  cases hc:cl L n with
  |none=>rw [zmH hc];simp
  |some c =>
   rw [hc] at hf
   rw [zhq hc,zqJ hm (zhq hc),hc,zdm (by simp;omega) (by simp;omega)]
   show zw (fun z=>za0 L m z.1 z.2) (c.Super,acc++[n])=_
   rw [zpZ h hm d c.Super (acc++[n]) hf (by simp;omega)]
   simp
def zgX(L:List za)(n:Tx):List Tx:=sup L L.length n
theorem zlY(h:ze0 l L)(hm:zdz L m)(n:Tx):zbz L m n=some (zgX L n):=by
 unfold zbz
 rw [zpZ h hm L.length n [] (zu6 h.toWf n) (by have:=h.len;simp;omega)]
 rfl
theorem zlU(h:ze0 l L):∀(d:Nat) (n:Tx) (acc:List Tx),zwf L d n=true→acc.length+d≤200→zw (fun z=>za1 L z.1 z.2) (acc,atN L n)=some (.inl (acc++sup L d n))
 | 0,n,acc,hf,hd=>by
  rw [zN]
  show (za1 L acc (atN L n)).bind _=_
  unfold za1
  have:zda L n=false:=by simpa [zwf] using hf
  rw [zpe,this]
  simp [sup]
 |d+1,n,acc,hf,hd=>by
  rw [zN]
  show (za1 L acc (atN L n)).bind _=_
  unfold za1
  rw [zpe]
  unfold zwf at hf
  unfold sup
  cases hc:cl L n with
  |none=>rw [zmH hc];simp
  |some c =>
   rw [hc] at hf
   have:=h.len
   rw [zhq hc,zmL hc]
   simp only [cond_true,Option.bind_some]
   rw [zjN (by omega),zdm (by simp;omega) (by simp;omega),(zcX hc).2]
   show zw (fun z=>za1 L z.1 z.2) (acc++[n],atN L c.Super)=_
   rw [zlU h d c.Super (acc++[n]) hf (by simp;omega)]
   simp
theorem zhT(h:ze0 l L)(n:Tx):zbA L n=some (zgX L n):=by
 have:=h.len
 unfold zbA
 rw [zjN (by omega)]
 simp only [Option.bind_some]
 rw [zlU h L.length n [] (zu6 h.toWf n) (by simp;omega)]
 rfl
theorem zye:∀(d:Nat) (n:Tx),(sup L d n).length≤d
 | 0,n=>by simp [sup]
 |d+1,n=>by
  unfold sup
  cases cl L n with
  |none=>simp
  |some c=>have:=zye d c.Super;simpa using this
theorem zg7(h:ze0 l L)(n:Tx):(zgX L n).length≤26:=Nat.le_trans (zye _ n) h.len
theorem zyf(h:ze0 l L):∀d,sup L d []=[]
 | 0=>rfl
 |d+1=>by
  unfold sup
  cases hE:cl L [] with
  |none=>rfl
  |some c=>have:=zhq hE;rw [h.noE] at this;cases this
theorem zkV(h:ze0 l L):∀(d:Nat) (n x:Tx),x∈sup L d n→zda L x=true∧(x=n∨Rc (nxA L) n x)∧(x=n∨∃c∈L,x=c.Super)
 | 0,n,x,hx=>by simp [sup] at hx
 |d+1,n,x,hx=>by
  unfold sup at hx
  cases hc:cl L n with
  |none=>rw [hc] at hx;cases hx
  |some c =>
   rw [hc] at hx
   rcases List.mem_cons.1 hx with e |e
   ·subst e;exact ⟨zhq hc,.inl rfl,.inl rfl⟩
   ·obtain ⟨h1,h2,h3⟩:=zkV h d c.Super x e
    have hne:c.Super≠[]:=fun e2=>by rw [e2,zyf h] at e;cases e
    have h6:c.Super∈nxA L n:=by rw [zpI hc];exact List.mem_filter.2 ⟨by simp,by simpa using hne⟩
    refine ⟨h1,.inr ?_,.inr ?_⟩
    ·rcases h2 with e2 |e2
     ·rw [e2];exact .one h6
     ·exact .more h6 e2
    ·rcases h3 with e2 |e2
     ·exact ⟨c,(zcX hc).1,e2⟩
     ·exact e2
theorem zs6(h:ze0 l L):∀(d:Nat) (n:Tx),(sup L d n).Nodup
 | 0,n=>by simp [sup]
 |d+1,n=>by
  unfold sup
  cases hc:cl L n with
  |none=>simp
  |some c =>
   refine List.nodup_cons.2 ⟨fun hm=>?_,zs6 h d c.Super⟩
   have hne:c.Super≠[]:=fun e2=>by rw [e2,zyf h] at hm;cases hm
   have h6:c.Super∈nxA L n:=by rw [zpI hc];exact List.mem_filter.2 ⟨by simp,by simpa using hne⟩
   obtain ⟨_,h2,_⟩:=zkV h d c.Super n hm
   rcases h2 with e2 |e2
   ·exact h.acyc n (.one (by rw [←e2] at h6;exact h6))
   ·exact h.acyc n (.more h6 e2)
theorem zyc(h:ze0 l L){n x:Tx}(hx:x∈zgX L n):x∈L.map (·.Name):=ziC.1 (zkV h _ n x hx).1
theorem zyd{n:Tx}(hn:zda L n=true):n∈zgX L n:=by
 unfold zgX
 obtain ⟨c,hc⟩:=zgC hn
 have:L≠[]:=fun e=>by rw [e] at hn;cases hn
 cases hL:L.length with
 |zero=>exact absurd (List.eq_nil_of_length_eq_zero hL) this
 |succ d=>unfold sup;rw [hc];simp
theorem zlX{n:Tx}(hn:zda L n=false):zgX L n=[]:=by
 unfold zgX
 cases L.length with
 |zero=>rfl
 |succ d =>
  unfold sup
  cases hc:cl L n with
  |none=>rfl
  |some c=>rw [zhq hc] at hn;cases hn
end
theorem zrt:∀(a b:List UInt8),Op.bytesLess a b=true↔a<b
 |a,[]=>by
  have e:Op.bytesLess a []=false:=by cases a <;> rfl
  rw [e]
  constructor
  ·intro h;cases h
  ·intro h;exact absurd h (List.not_lt_nil a)
 | [],b ::y=>by
  constructor
  ·intro _;exact List.nil_lt_cons b y
  ·intro _;rfl
 |a ::x,b ::y=>by
  rw [List.cons_lt_cons_iff,←zrt x y]
  show (decide (a<b)||(a == b&&Op.bytesLess x y))=true↔_
  rw [Bool.or_eq_true,decide_eq_true_eq,Bool.and_eq_true,beq_iff_eq]
theorem zss:∀(s:Tx) (l:List Tx),zuE s l=l.takeWhile (fun x=>Op.bytesLess x s)++s ::l.dropWhile (fun x=>Op.bytesLess x s)
 |s,[]=>rfl
 |s,x ::r=>by
  unfold zuE
  rw [List.takeWhile_cons,List.dropWhile_cons]
  by_cases h:s≤x
  ·rw [if_pos h]
   have:¬(Op.bytesLess x s=true):=fun h2=>absurd ((zrt x s).1 h2) (List.not_lt.2 h)
   rw [if_neg this,if_neg this];rfl
  ·rw [if_neg h]
   have:Op.bytesLess x s=true:=(zrt x s).2 (List.not_le.1 h)
   rw [if_pos this,if_pos this,zss s r];rfl
theorem zlT{s:Tx}{l:List Tx}(hl:l.length≤1000):∀(r pre:List Tx),l=pre++r→zw (fun z=>zcV l s z) (pre.length:Int)=some (.inl ((pre.length+(r.takeWhile (fun x=>Op.bytesLess x s)).length:Nat):Int))
 | [],pre,e=>by
  rw [List.append_nil] at e
  rw [zN]
  show (zcV l s (pre.length:Int)).bind _=_
  unfold zcV
  rw [←e,zg2];rfl
 |x ::r,pre,e=>by
  have hlen:l.length=pre.length+(r.length+1):=by rw [e];simp
  have hx:l[pre.length]?=some x:=by rw [e];simp
  rw [zN]
  show (zcV l s (pre.length:Int)).bind _=_
  unfold zcV
  rw [zgm hx,zD,hx,List.takeWhile_cons,zaz (by omega)]
  cases hb:Op.bytesLess x s with
  |false=>simp [hb]
  |true =>
   simp only [cond_true,Option.bind_some,hb,if_true]
   show zw (fun z=>zcV l s z) ((pre.length+1:Nat):Int)=_
   have:=zlT (s:=s) hl r (pre++[x]) (by rw [e];simp)
   rw [show (pre++[x]).length=pre.length+1 by simp] at this
   rw [this,List.length_cons]
   congr 2
   omega
theorem zyi{α:Type}(p:α→Bool):∀(l:List α),l.take (l.takeWhile p).length=l.takeWhile p∧l.drop (l.takeWhile p).length=l.dropWhile p∧(l.takeWhile p).length≤l.length
 | []=>by simp
 |x ::r=>by
  rw [List.takeWhile_cons,List.dropWhile_cons]
  cases p x with
  |false=>simp
  |true =>
   obtain ⟨h1,h2,h3⟩:=zyi p r
   simp [h1,h2,h3]
theorem zrT{s:Tx}{l:List Tx}(hl:l.length≤900):zji l s=some (zuE s l):=by
 unfold zji
 obtain ⟨h1,h2,h3⟩:=zyi (fun x=>Op.bytesLess x s) l
 rw [show zw (fun z=>zcV l s z) 0=_ from zlT (by omega) l [] rfl]
 simp only [Option.bind_some,zU,List.length_nil,Nat.zero_add]
 unfold zim
 rw [zn1 h3,h1]
 simp only [Option.bind_some]
 rw [zdm (w:=16) (l:=[]) (by simp;omega) (by simp;omega)]
 simp only [Option.bind_some,List.nil_append]
 rw [zio h3,h2]
 simp only [Option.bind_some]
 rw [zdm (w:=16) (x:=[s]) (by simp;omega) (by simp;omega)]
 simp only [Option.bind_some]
 have h4:(l.dropWhile (fun x=>Op.bytesLess x s)).length≤l.length:=by rw [←h2,List.length_drop];omega
 rw [zdm (w:=16) (by simp;omega) (by simp;omega),zss]
 simp
theorem zmE:∀{l:List Tx} (a:Tx),l.Nodup→l.count a=if a∈l then 1 else 0
 | [],a,_=>by simp
 |x ::r,a,h=>by
  rw [List.nodup_cons] at h
  rw [List.count_cons,zmE a h.2]
  by_cases e:x=a
  ·subst e
   simp [h.1]
  ·have:a≠x:=fun e2=>e e2.symm
   simp [e,this]
theorem zvT{a b:List Tx}(ha:a.Nodup)(hb:b.Nodup)(h:∀x,x∈a↔x∈b):a.Perm b:=by
 rw [List.perm_iff_count]
 intro x
 rw [zmE x ha,zmE x hb]
 by_cases hx:x∈a
 ·rw [if_pos hx,if_pos ((h x).1 hx)]
 ·rw [if_neg hx,if_neg (fun hb=>hx ((h x).2 hb))]
theorem zx1{a b:List Tx}(ha:a.Pairwise (·≤·))(hb:b.Pairwise (·≤·))(h:a.Perm b):a=b:=
 List.Perm.eq_of_pairwise (fun a b _ _ h1 h2=>List.le_antisymm h1 h2) ha hb h
theorem zsi{nx:Tx→List Tx}:∀(d i:Nat) (zae:List Tx),zae.Nodup→(bfs nx d i zae).Nodup
 | 0,i,zae,h=>h
 |d+1,i,zae,h=>by
  unfold bfs
  cases zae[i]? with
  |none=>exact h
  |some x =>
   refine zsi d (i+1) _ ?_
   obtain ⟨t,k1,k2,k3,k4⟩:=ziR (nx x) zae
   rw [k1]
   exact List.nodup_append.2 ⟨h,k2,fun a ha b hb e=>(k3 b hb).1 (by rw [←e];exact ha)⟩
theorem zpw{R:Type}{I:List Tx→Prop}{nx:Tx→List Tx}{p:Tx→Bool}{body:List Tx×List Tx×Int→Option (Sum (List Tx×List Tx×Int) (Sum (List Tx) R))}
  (hb:∀(i:Nat) acc zae x,I zae→acc.length≤i→zae[i]?=some x→body (acc,zae,(i:Int))=some (.inl (cond (p x) (acc++[x]) acc,push zae (nx x),((i+1:Nat):Int))))
  (he:∀(i:Nat) acc zae,I zae→zae.length≤i→body (acc,zae,(i:Int))=some (.inr (.inl acc)))
  (hp:∀zae x,I zae→x∈zae→I (push zae (nx x))):∀(d i:Nat) (acc zae:List Tx),I zae→acc.length≤i→fin nx d i zae=true →
  zw body (acc,zae,(i:Int))=some (.inl (acc++((bfs nx d i zae).drop i).filter p))
 | 0,i,acc,zae,hI,ha,hf=>by
  have hl:zae.length≤i:=of_decide_eq_true hf
  rw [zN,he i acc zae hI hl]
  show some (Sum.inl acc:Sum (List Tx) R)=some (Sum.inl (acc++((zae.drop i).filter p)))
  rw [List.drop_eq_nil_of_le hl]
  simp
 |d+1,i,acc,zae,hI,ha,hf=>by
  unfold fin at hf
  unfold bfs
  cases hi:zae[i]? with
  |none =>
   have hl:zae.length≤i:=List.getElem?_eq_none_iff.1 hi
   rw [zN,he i acc zae hI hl]
   show some (Sum.inl acc:Sum (List Tx) R)=some (Sum.inl (acc++((zae.drop i).filter p)))
   rw [List.drop_eq_nil_of_le hl]
   simp
  |some x =>
   rw [hi] at hf
   obtain ⟨t,ht⟩:=znc (nx:=nx) d (i+1) (push zae (nx x))
   obtain ⟨u,hu,_⟩:=ziR (nx x) zae
   have hx:(bfs nx d (i+1) (push zae (nx x)))[i]?=some x:=by
    rw [ht,hu,List.append_assoc,List.getElem?_append_left (List.getElem?_eq_some_iff.1 hi).1,hi]
   obtain ⟨hlt,hge⟩:=List.getElem?_eq_some_iff.1 hx
   have ih:=fun a ha=>zpw hb he hp d (i+1) a _ (hp _ _ hI (List.mem_of_getElem? hi)) ha hf
   rw [zN,hb i acc zae x hI ha hi]
   show zw body (cond (p x) (acc++[x]) acc,push zae (nx x),((i+1:Nat):Int))=some (.inl (acc++((bfs nx d (i+1) (push zae (nx x))).drop i).filter p))
   rw [ih _ (by cases p x <;> simp <;> omega),List.drop_eq_getElem_cons hlt,hge]
   cases hpx:p x with
   |true=>rw [List.filter_cons_of_pos hpx];simp
   |false=>rw [List.filter_cons_of_neg (by rw [hpx];exact Bool.false_ne_true)];rfl
def zk9(L:List za)(n:Tx):List Tx:=bfs (nxI L) 100 0 (zgX L n)
def ze4(L:List za)(n:Tx):List Tx:=zoy ((zk9 L n).filter (isF L))
section
variable {l L : List za} {m : List (Tx × Int)}
theorem zva(h:ze0 l L)(n:Tx):fin (nxI L) 100 0 (zgX L n)=true:=
 zwV (U:=List.map (fun c:za=>c.Name) L) (s0:=zgX L n) h.nxI_in _ _ _ .start (by have:=zg7 h n;have:=h.len;simp;omega)
theorem zvb(h:ze0 l L)(n:Tx):Inv (List.map (fun c:za=>c.Name) L) (zgX L n) (zk9 L n):=zwA h.nxI_in _ _ _ .start
theorem zvc(h:ze0 l L)(n:Tx):(zk9 L n).length≤52:=by
 have h1:=(zvb h n).len
 have h2:=zg7 h n
 have h3:=h.len
 simp only [List.length_map] at h1
 omega
theorem zrY(h:ze0 l L){n x:Tx}(hx:x∈zk9 L n):zda L x=true:=ziC.2 ((zvb h n).mem (fun y hy=>zyc h hy) x hx)
theorem zxr{n:Tx}{c:za}(hc:cl L n=some c):nxI L n=c.Impl:=by unfold nxI;rw [hc]
theorem zvz{R:Type}{body:List Tx×Int→Option (Sum (List Tx×Int) (Sum (List Tx) R))}{l:List Tx}(hl:l.length≤100)
  (hb:∀(i:Nat) x zae,zae.length≤1000→l[i]?=some x→body (zae,(i:Int))=some (.inl (cond (!(zae.any fun y=>x == y)) (zae++[x]) zae,IntKind.i64.wrap ((i:Int)+1))))
  (he:∀zae,body (zae,(l.length:Int))=some (.inr (.inl zae))) (zae:List Tx) (hs:zae.length≤800):zw body (zae,0)=some (.inl (push zae l)):=by
 have:=zpS (p:=fun _=>true) hl (fun i x s h hx=>by rw [hb i x s h hx];rfl) he l [] zae rfl (by omega)
 rw [List.filter_eq_self.2 (fun _ _=>rfl)] at this
 exact this
theorem zsl(h:ze0 l L)(hm:zdz L m)(n:Tx):zdN L m n=some (ze4 L n):=by
 unfold zdN zbQ
 rw [hm.has]
 cases hn:zda L n with
 |false =>
  unfold ze4 zk9
  rw [zlX hn]
  rfl
 |true =>
  rw [zlY h hm]
  simp only [Bool.not_true,cond_false,Option.bind_some]
  have h26:=h.len
  have hs26:=zg7 h n
  have hl:=zpw (R:=List Tx) (I:=fun s=>Inv (List.map (fun c:za=>c.Name) L) (zgX L n) s) (nx:=nxI L) (p:=isF L) (body:=fun z=>zaZ L m z.1 z.2.1 z.2.2)
   (fun i acc zae x hI ha hx=>by
    have hsl:=hI.len
    simp only [List.length_map] at hsl
    have hxm:zda L x=true:=ziC.2 (hI.mem (fun y hy=>zyc h hy) x (List.mem_of_getElem? hx))
    obtain ⟨c,hc⟩:=zgC hxm
    have h4:=(h.okc c (zcX hc).1).impl
    have hilt:=(List.getElem?_eq_some_iff.1 hx).1
    have hp:∀acc',zb5 zae (i:Int) c acc'=some (.inl (acc',push zae c.Impl,((i+1:Nat):Int))):=fun acc'=>by
     unfold zb5
     rw [zvz (l:=c.Impl) (by omega) (fun j y s hs hy=>by
      show zb6 c s (j:Int)=_
      unfold zb6 zcK
      rw [zgm hy,zD,hy]
      simp only [cond_true,Option.bind_some]
      rw [zo1 hs,zdm (w:=16) (l:=s) (x:=[y]) (by simp;omega) (by simp;omega)]
      cases (s.any fun z=>y == z) <;> rfl) (fun s=>by
      show zb6 c s (c.Impl.length:Int)=_
      unfold zb6
      rw [zg2];rfl) zae (by omega)]
     simp only [Option.bind_some,zU]
     unfold zei
     rw [zaz (by omega)]
    show zaZ L m acc zae (i:Int)=_
    unfold zaZ
    rw [zgm hx,zD,hx]
    simp only [cond_true,Option.bind_some]
    rw [zqJ hm hxm,hc]
    simp only [Option.bind_some]
    rw [hp,zdm (w:=16) (l:=acc) (x:=[c.Name]) (by simp;omega) (by simp;omega)]
    simp only [Option.bind_some]
    rw [hp,zxr hc,(zcX hc).2]
    have e:isF L x=c.Interface:=by unfold isF;rw [hc]
    rw [e]
    cases c.Interface <;> rfl)
   (fun i acc zae hI hle=>by
    show zaZ L m acc zae (i:Int)=_
    unfold zaZ
    rw [decide_eq_false (by omega)];rfl)
   (fun zae y hI hy=>hI.push (h.nxI_in y)) 100 0 [] (zgX L n) .start (by simp) (zva h n)
  rw [show zw (fun z=>zaZ L m z.1 z.2.1 z.2.2) ([],zgX L n,0)=_ from hl]
  simp only [Option.bind_some,zU,List.drop_zero,List.nil_append]
  unfold zej zv4
  have h1:((bfs (nxI L) 100 0 (zgX L n)).filter (isF L)).length≤52:=Nat.le_trans (List.length_filter_le _ _) (zvc h n)
  rw [if_pos (by omega)]
  rfl
theorem zsn(n:Tx):(ze4 L n).Pairwise (·≤·):=zkA _
theorem zsm{n x:Tx}:x∈ze4 L n↔x∈zk9 L n∧isF L x=true:=by
 unfold ze4
 rw [(zg9 _).mem_iff,List.mem_filter]
theorem zwc(h:ze0 l L)(n:Tx):(zk9 L n).Nodup:=zsi _ _ _ (zs6 h _ n)
theorem zrZ{n x:Tx}(hx:x∈zgX L n):x∈zk9 L n:=by
 obtain ⟨t,e⟩:=znc (nx:=nxI L) 100 0 (zgX L n)
 unfold zk9
 rw [e];exact List.mem_append_left _ hx
theorem zp3(h:ze0 l L){n x y:Tx}(hx:x∈zk9 L n)(hy:y∈nxI L x):y∈zk9 L n:=
 znY 100 0 _ (zva h n) (fun j x hj=>by omega) x hx y hy
end
theorem zmc{l:List Tx}(hl:l.length≤1000)(n:Tx):zjA l n=some (l.any fun y=>y == n):=by
 unfold zjA
 rw [show zw (fun z=>zgd l n z) 0=some (zpr () (cond (l.any fun y=>y == n) (some true) none)) from by
  rw [←zdB]
  refine zeR (fun i x hx=>?_) ?_
  ·show zgd l n (i:Int)=_
   have hi:=(List.getElem?_eq_some_iff.1 hx).1
   unfold zgd
   rw [zgm hx,zD,hx,zaz (by omega)]
   simp only [cond_true,Option.bind_some]
   cases x == n <;> rfl
  ·show zgd l n (l.length:Int)=_
   unfold zgd
   rw [zg2];rfl]
 cases (l.any fun y=>y == n) <;> rfl
section
variable {l L : List za}
def zyM(L:List za)(n:Tx)(k:Nat):Bool:=match L[k]? with |some c=>(zgX L n).any (fun y=>y == c.Name) |none=>false
theorem ztt(h:ze0 l L){c:za}(hc:c∈L){inn:List Bool}(hi:inn.length=L.length)(more:Bool):
  zw (fun z=>zca L c z.1 z.2.1 z.2.2) (inn,more,0)=some (.inl (mkS L inn c.Impl,more||c.Impl.any (zpH L inn))):=by
 have h26:=h.len
 have h4:=(h.okc c hc).impl
 refine zoa (l:=c.Impl) (by omega) (fun j s inn more hi hs=>?_) (fun inn more=>?_) c.Impl [] inn more rfl hi
 ·show zca L c inn more (j:Int)=_
  have hsm:=List.mem_of_getElem? hs
  have hh:zda L s=true:=h.closed c hc s (List.mem_cons_of_mem _ hsm) ((h.okc c hc).implE s hsm)
  unfold zca zdq
  rw [zgm hs,zD,hs]
  simp only [cond_true,Option.bind_some]
  rw [zjN (by omega)]
  simp only [Option.bind_some]
  unfold mk1 zpH
  obtain ⟨g1,g2⟩:=ztq hh
  have e:idx inn (atN L s)=some (onB inn (atN L s).toNat):=by
   unfold idx onB
   rw [if_pos g1,List.getD_eq_getElem?_getD,List.getElem?_eq_getElem (by omega)];rfl
  rw [e,hh]
  simp only [Option.bind_some,Bool.true_and]
  cases onB inn (atN L s).toNat <;> simp
 ·show zca L c inn more (c.Impl.length:Int)=_
  unfold zca
  rw [zg2];rfl
theorem zvy(h:ze0 l L)(n:Tx){inn:List Bool}(hi:inn.length=L.length)(more:Bool):
  zw (fun z=>zcb L (zgX L n) z.1 z.2.1 z.2.2) (inn,more,0)=some (.inl (ziQ L (·.Impl) (zyM L n) inn 0 L,more||zmj L (·.Impl) (zyM L n) inn 0 L)):=by
 have h26:=h.len
 have hs26:=zg7 h n
 refine zpO (st:=fun a b c=>(a,b,c)) (nx:=(·.Impl)) (act:=zyM L n) (by omega) (fun k c inn more hi hc=>?_) (fun inn more=>?_) L [] inn more rfl hi
 ·show zcb L (zgX L n) inn more (k:Int)=_
  have hk:=(List.getElem?_eq_some_iff.1 hc).1
  have e:zyM L n k=(zgX L n).any (fun y=>y == c.Name):=by unfold zyM;rw [hc]
  unfold zcb
  rw [zgm hc,zuR (by omega),zD,hc]
  simp only [cond_true,Option.bind_some]
  rw [zmc (by omega),ztt h (List.mem_of_getElem? hc) hi,e]
  unfold zfg zdr
  rw [zaz (by omega)]
  cases onB inn k <;> cases ((zgX L n).any (fun y=>y == c.Name)) <;> rfl
 ·show zcb L (zgX L n) inn more (L.length:Int)=_
  unfold zcb
  rw [zg2];rfl
def zjc(F:List Bool):Nat→List za→List Tx
 |_,[]=>[]
 |k,c ::r=>cond (onB F k) (c.Name ::zjc F (k+1) r) (zjc F (k+1) r)
theorem zmX{F:List Bool}:∀(r:List za) (k:Nat) (x:Tx),x∈zjc F k r↔∃(j:Nat) (c:za),r[j]?=some c∧onB F (k+j)=true∧c.Name=x
 | [],k,x=>by
  constructor
  ·intro h;cases h
  ·rintro ⟨j,c,h,_⟩;simp at h
 |c ::r,k,x=>by
  have ih:=zmX (F:=F) r (k+1) x
  have back:(∃(j:Nat) (d:za),r[j]?=some d∧onB F (k+1+j)=true∧d.Name=x)↔∃(j:Nat) (d:za),0<j∧(c ::r)[j]?=some d∧onB F (k+j)=true∧d.Name=x:=by
   constructor
   ·rintro ⟨j,d,h1,h2,h3⟩
    exact ⟨j+1,d,by omega,by simpa using h1,by rw [show k+(j+1)=k+1+j by omega];exact h2,h3⟩
   ·rintro ⟨j,d,h0,h1,h2,h3⟩
    cases j with
    |zero=>omega
    |succ j=>exact ⟨j,d,by simpa using h1,by rw [show k+1+j=k+(j+1) by omega];exact h2,h3⟩
  unfold zjc
  cases hb:onB F k with
  |true =>
   rw [cond_true,List.mem_cons,ih,back]
   constructor
   ·rintro (e |⟨j,d,_,h1⟩)
    ·exact ⟨0,c,rfl,hb,e.symm⟩
    ·exact ⟨j,d,h1⟩
   ·rintro ⟨j,d,h1,h2,h3⟩
    cases j with
    |zero=>left;have e:c=d:=(by simpa using h1);rw [e];exact h3.symm
    |succ j=>exact .inr ⟨j+1,d,by omega,h1,h2,h3⟩
  |false =>
   rw [cond_false,ih,back]
   constructor
   ·rintro ⟨j,d,_,h1⟩;exact ⟨j,d,h1⟩
   ·rintro ⟨j,d,h1,h2,h3⟩
    cases j with
    |zero=>rw [Nat.add_zero,hb] at h2;cases h2
    |succ j=>exact ⟨j+1,d,by omega,h1,h2,h3⟩
theorem znx{F:List Bool}:∀(r pre:List za),Nd (pre++r)→(zjc F pre.length r).Nodup
 | [],pre,h=>by simp [zjc]
 |c ::r,pre,h=>by
  have ih:=znx (F:=F) r (pre++[c]) (by simpa using h)
  rw [show (pre++[c]).length=pre.length+1 by simp] at ih
  unfold zjc
  cases onB F pre.length with
  |false=>exact ih
  |true =>
   refine List.nodup_cons.2 ⟨fun hm=>?_,ih⟩
   obtain ⟨j,d,h1,_,h3⟩:=(zmX r _ _).1 hm
   have:=h pre.length (pre.length+(j+1)) c d (by simp) (by rw [List.getElem?_append_right (by omega),show pre.length+(j+1)-pre.length=j+1 by omega];simpa using h1) h3.symm
   omega
def zqY(acc:List Tx):List Tx→List Tx
 | []=>acc
 |x ::r=>zqY (zuE x acc) r
theorem zpY:∀(r acc:List Tx),(zqY acc r).Perm (acc++r)
 | [],acc=>by simp [zqY]
 |x ::r,acc=>(zpY r (zuE x acc)).trans (by
  refine ((zls x acc).append_right r).trans ?_
  exact (List.perm_middle (l₁:=acc) (l₂:=r) (a:=x)).symm)
theorem znK:∀(r acc:List Tx),acc.Pairwise (·≤·)→(zqY acc r).Pairwise (·≤·)
 | [],acc,h=>h
 |x ::r,acc,h=>znK r _ (zmM x h)
theorem zy9(x:Tx)(l:List Tx):(zuE x l).length=l.length+1:=by rw [(zls x l).length_eq];rfl
theorem zow{F:List Bool}(hl:L.length≤100)(hF:F.length=L.length):∀(r pre:List za) (acc:List Tx),L=pre++r→acc.length≤pre.length →
  zw (fun z=>zaT L F z.1 z.2) (acc,(pre.length:Int))=some (.inl (zqY acc (zjc F pre.length r)))
 | [],pre,acc,e,ha=>by
  rw [List.append_nil] at e
  rw [zN]
  show (zaT L F acc (pre.length:Int)).bind _=_
  unfold zaT
  rw [←e,zg2];rfl
 |c ::r,pre,acc,e,ha=>by
  have hlen:L.length=pre.length+(r.length+1):=by rw [e];simp
  have hx:L[pre.length]?=some c:=by rw [e];simp
  have ih:=fun a ha=>zow hl hF r (pre++[c]) a (by rw [e];simp) ha
  rw [show (pre++[c]).length=pre.length+1 by simp] at ih
  rw [zN]
  show (zaT L F acc (pre.length:Int)).bind _=_
  unfold zaT
  rw [zgm hx,zuR (by omega),zD,hx]
  simp only [cond_true,Option.bind_some]
  rw [zrT (by omega)]
  unfold zds zjc
  rw [zaz (by omega)]
  cases onB F pre.length with
  |false =>
   show zw (fun z=>zaT L F z.1 z.2) (acc,((pre.length+1:Nat):Int))=_
   exact ih acc (by omega)
  |true =>
   show zw (fun z=>zaT L F z.1 z.2) (zuE c.Name acc,((pre.length+1:Nat):Int))=_
   exact ih _ (by rw [zy9];omega)
theorem zum(h:ze0 l L){s:Tx}(hh:zda L s=true):∃d,L[(atN L s).toNat]?=some d∧d.Name=s:=by
 obtain ⟨d,hd⟩:=zgC hh
 have e:=znk L s
 rw [hd] at e
 obtain ⟨g1,g2⟩:=ztq hh
 refine ⟨d,?_,(zcX hd).2⟩
 unfold idx at e
 rw [if_pos g1] at e
 exact e
theorem zuy(h:ze0 l L){n:Tx}(hn:zda L n=true){inn:List Bool}(hi:inn.length=L.length)
  (h0:∀k,onB inn k=true↔(isF L n=true∧k=(atN L n).toNat)):zc1 L n inn=some (ze4 L n):=by
 have h26:=h.len
 let Q:Nat→Prop:=fun k=>∃c,L[k]?=some c∧c.Name∈zk9 L n∧c.Interface=true
 have isF_of:∀{k:Nat} {c:za},L[k]?=some c→isF L c.Name=c.Interface:=fun {k c} hk=>by
  unfold isF;rw [h.nd.cl (List.mem_of_getElem? hk)]
 have hq0:∀k,onB inn k=true→Q k:=fun k hk=>by
  obtain ⟨h1,h2⟩:=(h0 k).1 hk
  obtain ⟨d,hd,hd2⟩:=zum h hn
  refine ⟨d,by rw [h2];exact hd,by rw [hd2];exact zrZ (zyd hn),?_⟩
  rw [←isF_of hd,hd2];exact h1
 have hQ:∀(j:Nat) c,L[j]?=some c→(Q j∨zyM L n j=true)→∀s∈c.Impl,zda L s=true→Q (atN L s).toNat:=fun j c hj hor s hs hh=>by
  have hcT:c.Name∈zk9 L n:=by
   rcases hor with ⟨c',hc',hm,_⟩ |ha
   ·rw [hj] at hc';cases hc';exact hm
   ·unfold zyM at ha
    rw [hj] at ha
    have ha:(zgX L n).any (fun y=>y == c.Name)=true:=ha
    rw [List.any_eq_true] at ha
    obtain ⟨y,hy,e⟩:=ha
    rw [←eq_of_beq e];exact zrZ hy
  obtain ⟨d,hd,hd2⟩:=zum h hh
  refine ⟨d,hd,?_,?_⟩
  ·rw [hd2]
   exact zp3 h hcT (by rw [zxr (h.nd.cl (List.mem_of_getElem? hj))];exact hs)
  ·rw [←isF_of hd,hd2];exact h.implF c (List.mem_of_getElem? hj) s hs
 obtain ⟨F,k1,k2,k3,k4,k5⟩:=zod (L:=L) (nx:=(·.Impl)) (act:=zyM L n) (R:=List Tx) (st:=fun a b=>(a,b)) (body:=fun z=>zdt L (zgX L n) z.1 z.2) (Q:=Q)
  (fun inn hi=>by
   show zdt L (zgX L n) inn true=_
   unfold zdt
   rw [zvy h n hi false]
   rfl) (fun inn hi=>rfl) hQ L.length inn hi (by omega) hq0
 unfold zc1
 rw [zhT h]
 simp only [Option.bind_some]
 rw [k1]
 simp only [Option.bind_some,zU]
 unfold zfh
 rw [show zw (fun z=>zaT L F z.1 z.2) ([],0)=_ from zow (by omega) k2 L [] [] rfl (by simp)]
 simp only [Option.bind_some,zU]
 show some (zqY [] (zjc F 0 L))=_
 congr 1
 refine zx1 (znK _ _ (by simp)) (zsn n) ((zpY _ _).trans ?_)
 rw [List.nil_append]
 refine (zvT (znx (F:=F) L [] h.nd) ((zwc h n).filter (isF L)) fun x=>?_).trans (zg9 _).symm
 show x∈zjc F 0 L↔_
 rw [zmX,List.mem_filter]
 constructor
 ·rintro ⟨j,c,h1,h2,h3⟩
  rw [Nat.zero_add] at h2
  obtain ⟨c',hc',hm,hI⟩:=k5 j h2
  rw [h1] at hc';cases hc'
  rw [←h3]
  exact ⟨hm,by rw [isF_of h1];exact hI⟩
 ·rintro ⟨hx,hxF⟩
  have key:∀y∈zk9 L n,y∈zk9 L n∧(y∈zgX L n∨onB F (atN L y).toNat=true):=by
   refine zpg (Q:=fun y=>y∈zk9 L n∧(y∈zgX L n∨onB F (atN L y).toNat=true)) (fun y hy z hz=>?_) 100 0 _ (fun y hy=>⟨zrZ hy,.inl hy⟩)
   refine ⟨zp3 h hy.1 hz,.inr ?_⟩
   have hyh:=zrY h hy.1
   obtain ⟨d,hd,hd2⟩:=zum h hyh
   have hzh:=zrY h (zp3 h hy.1 hz)
   rw [←hd2,zxr (h.nd.cl (List.mem_of_getElem? hd))] at hz
   refine k3 _ d hd ?_ z hz hzh
   rw [Bool.or_eq_true]
   rcases hy.2 with h1 |h1
   ·right
    unfold zyM
    rw [hd]
    show (zgX L n).any (fun w=>w == d.Name)=true
    rw [hd2,List.any_eq_true]
    exact ⟨y,h1,beq_self_eq_true _⟩
   ·exact .inl h1
  have hxh:=zrY h hx
  obtain ⟨d,hd,hd2⟩:=zum h hxh
  refine ⟨(atN L x).toNat,d,hd,?_,hd2⟩
  rw [Nat.zero_add]
  rcases (key x hx).2 with h1 |h1
  ·rcases (zkV h _ n x h1).2.2 with e |⟨c,hc,e⟩
   ·subst e
    exact k4 _ ((h0 _).2 ⟨hxF,rfl⟩)
   ·rw [e,h.superF c hc] at hxF;cases hxF
  ·exact h1
theorem zoH(h:ze0 l L)(n:Tx):zeX L n=some (ze4 L n):=by
 have h26:=h.len
 unfold zeX
 rw [show mkP 1 (L.length:Int)=some L.length by unfold mkP;rw [if_pos (by omega),Int.toNat_natCast],zjN (by omega)]
 simp only [Option.bind_some]
 rw [zot]
 have hrep:(List.replicate L.length false).length=L.length:=by simp
 have hoff:∀n,onB (List.replicate L.length false) n=false:=fun n=>by
  unfold onB
  rw [List.getD_eq_getElem?_getD,List.getElem?_replicate]
  split <;> rfl
 cases hn:zda L n with
 |false =>
  unfold ze4 zk9
  rw [zlX hn]
  rfl
 |true =>
  obtain ⟨c,hc⟩:=zgC hn
  obtain ⟨g1,g2⟩:=ztq hn
  have eF:isF L n=c.Interface:=by unfold isF;rw [hc]
  rw [zmL hc]
  simp only [Bool.not_true,cond_false,Option.bind_some]
  cases hI:c.Interface with
  |false =>
   simp only [cond_false]
   refine zuy h hn hrep fun k=>?_
   rw [hoff,eF,hI]
   simp
  |true =>
   have e:idx (List.replicate L.length false) (atN L n)=some false:=by
    unfold idx
    rw [if_pos g1,List.getElem?_replicate,if_pos g2]
   rw [e]
   simp only [cond_true,Option.bind_some]
   refine zuy h hn (by simp) fun k=>?_
   rw [zAk (by rw [hrep];exact g2),hoff,Bool.false_or,eF,hI,Nat.beq_eq]
   simp
end
def brk:Tx→Bool
 | []=>false
 |x :: _=>x == 91
def ess(s:Tx):Tx:=zfm (zfm s)
theorem zme{s:Tx}(h:brk s=false):zfm s=s:=by
 cases s with
 |nil=>rfl
 |cons x r =>
  rw [zgz,if_neg]
  intro e
  subst e
  cases h
theorem zkW{s:Tx}(h:brk s=true):zfm s=s.drop 1∧s=91 ::s.drop 1:=by
 cases s with
 |nil=>cases h
 |cons x r =>
  have:x=91:=by simpa [brk] using h
  subst this
  exact ⟨rfl,rfl⟩
theorem zjP{s:Tx}(h:zcy s=true):brk s=false:=by
 cases s with
 |nil=>rfl
 |cons x r =>
  cases hb:(x == 91) with
  |false=>exact hb
  |true =>
   have:x=91:=by simpa using hb
   subst this
   unfold zcy at h
   rw [Bool.and_eq_true] at h
   have h2:zdP 91=true:=h.2
   exact absurd h2 (by decide +kernel)
theorem zyT{s:Tx}(h:zcy s=true):(s == [73])=false:=by
 cases hb:(s == [73]) with
 |false=>rfl
 |true =>
  have:s=[73]:=by simpa using hb
  subst this
  unfold zcy at h
  simp at h
theorem znZ{s:Tx}(h:zcy s=true):zfq s=true:=by
 unfold zfq
 rw [zme (zjP h),zme (zjP h),h,Bool.or_true]
theorem zAS{s:Tx}(h:zfq s=true):brk (ess s)=false:=by
 unfold zfq at h
 rw [Bool.or_eq_true] at h
 rcases h with h |h
 ·unfold ess;rw [eq_of_beq h];rfl
 ·exact zjP h
theorem zo2{s:Tx}(h:zfq s=true)(hb:brk s=true):zfq (s.drop 1)=true∧ess (s.drop 1)=ess s:=by
 obtain ⟨h1,h2⟩:=zkW hb
 have h3:=zAS h
 have e:zfm (zfm (s.drop 1))=zfm (zfm s):=by
  rw [h1]
  exact zme (show brk (zfm (s.drop 1))=false from by rw [←h1];exact h3)
 exact ⟨by unfold zfq at h ⊢;rw [e];exact h,e⟩
theorem zps{s:Tx}(hb:brk s=false):ess s=s:=by unfold ess;rw [zme hb,zme hb]
theorem zw3:giv.all (fun c=>zcy c.Name)=true:=by decide +kernel
def zyk(L:List za)(t:Tx):Bool:=(ess t == [73])||zda L (ess t)
def thN(L:List za)(t:Tx):Bool:=zfq t&&zyk L t
section
variable {l L : List za} {m : List (Tx × Int)}
theorem zj3(h:ze0 l L){n:Tx}(hn:zda L n=true):zcy n=true:=by
 obtain ⟨c,hc⟩:=zgC hn
 obtain ⟨h1,h2⟩:=zcX hc
 rw [←h2]
 rw [h.app] at h1
 rcases List.mem_append.1 h1 with e |e
 ·exact List.all_eq_true.1 zw3 c e
 ·have:=h.may c e
  unfold zqQ at this
  simp only [Bool.and_eq_true] at this
  exact this.2.1.1.1.1
def zh1(s:Tx):Tx×Bool:=cond (zfq s&&brk s) (s.drop 1,true) ([],false)
theorem zhr{s:Tx}(h:Len s):zfZ s=some (zh1 s):=by
 unfold zfZ zh1
 rw [zhb h]
 cases hm:zfq s with
 |false=>rfl
 |true =>
  cases s with
  |nil =>
   exfalso
   unfold zfq at hm
   rw [show zfm (zfm [])=[] from rfl] at hm
   simp at hm
   exact zjQ hm rfl
  |cons x r =>
   simp only [Option.bind_some,Bool.not_true,cond_false,Bool.true_and]
   rw [ziO]
   have e:((x.toNat:Int) == (91:Int))=(x == 91):=by
    rw [Bool.eq_iff_iff,beq_iff_eq,beq_iff_eq]
    constructor
    ·intro h;exact UInt8.toNat_inj.1 (by simpa using (Int.ofNat_inj.1 h))
    ·intro h;rw [h];rfl
   simp only [List.getElem?_cons_zero,Option.bind_some,e]
   rw [show (1:Int)=((1:Nat):Int) from rfl,zio (by simp)]
   show cond (!(x == 91)) _ _=some (cond (x == 91) _ _)
   cases x == 91 <;> rfl
theorem zqZ{s:Tx}:∀(d:Nat) (t:Tx),t.length≤d→Len t→zw (fun z=>zb7 z.1 z.2.1 z.2.2) (t,(zh1 t).1,(zh1 t).2)=some (.inl (cond (zfq t) (ess t) t))
 |d,t,hd,hl=>by
  rw [zN]
  show (zb7 t (zh1 t).1 (zh1 t).2).bind _=_
  unfold zb7
  cases hm:zfq t with
  |false =>
   have:zh1 t=([],false):=by unfold zh1;rw [hm];rfl
   rw [this];rfl
  |true =>
   cases hb:brk t with
   |false =>
    have:zh1 t=([],false):=by unfold zh1;rw [hm,hb];rfl
    rw [this,zps hb];rfl
   |true =>
    have:zh1 t=(t.drop 1,true):=by unfold zh1;rw [hm,hb];rfl
    obtain ⟨k1,k2⟩:=zo2 hm hb
    have hlen:(t.drop 1).length=t.length-1:=by simp
    have hpos:0<t.length:=by rw [(zkW hb).2];simp
    have hl2:Len (t.drop 1):=by unfold Len at *;omega
    rw [this]
    show ((zfZ (t.drop 1)).bind _).bind _=_
    rw [zhr hl2]
    show zw (fun z=>zb7 z.1 z.2.1 z.2.2) (t.drop 1,(zh1 (t.drop 1)).1,(zh1 (t.drop 1)).2)=_
    cases d with
    |zero=>omega
    |succ d =>
     rw [zqZ (s:=s) d (t.drop 1) (by omega) hl2,k1,k2];rfl
theorem zu8(h:ze0 l L)(hm:zdz L m){t:Tx}(hl:Len t):zdO L m t=some (thN L t):=by
 unfold zdO
 rw [zhr hl]
 simp only [Option.bind_some]
 rw [zqZ (s:=t) t.length t (Nat.le_refl _) hl]
 simp only [Option.bind_some,zU]
 unfold zev zbQ
 rw [hm.has]
 unfold thN zyk
 cases hmay:zfq t with
 |true=>rfl
 |false =>
  simp only [cond_false,Bool.false_and]
  congr 1
  rw [Bool.or_eq_false_iff]
  constructor
  ·cases hI:(t == [73]) with
   |false=>rfl
   |true =>
    have:t=[73]:=by simpa using hI
    rw [this] at hmay
    exact absurd hmay (by decide +kernel)
  ·cases hh:zda L t with
   |false=>rfl
   |true=>rw [znZ (zj3 h hh)] at hmay;cases hmay
theorem zsh:∀(t:Tx) (k:Nat),t.length+k≤1000→zw (fun z=>zfa z.1 z.2) (t,(k:Int))=some (.inl (t.dropWhile (· == 91),((k+(t.takeWhile (· == 91)).length:Nat):Int)))
 | [],k,hk=>by
  rw [zN];rfl
 |x ::r,k,hk=>by
  simp only [List.length_cons] at hk
  rw [zN]
  show (zfa (x ::r) (k:Int)).bind _=_
  unfold zfa
  have e:((x.toNat:Int) == (91:Int))=(x == 91):=by
   rw [Bool.eq_iff_iff,beq_iff_eq,beq_iff_eq]
   constructor
   ·intro h;exact UInt8.toNat_inj.1 (by simpa using (Int.ofNat_inj.1 h))
   ·intro h;rw [h];rfl
  rw [decide_eq_true (show (0:Int)<((x ::r).length:Int) by simp only [List.length_cons];omega),ziO]
  simp only [cond_true,List.getElem?_cons_zero,Option.bind_some,e]
  rw [show (1:Int)=((1:Nat):Int) from rfl,zio (by simp),List.dropWhile_cons,List.takeWhile_cons]
  cases hx:(x == 91) with
  |false=>simp
  |true =>
   simp only [cond_true,Option.bind_some,if_true,List.drop_one,List.tail_cons]
   rw [show ((1:Nat):Int)=1 from rfl,zaz (by omega)]
   show zw (fun z=>zfa z.1 z.2) (r,((k+1:Nat):Int))=_
   rw [zsh r (k+1) (by omega)]
   simp only [List.length_cons]
   congr 3
   omega
theorem zAI{t:Tx}(h:t.length≤900):zix t=some (t.dropWhile (· == 91),((t.takeWhile (· == 91)).length:Int)):=by
 unfold zix
 rw [show zw (fun z=>zfa z.1 z.2) (t,0)=_ from zsh t 0 (by omega)]
 simp only [Option.bind_some,zU,Nat.zero_add]
 rfl
theorem zuv{t:Tx}(h:brk t=false):t.dropWhile (· == 91)=t∧t.takeWhile (· == 91)=[]:=by
 cases t with
 |nil=>exact ⟨rfl,rfl⟩
 |cons x r =>
  have:(x == 91)=false:=h
  simp [List.dropWhile_cons,List.takeWhile_cons,this]
theorem zut{t:Tx}(h:brk t=true):t.dropWhile (· == 91)=(t.drop 1).dropWhile (· == 91)∧(t.takeWhile (· == 91)).length=((t.drop 1).takeWhile (· == 91)).length+1:=by
 cases t with
 |nil=>cases h
 |cons x r =>
  have:(x == 91)=true:=h
  simp [List.dropWhile_cons,List.takeWhile_cons,this]
theorem zuu:∀(d:Nat) (t:Tx),t.length≤d→zfq t=true→t.dropWhile (· == 91)=ess t
 |d,t,hd,hm=>by
  cases hb:brk t with
  |false=>rw [(zuv hb).1,zps hb]
  |true =>
   obtain ⟨k1,k2⟩:=zo2 hm hb
   have hlen:(t.drop 1).length=t.length-1:=by simp
   have hpos:0<t.length:=by rw [(zkW hb).2];simp
   cases d with
   |zero=>omega
   |succ d=>rw [(zut hb).1,zuu d (t.drop 1) (by omega) k1,k2]
theorem zq5{t:Tx}(h:t.length≤900)(hm:zfq t=true):∃k:Nat,zix t=some (ess t,(k:Int))∧(((k:Int) == 0)=!brk t):=by
 refine ⟨_,by rw [zAI h,zuu _ t (Nat.le_refl _) hm],?_⟩
 cases hb:brk t with
 |false=>rw [(zuv hb).2];rfl
 |true=>rw [(zut hb).2];exact beq_eq_false_iff_ne.2 (by omega)
theorem zd8(h:ze0 l L){t:Tx}(hl:t.length≤900):z1 L t=some (thN L t):=by
 have h26:=h.len
 unfold z1
 rw [zed (by unfold Len;omega)]
 unfold thN
 cases hm:zfq t with
 |false=>rfl
 |true =>
  obtain ⟨k,hk,_⟩:=zq5 hl hm
  rw [hk]
  simp only [Option.bind_some,Bool.not_true,cond_false]
  rw [zjN (by omega)]
  simp only [Option.bind_some]
  rw [zpe]
  unfold zyk
  cases (ess t == [73]) <;> rfl
end
def zt9(L:List za):Tx→Tx→Bool
 | [],b=>thN L []&&(thN L b&&(([]:Tx) == b))
 |x ::r,b=>thN L (x ::r)&&(thN L b&&(((x ::r) == b)||cond (x == 91) (cond (brk b) ((!(r == [73]))&&((!(b.drop 1 == [73]))&&zt9 L r (b.drop 1))) (b == zCy)) ((zgX L (x ::r)).any (fun y=>b == y)||(ze4 L (x ::r)).any (fun y=>b == y))))
theorem zua(L:List za)(a b:Tx):zt9 L a b=(thN L a&&(thN L b&&((a == b)||cond (brk a) (cond (brk b) ((!(a.drop 1 == [73]))&&((!(b.drop 1 == [73]))&&zt9 L (a.drop 1) (b.drop 1))) (b == zCy)) ((zgX L a).any (fun y=>b == y)||(ze4 L a).any (fun y=>b == y))))):=by
 cases a with
 |nil =>
  have:thN L []=false:=by
   unfold thN
   have:zfq []=false:=by
    cases h:zfq [] with
    |false=>rfl
    |true =>
     unfold zfq at h
     rw [show zfm (zfm [])=[] from rfl] at h
     simp at h
     exact absurd rfl (zjQ h)
   rw [this];rfl
  rw [this]
  show (thN L []&&_)=_
  rw [this];rfl
 |cons x r=>rfl
section
variable {l L : List za} {m : List (Tx × Int)}
theorem zpp{l:List Tx}(hl:l.length≤1000)(n:Tx):zK l n=some (l.any fun y=>n == y):=zo1 hl n
theorem zni(h:ze0 l L)(n:Tx):(ze4 L n).length≤52:=by
 unfold ze4
 rw [(zg9 _).length_eq]
 exact Nat.le_trans (List.length_filter_le _ _) (zvc h n)
theorem zyj{t:Tx}(h:thN L t=true):zfq t=true:=by
 unfold thN at h;rw [Bool.and_eq_true] at h;exact h.1
theorem zwQ{t:Tx}(h:thN L t=true):zh1 t=cond (brk t) (t.drop 1,true) ([],false):=by
 unfold zh1
 rw [zyj h,Bool.true_and]
theorem zzL(h:ze0 l L)(hm:zdz L m){v0:(List za)×(List (Tx×Int))×Tx×Tx→Option Bool}{a b:Tx}(ha:Len a)(hb:Len b)
  (hv:brk a=true→brk b=true→v0 (L,m,a.drop 1,b.drop 1)=some (zt9 L (a.drop 1) (b.drop 1))):zbP v0 L m a b=some (zt9 L a b):=by
 have h1:=zg7 h a
 have h2:=zni h a
 unfold zbP
 rw [zu8 h hm ha,zu8 h hm hb,zua]
 cases ta:thN L a with
 |false=>rfl
 |true =>
  cases tb:thN L b with
  |false=>rfl
  |true =>
   simp only [Option.bind_some,Bool.not_true,cond_false,Bool.true_and]
   rw [zhr ha,zhr hb,zwQ ta,zwQ tb]
   simp only [Option.bind_some]
   cases hab:(a == b) with
   |true=>rfl
   |false =>
    cases ba:brk a with
    |true =>
     cases bb:brk b with
     |true =>
      simp only [cond_true,cond_false,Bool.and_self,Bool.false_or]
      rw [hv ba bb]
      cases (a.drop 1 == [73]) <;> cases (b.drop 1 == [73]) <;> rfl
     |false=>rfl
    |false =>
     simp only [cond_true,cond_false,Bool.false_and,Bool.false_or]
     rw [zlY h hm,zsl h hm]
     simp only [Option.bind_some]
     rw [zpp (by omega),zpp (by omega)]
     simp only [Option.bind_some]
     cases ((zgX L a).any fun y=>b == y) <;> rfl
theorem zAt(h:ze0 l L)(hm:zdz L m):∀(d k:Nat) (a b:Tx),a.length≤d→d<k→Len a→Len b→zzr (fun v0 z=>zbP v0 z.1 z.2.1 z.2.2.1 z.2.2.2) k (L,m,a,b)=some (zt9 L a b)
 |d,0,a,b,hd,hk,ha,hb=>by omega
 |d,k+1,a,b,hd,hk,ha,hb=>by
  show zbP (zzr (fun v0 z=>zbP v0 z.1 z.2.1 z.2.2.1 z.2.2.2) k) L m a b=_
  refine zzL h hm ha hb fun b1 b2=>?_
  have hlen:(a.drop 1).length=a.length-1:=by simp
  have hlen2:(b.drop 1).length=b.length-1:=by simp
  have hpos:0<a.length:=by rw [(zkW b1).2];simp
  cases d with
  |zero=>omega
  |succ d=>exact zAt h hm d k _ _ (by omega) (by omega) (by unfold Len at *;omega) (by unfold Len at *;omega)
theorem zom(h:ze0 l L)(hm:zdz L m){a b:Tx}(ha:a.length≤25)(hb:Len b):zcz L m a b=some (zt9 L a b):=by
 unfold zcz zBp
 rw [zAt h hm 25 30 a b ha (by omega) (by unfold Len;omega) hb]
theorem zuh(l:List Tx)(n:Tx):(l.any fun y=>y == n)=l.any fun y=>n == y:=by
 congr 1
 funext y
 exact zBO _ _
theorem znb{T:List Tx}(h:ze0 l L)(hT:∀x∈T,zda L x=true){b:Tx}(hb:zcy b=false):(T.any fun y=>b == y)=false:=by
 rw [List.any_eq_false]
 intro y hy e
 have:=zj3 h (hT y hy)
 rw [←eq_of_beq e,hb] at this
 cases this
theorem znh(h:ze0 l L){n x:Tx}(hx:x∈ze4 L n):zda L x=true:=zrY h (zsm.1 hx).1
theorem zts{n:Tx}(hn:zda L n=false):ze4 L n=[]:=by
 unfold ze4 zk9
 rw [zlX hn];rfl
theorem zmq{b:Tx}(hb:brk b=true):zcy b=false:=by
 cases h:zcy b with
 |false=>rfl
 |true=>rw [zjP h] at hb;cases hb
theorem zpl:zcy [73]=false:=by
 cases h:zcy [73] with
 |false=>rfl
 |true=>exact absurd (zyT h) (by simp)
theorem zv1(h:ze0 l L){v0:(List za)×Tx×Tx→Option Bool}{a b:Tx}(ha:a.length≤800)(hb:b.length≤800)
  (hv:brk a=true→brk b=true→v0 (L,a.drop 1,b.drop 1)=some (zt9 L (a.drop 1) (b.drop 1))):zbR v0 L a b=some (zt9 L a b):=by
 unfold zbR
 rw [zd8 h (by omega),zd8 h (by omega),zua]
 cases ta:thN L a with
 |false=>rfl
 |true =>
  cases tb:thN L b with
  |false=>rfl
  |true =>
   simp only [Option.bind_some,Bool.not_true,cond_false,Bool.true_and]
   obtain ⟨k1,e1,f1⟩:=zq5 (t:=a) (by omega) (zyj ta)
   obtain ⟨k2,e2,f2⟩:=zq5 (t:=b) (by omega) (zyj tb)
   rw [e1,e2]
   simp only [Option.bind_some]
   cases hab:(a == b) with
   |true=>rfl
   |false =>
    rw [f1,f2]
    simp only [cond_false,Bool.false_or]
    cases ba:brk a with
    |true =>
     cases bb:brk b with
     |true =>
      simp only [cond_true,cond_false,Bool.not_true,Bool.and_self,Bool.false_and]
      rw [show (1:Int)=((1:Nat):Int) from rfl,zio (by rw [(zkW ba).2];simp),zio (by rw [(zkW bb).2];simp)]
      simp only [Option.bind_some]
      rw [hv ba bb]
      cases (a.drop 1 == [73]) <;> cases (b.drop 1 == [73]) <;> rfl
     |false =>
      simp only [cond_true,cond_false,Bool.not_true,Bool.not_false,Bool.false_and]
      rw [zps bb];rfl
    |false =>
     cases bb:brk b with
     |true =>
      simp only [cond_true,cond_false,Bool.not_true,Bool.not_false,Bool.and_false]
      rw [znb (T:=zgX L a) h (fun x hx=>(zkV h _ a x hx).1) (zmq bb),znb (T:=ze4 L a) h (fun x hx=>znh h hx) (zmq bb)];rfl
     |false =>
      simp only [cond_true,cond_false,Bool.not_false,Bool.and_self]
      rw [zps ba,zps bb]
      have h1:=zg7 h a
      have h2:=zni h a
      cases hI:(a == [73]) with
      |true =>
       have e:a=[73]:=by simpa using hI
       have hn:zda L a=false:=by
        cases hh:zda L a with
        |false=>rfl
        |true=>have:=zj3 h hh;rw [e,zpl] at this;cases this
       rw [zlX hn,zts hn];rfl
      |false =>
       cases hI2:(b == [73]) with
       |true =>
        have e:b=[73]:=by simpa using hI2
        have hc:zcy b=false:=by rw [e];exact zpl
        rw [znb (T:=zgX L a) h (fun x hx=>(zkV h _ a x hx).1) hc,znb (T:=ze4 L a) h (fun x hx=>znh h hx) hc];rfl
       |false =>
        simp only [Bool.not_false,Bool.and_self,cond_true]
        rw [zhT h,zoH h]
        simp only [Option.bind_some]
        rw [zmc (by omega),zmc (by omega),zuh,zuh]
        simp only [Option.bind_some]
        cases ((zgX L a).any fun y=>b == y) <;> rfl
theorem zu0(h:ze0 l L):∀(d k:Nat) (a b:Tx),a.length≤d→d<k→a.length≤800→b.length≤800→zzr (fun v0 z=>zbR v0 z.1 z.2.1 z.2.2) k (L,a,b)=some (zt9 L a b)
 |d,0,a,b,hd,hk,ha,hb=>by omega
 |d,k+1,a,b,hd,hk,ha,hb=>by
  show zbR (zzr (fun v0 z=>zbR v0 z.1 z.2.1 z.2.2) k) L a b=_
  refine zv1 h ha hb fun b1 b2=>?_
  have hlen:(a.drop 1).length=a.length-1:=by simp
  have hlen2:(b.drop 1).length=b.length-1:=by simp
  have hpos:0<a.length:=by rw [(zkW b1).2];simp
  cases d with
  |zero=>omega
  |succ d=>exact zu0 h d k _ _ (by omega) (by omega) (by omega) (by omega)
theorem zqT(h:ze0 l L){a b:Tx}(ha:a.length≤25)(hb:b.length≤800):zft L a b=some (zt9 L a b):=by
 unfold zft zBp
 rw [zu0 h 25 30 a b ha (by omega) (by omega) hb]
end
abbrev I64(n:Int):Prop:=-9223372036854775808≤n∧n≤9223372036854775807
abbrev FS(s:List UInt8):Prop:=s.length≤10000
structure FL{α:Type}(Q:α→Prop)(l:List α):Prop where
 len:l.length≤10000
 all:∀x∈l,Q x
structure zzW(f:zt):Prop where
 name:FS f.Name
 type:FS f.Type_
structure zC1(x:zp):Prop where
 op:I64 x.Op
 a:I64 x.A
 c:FS x.C
 m:FS x.M
structure zC2(x:z8):Prop where
 pl:I64 x.At
 locals:FL FS x.Locals
 stack:FL FS x.Stack
structure zBI(x:zaF):Prop where
 lo:I64 x.From
 hi:I64 x.To
 pl:I64 x.At
 c:FS x.C
structure zAy(m:zc):Prop where
 name:FS m.Name
 params:FL FS m.Params
 ret:FS m.Ret
 locals:I64 m.Locals
 stack:I64 m.Stack
 code:FL zC1 m.Code
 maps:FL zC2 m.Maps
 traps:FL zBI m.Traps
structure zmm(c:za):Prop where
 name:FS c.Name
 super:FS c.Super
 impl:FL FS c.Impl
 fields:FL zzW c.Fields
 methods:FL zAy c.Methods
theorem FL.le{α:Type}{Q:α→Prop}{l:List α}(h:FL Q l):zkg l:=by have:=h.len;unfold zkg;omega
theorem FS.le{s:List UInt8}(h:FS s):Len s:=by unfold FS at h;unfold Len;omega
theorem zmm.cg{c:za}(h:zmm c):zzV c where
 name:=h.name.le
 super:=h.super.le
 impl:=⟨h.impl.le,fun s hs=>(h.impl.all s hs).le⟩
 fields:=⟨h.fields.le,fun f hf=>⟨(h.fields.all f hf).name.le,(h.fields.all f hf).type.le⟩⟩
 methods:=⟨h.methods.le,fun m hm=>by
  have g:=h.methods.all m hm
  have g1:=g.params.len
  have g2:=g.code.len
  have g3:=g.maps.len
  have g4:=g.traps.len
  exact ⟨g.name.le,⟨by omega,fun s hs=>(g.params.all s hs).le⟩,g.ret.le,
   ⟨g.maps.le,g.code.le,fun x hx=>⟨⟨(g.maps.all x hx).locals.le,fun s hs=>((g.maps.all x hx).locals.all s hs).le⟩,(g.maps.all x hx).stack.le,fun s hs=>((g.maps.all x hx).stack.all s hs).le⟩⟩,
   ⟨⟨g.code.le,fun x hx=>⟨(g.code.all x hx).c.le,(g.code.all x hx).m.le⟩⟩,⟨g.traps.le,fun x hx=>(g.traps.all x hx).c.le⟩⟩,⟨by omega,by omega,by omega⟩⟩⟩
theorem zeI{s:List UInt8}{n:Nat}:zcS s (n:Int)=some (s.take n):=by
 unfold zcS
 by_cases h:n<s.length
 ·rw [decide_eq_true (show (n:Int)<(s.length:Int) by omega),zn1 (by omega)];rfl
 ·rw [decide_eq_false (show ¬(n:Int)<(s.length:Int) by omega),List.take_of_length_le (by omega)];rfl
theorem zjl{α β R:Type}{body:List β×Int→Option (Sum (List β×Int) (Sum (List β) R))}{l:List α}{n:Nat}{f:α→β}(hn:n≤1000)
  (hb:∀acc (i:Nat) x,l[i]?=some x→i<n→acc.length=i→body (acc,(i:Int))=some (.inl (acc++[f x],IntKind.i64.wrap ((i:Int)+1))))
  (he:∀acc (i:Nat),(decide ((i:Int)<(l.length:Int))&&decide ((i:Int)<(n:Int)))=false→body (acc,(i:Int))=some (.inr (.inl acc))):zw body ([],0)=some (.inl ((l.take n).map f)):=by
 have key:∀d i,(l.take n).length-i=d→i≤(l.take n).length→zw body (((l.take n).take i).map f,(i:Int))=some (.inl ((l.take n).map f)):=by
  intro d
  induction d with
  |zero =>
   intro i hd hi
   have e:i=(l.take n).length:=by omega
   rw [zN,he _ i (by
    rw [List.length_take] at e
    rw [Bool.and_eq_false_iff]
    rcases Nat.le_total n l.length with h |h
    ·exact .inr (decide_eq_false (by omega))
    ·exact .inl (decide_eq_false (by omega))),e,List.take_length]
   rfl
  |succ d ih =>
   intro i hd hi
   have hlt:i<(l.take n).length:=by omega
   have h2:i<n∧i<l.length:=by rw [List.length_take] at hlt;omega
   have hx:l[i]?=some l[i]:=List.getElem?_eq_getElem h2.2
   rw [zN,hb _ i l[i] hx h2.1 (by rw [List.length_map,List.length_take];omega),zaz (by omega)]
   have:=ih (i+1) (by omega) (by omega)
   rw [List.take_add_one,List.getElem?_take_of_lt h2.1,hx] at this
   simp only [Option.toList_some,List.map_append,List.map_cons,List.map_nil] at this
   exact this
 exact key _ 0 rfl (Nat.zero_le _)
theorem more{α:Type}{l:List α}{n i:Nat}{x:α}(h:l[i]?=some x)(hi:i<n):(decide ((i:Int)<(l.length:Int))&&decide ((i:Int)<(n:Int)))=true:=by
 rw [zgm h,decide_eq_true (by omega)];rfl
def zC5(f:zt):zt:=zt.mk (f.Name.take 10) (f.Type_.take 12) f.Static
def zCI(x:zp):zp:=zp.mk x.Op x.A (x.C.take 14) (x.M.take 12)
def zz7(n:Nat)(l:List (List UInt8)):List (List UInt8):=(l.take n).map (·.take 12)
def zz6(x:z8):z8:=z8.mk x.At (zz7 20 x.Locals) (zz7 20 x.Stack)
def zC6(x:zaF):zaF:=zaF.mk x.From x.To x.At (x.C.take 10)
def zCp(m:zc):zc:=zc.mk (m.Name.take 10) (zz7 8 m.Params) (m.Ret.take 12) m.Static m.Abstract m.Locals m.Stack ((m.Code.take 104).map zCI) ((m.Maps.take 104).map zz6) ((m.Traps.take 8).map zC6)
def zz5(c:za):za:=za.mk (c.Name.take 10) (c.Super.take 10) c.Interface (zz7 6 c.Impl) ((c.Fields.take 10).map zC5) ((c.Methods.take 10).map zCp)
theorem ziP{l:List (List UInt8)}{n:Nat}(hn:n≤100):zeq l (n:Int)=some (zz7 n l):=by
 unfold zeq
 rw [show zw (fun z=>zex l (n:Int) z.1 z.2) ([],0)=some (.inl (zz7 n l)) from zjl (by omega) (fun acc i x hx hi ha=>by
  show zex l (n:Int) acc (i:Int)=_
  unfold zex
  rw [more hx hi,zD,hx]
  simp only [Option.bind_some,cond_true]
  rw [show zcS x 12=_ from zeI (n:=12),Option.bind_some,zdm (by simp;omega) (by simp;omega)];rfl) (fun acc i h=>by
  show zex l (n:Int) acc (i:Int)=_
  unfold zex
  rw [h];rfl)]
 rfl
theorem ztD(x:zp):zns x=some (zCI x):=by
 unfold zns
 rw [show zcS x.C 14=_ from zeI (n:=14),show zcS x.M 12=_ from zeI (n:=12)];rfl
theorem zqi(m:zc):zi9 m=some (zCp m):=by
 unfold zi9
 rw [show zcS m.Name 10=_ from zeI (n:=10),show zcS m.Ret 12=_ from zeI (n:=12),show zeq m.Params 8=_ from ziP (n:=8) (by decide)]
 simp only [Option.bind_some]
 rw [show zw (fun z=>zd5 m z.1 z.2) ([],0)=some (.inl ((m.Code.take 104).map zCI)) from zjl (by decide) (fun acc i x hx hi ha=>by
  show zd5 m acc (i:Int)=_
  unfold zd5
  rw [show (decide ((i:Int)<(m.Code.length:Int))&&decide ((i:Int)<104))=true from more hx hi,zD,hx]
  simp only [Option.bind_some,cond_true]
  rw [ztD,Option.bind_some,zdm (by simp;omega) (by simp;omega)];rfl) (fun acc i h=>by
  show zd5 m acc (i:Int)=_
  unfold zd5
  rw [show (decide ((i:Int)<(m.Code.length:Int))&&decide ((i:Int)<104))=false from h];rfl)]
 simp only [Option.bind_some]
 show zgK m _ _ _ _=_
 unfold zgK
 rw [show zw (fun z=>zd6 m z.1 z.2) ([],0)=some (.inl ((m.Maps.take 104).map zz6)) from zjl (by decide) (fun acc i x hx hi ha=>by
  show zd6 m acc (i:Int)=_
  unfold zd6
  rw [show (decide ((i:Int)<(m.Maps.length:Int))&&decide ((i:Int)<104))=true from more hx hi,zD,hx]
  simp only [Option.bind_some,cond_true]
  rw [show zeq x.Locals 20=_ from ziP (n:=20) (by decide),show zeq x.Stack 20=_ from ziP (n:=20) (by decide)]
  simp only [Option.bind_some]
  rw [zdm (by simp;omega) (by simp;omega)];rfl) (fun acc i h=>by
  show zd6 m acc (i:Int)=_
  unfold zd6
  rw [show (decide ((i:Int)<(m.Maps.length:Int))&&decide ((i:Int)<104))=false from h];rfl)]
 simp only [Option.bind_some]
 show zgL m _ _ _ _ _=_
 unfold zgL
 rw [show zw (fun z=>zd7 m z.1 z.2) ([],0)=some (.inl ((m.Traps.take 8).map zC6)) from zjl (by decide) (fun acc i x hx hi ha=>by
  show zd7 m acc (i:Int)=_
  unfold zd7
  rw [show (decide ((i:Int)<(m.Traps.length:Int))&&decide ((i:Int)<8))=true from more hx hi,zD,hx]
  simp only [Option.bind_some,cond_true]
  rw [show zcS x.C 10=_ from zeI (n:=10),Option.bind_some,zdm (by simp;omega) (by simp;omega)];rfl) (fun acc i h=>by
  show zd7 m acc (i:Int)=_
  unfold zd7
  rw [show (decide ((i:Int)<(m.Traps.length:Int))&&decide ((i:Int)<8))=false from h];rfl)]
 rfl
theorem ztH(c:za):znu c=some ((zz5 c).Name,(zz5 c).Super,(zz5 c).Impl,(zz5 c).Fields,(zz5 c).Methods):=by
 unfold znu
 rw [show zcS c.Name 10=_ from zeI (n:=10),show zcS c.Super 10=_ from zeI (n:=10),show zeq c.Impl 6=_ from ziP (n:=6) (by decide)]
 simp only [Option.bind_some]
 rw [show zw (fun z=>zf1 c z.1 z.2) ([],0)=some (.inl ((c.Fields.take 10).map zC5)) from zjl (by decide) (fun acc i x hx hi ha=>by
  show zf1 c acc (i:Int)=_
  unfold zf1
  rw [show (decide ((i:Int)<(c.Fields.length:Int))&&decide ((i:Int)<10))=true from more hx hi,zD,hx]
  simp only [Option.bind_some,cond_true]
  rw [show zcS x.Name 10=_ from zeI (n:=10),show zcS x.Type_ 12=_ from zeI (n:=12)]
  simp only [Option.bind_some]
  rw [zdm (by simp;omega) (by simp;omega)];rfl) (fun acc i h=>by
  show zf1 c acc (i:Int)=_
  unfold zf1
  rw [show (decide ((i:Int)<(c.Fields.length:Int))&&decide ((i:Int)<10))=false from h];rfl)]
 simp only [Option.bind_some]
 show zi8 c _ _ _ _=_
 unfold zi8
 rw [show zw (fun z=>zf2 c z.1 z.2) ([],0)=some (.inl ((c.Methods.take 10).map zCp)) from zjl (by decide) (fun acc i x hx hi ha=>by
  show zf2 c acc (i:Int)=_
  unfold zf2
  rw [show (decide ((i:Int)<(c.Methods.length:Int))&&decide ((i:Int)<10))=true from more hx hi,zD,hx]
  simp only [Option.bind_some,cond_true]
  rw [zqi,Option.bind_some,zdm (by simp;omega) (by simp;omega)];rfl) (fun acc i h=>by
  show zf2 c acc (i:Int)=_
  unfold zf2
  rw [show (decide ((i:Int)<(c.Methods.length:Int))&&decide ((i:Int)<10))=false from h];rfl)]
 rfl
theorem zsq{n:Int}(h:wI .i64 n):I64 n:=by
 have h:(Lit.int .i64 n).wf=true:=h
 unfold Lit.wf at h
 simp [IntKind.min,IntKind.max,IntKind.bits,IntKind.signed] at h
 exact ⟨by omega,by omega⟩
theorem FS.take(s:List UInt8){n:Nat}(hn:n≤100):FS (s.take n):=by unfold FS;rw [List.length_take];omega
theorem zrd{l:List (List UInt8)}{n:Nat}(hn:n≤100):FL FS (zz7 n l):=by
 refine ⟨by unfold zz7;rw [List.length_map,List.length_take];omega,fun x hx=>?_⟩
 obtain ⟨y,_,rfl⟩:=List.mem_map.1 hx
 exact FS.take y (by decide)
theorem zpq{α:Type}{Q:α→Prop}{l:List α}{f:α→α}{n:Nat}(hn:n≤200)(h:∀x∈l,Q (f x)):FL Q ((l.take n).map f):=by
 refine ⟨by rw [List.length_map,List.length_take];omega,fun x hx=>?_⟩
 obtain ⟨y,hy,rfl⟩:=List.mem_map.1 hx
 exact h y (List.mem_of_mem_take hy)
theorem zAO{m:zc}(h:zoo m):zAy (zCp m):=by
 obtain ⟨_,_,_,_,_,h1,h2,h3,h4,h5⟩:=h
 exact ⟨FS.take _ (by decide),zrd (by decide),FS.take _ (by decide),zsq h1,zsq h2,
  zpq (by decide) fun x hx=>⟨zsq (h3.2 x hx).1,zsq (h3.2 x hx).2.1,FS.take _ (by decide),FS.take _ (by decide)⟩,
  zpq (by decide) fun x hx=>⟨zsq (h4.2 x hx).1,zrd (by decide),zrd (by decide)⟩,
  zpq (by decide) fun x hx=>⟨zsq (h5.2 x hx).1,zsq (h5.2 x hx).2.1,zsq (h5.2 x hx).2.2.1,FS.take _ (by decide)⟩⟩
theorem zAN{c:za}(h:zkf c):zmm (zz5 c):=by
 obtain ⟨_,_,_,_,_,h1⟩:=h
 exact ⟨FS.take _ (by decide),FS.take _ (by decide),zrd (by decide),zpq (by decide) fun x hx=>⟨FS.take _ (by decide),FS.take _ (by decide)⟩,zpq (by decide) fun x hx=>zAO (h1.2 x hx)⟩
def zCF(l:List za):List za:=(l.take 18).map zz5
theorem ztF(l:List za):znt l=some (zCF l):=by
 unfold znt
 rw [show zw (fun z=>zf0 l z.1 z.2) ([],0)=some (.inl (zCF l)) from zjl (by decide) (fun acc i x hx hi ha=>by
  show zf0 l acc (i:Int)=_
  unfold zf0
  rw [show (decide ((i:Int)<(l.length:Int))&&decide ((i:Int)<18))=true from more hx hi,zD,hx]
  simp only [Option.bind_some,cond_true]
  rw [ztH,Option.bind_some,zdm (by simp;omega) (by simp;omega)];rfl) (fun acc i h=>by
  show zf0 l acc (i:Int)=_
  unfold zf0
  rw [show (decide ((i:Int)<(l.length:Int))&&decide ((i:Int)<18))=false from h];rfl)]
 rfl
structure zBK(c:za):Prop where
 fc:zmm c
 name:c.Name.length≤10
 super:c.Super.length≤10
 impl:∀s∈c.Impl,s.length≤12
theorem zvu{c:za}(h:zkf c):zBK (zz5 c):=by
 refine ⟨zAN h,?_,?_,fun s hs=>?_⟩
 ·show (c.Name.take 10).length≤10;rw [List.length_take];omega
 ·show (c.Super.take 10).length≤10;rw [List.length_take];omega
 ·obtain ⟨y,_,rfl⟩:=List.mem_map.1 (show s∈(c.Impl.take 6).map (·.take 12) from hs)
  rw [List.length_take];omega
theorem zvm{l:List za}(h:∀c∈l,zkf c):∀c∈zCF l,zBK c:=fun c hc=>by
 obtain ⟨d,hd,rfl⟩:=List.mem_map.1 hc
 exact zvu (h d (List.mem_of_mem_take hd))
theorem zyO{α R:Type}{body:Int→Option (Sum Int (Sum Unit R))}{l:List α}
  (hb:∀(i:Nat) x,l[i]?=some x→body (i:Int)=some (.inl ((i+1:Nat):Int)))
  (he:body (l.length:Int)=some (.inr (.inl ()))):zw body 0=some (.inl ()):=by
 have:=zeR (body:=body) (l:=l) (g:=fun _=>none) (u:=()) (fun i x hx=>hb i x hx) he
 rw [this]
 have:l.findSome? (fun _=>(none:Option R))=none:=by
  induction l with
  |nil=>rfl
  |cons x l ih=>simp
 rw [this];rfl
section
variable {l L : List za} {m : List (Tx × Int)}
end
section
variable {l L : List za} {m : List (Tx × Int)}
theorem zBU:∀c∈giv,zmm c:=by
 intro c hc
 have hg:giv.all (fun c=>decide (c.Name.length≤10)&&decide (c.Super.length≤10)&&(c.Impl == [])&&decide (c.Fields.length=0)&&decide (c.Methods.length=0))=true:=by decide +kernel
 have:=List.all_eq_true.1 hg c hc
 simp only [Bool.and_eq_true,decide_eq_true_eq,beq_iff_eq] at this
 obtain ⟨⟨⟨⟨h1,h2⟩,h3⟩,h4⟩,h5⟩:=this
 refine ⟨by unfold FS;omega,by unfold FS;omega,⟨by rw [h3];simp,fun s hs=>by rw [h3] at hs;cases hs⟩,⟨by omega,fun s hs=>?_⟩,⟨by omega,fun s hs=>?_⟩⟩
 ·rw [List.eq_nil_of_length_eq_zero h4] at hs;cases hs
 ·rw [List.eq_nil_of_length_eq_zero h5] at hs;cases hs
theorem zBd(h:ze0 l L)(hs:∀c∈l,zmm c):∀c∈L,zmm c:=by
 intro c hc
 rw [h.app] at hc
 rcases List.mem_append.1 hc with e |e
 ·exact zBU c e
 ·exact hs c e
def zC:za:=za.mk [] [] false [] [] []
theorem zuo(hm:zdz L m)(n:Tx):zaQ L m n=some (match cl L n with |some c=>(c,true) |none=>(zC,false)):=by
 show cond (!(zbQ L m n)) (some (zC,false)) ((zcZ L m n).bind fun v4=>some (v4,true))=_
 unfold zbQ
 rw [hm.has]
 cases hc:cl L n with
 |none=>rw [zmH hc];rfl
 |some c=>rw [zhq hc,zqJ hm (zhq hc),hc];rfl
end
section
variable {l L : List za} {m : List (Tx × Int)}
theorem Rc.trans{nx:Tx→List Tx}{a b c:Tx}(h:Rc nx a b)(k:Rc nx b c):Rc nx a c:=by
 induction h with
 |one h=>exact .more h k
 |more h _ ih=>exact .more h (ih k)
end

end
end Go.Proofs.YtjbdfkapnffjnaaGreat
