/- What the proofs of this seat's laws rest on: how the program's functions compute, each for every input. No further condition. Part 4 of 6. -/
import Derived.Test.YtjbdfkapnffjnaaGreatVg3
namespace Go.Proofs.YtjbdfkapnffjnaaGreat
noncomputable section
open List (length map)
set_option linter.unusedSimpArgs false
set_option linter.unusedVariables false
set_option maxRecDepth 100000
set_option maxHeartbeats 4000000
def zcv(c:List za)(d:T2)(e:T0)(f:zc)(g:T1)(h:T1)(i:Bool):Option (T0×T1×Bool):=
  (zah c d e f g h i).bind fun a=>(cond (a.1 == [78]) (some true) ((zhr a.1).bind fun j=>some j)).bind fun b=>some (a.1,a.2.1,(a.2.2||(!b)))
theorem zcW(c:List za)(d:T2)(e:T0)(f:zc)(a:T1)(n:T1)(o:Bool){r:T0×T1×Bool}(h:zcv c d e f a n o=some r):SC Tryz.prog 143 [.mpt 0 0 0] [.one 15 (vK c d e f (.msl 1 0 (length a)) (.msl 2 0 (length n)) (bA o)),.many 1 (map zm a),.many 1 (map zm n)] (sA r.1) [.one 15 (vK c d e f (.msl 1 0 (length a)) (.msl 2 0 (length r.2.1)) (bA r.2.2)),.many 1 (map zm a),.many 1 (map zm r.2.1)]:=by
 refine ⟨⟨t,zhi (sz:=1) (fun _=>y),zhi (sz:=1) (fun _=>y),t⟩,zbE Tryz.func143 y kz y ?_⟩
 unfold zcv at h
 refine rg y<|u<|asg y<|zb ?_
 obtain ⟨b,p,h⟩:=bs h
 refine rg y<|u<|mv y<|u<|sx [0,1,2] (zaF c d e f a n o p)<|zK (env0:=[(0,.mpt 0 0 0),(5,sA b.1)]) (st0:=[some (15,[(vK c d e f (.msl 1 0 (length a)) (.msl 2 0 (length b.2.1)) (bA b.2.2))]),some (1,map zm a),some (1,map zm b.2.1)]) (zq [.old 0,.old 1,.old 2])<|u<|asg y<|zb ?_
 obtain ⟨l,i,h⟩:=bs h
 refine rg y<|u<|mv y<|u<|mv y<|u<|seq ti y y<|u<|mv y<|ze6 (x:=l) (j:=3) 2 y y y y y gpn (fun m=>by replace i:=bF m i;obtain ⟨s,q,i⟩:=bs i;obtain rfl:=sm i;exact g y m<|mv y<|g y m<|pc (zii b.1 q) y y y<|zb (eg [10,11] 2 y y y y)) (fun hb=>(sm (bT hb i)).symm)<|u<|sx [0,1,2] (zo c d e f a b.2.1 b.2.2 l y)<|zK (env0:=[(3,sA b.1)]) (st0:=[some (15,[(vK c d e f (.msl 1 0 (length a)) (.msl 2 0 (length b.2.1)) (bA (b.2.2||(!l))))]),some (1,map zm a),some (1,map zm b.2.1)]) (zq [.old 0,.old 1,.old 2])<|zb ?_
 refine rg y<|u<|mv y<|u<|asg y<|zb ?_
 refine zg ?_
 obtain rfl:=sm h
 exact ⟨_,y,zB [.old 0,.old 1,.old 2]⟩
def zgA:Option (T0×zh×Bool):=
  some ([],(zh.mk [] [] false),false)
def zcy(g:List za)(h:T2)(i:T0)(e:T1)(a:Int):Option (Sum (Int) (Sum (Unit) (T0×zh×Bool))):=
  cond (decide (a<((length e):Int))) ((idx e a).bind fun b=>(zE g h b).bind fun c=>(zgS c.1 i).bind fun d=>cond (decide (0≤d)) ((idx c.1.Fields d).bind fun f=>some (.inr (.inr (b,f,true)))) (some (.inl (IntKind.i64.wrap (a+1))))) (some (.inr (.inl ())))
def zeY(a:List za)(c:T2)(d:T0)(e:T0):Option (T0×zh×Bool):=
  (zai a c d).bind fun f=>(zz (fun z=>zcy a c e f z) 0).bind fun o=>zaq o (fun b=>zgA) some
theorem zgB(a:List za)(c:T2)(p:T0)(f:T0){r:T0×zh×Bool}(h:zeY a c p f=some r):zu Tryz.prog 162 [.ipt 2 [[.isl 6 (map zd a),.imp (map (rKV (fun x=>iA x)) c)]] 0 0,sA p,sA f] (.tup [sA r.1,.agg (zN r.2.1),bA r.2.2]):=by
 refine zl Tryz.func162 y kz y y ?_
 unfold zeY at h
 refine rg y<|u<|asg y<|u<|al 0 ti y<|u<|asg y<|zb ?_
 refine zj ?_
 obtain ⟨g,C,h⟩:=bs h
 refine rg y<|u<|mv y<|u<|mv y<|u<|sx [] (za7 a c p C)<|zK (env0:=[(0,.ipt 2 [[.isl 6 (map zd a),.imp (map (rKV (fun x=>iA x)) c)]] 0 0),(2,sA f),(7,.mpt 0 0 0),(16,.msl 1 0 (length g))]) (st0:=[some (3,[[sA [],sA [],bA false]]),some (1,map zm g)]) (zq [.old 0,.old 1])<|u<|lnM ti y y y<|u<|mv y<|zb ?_
 obtain ⟨o,ho,h⟩:=bs h
 refine zaN (X:=Int) (B:=Unit) (R:=T0×zh×Bool) (fun z=>[(0,.ipt 2 [[.isl 6 (map zd a),.imp (map (rKV (fun x=>iA x)) c)]] 0 0),(2,sA f),(7,.mpt 0 0 0),(16,.msl 1 0 (length g)),(17,iA ((length g):Int)),(18,iA z)]) (fun z=>[some (3,[[sA [],sA [],bA false]]),some (1,map zm g)]) (fun b=>[(7,.mpt 0 0 0)]) (fun b=>[some (3,[[sA [],sA [],bA false]])]) (fun r env st=>zb6 Tryz.prog Tryz.f162 0 (.tup [sA r.1,.agg (zN r.2.1),bA r.2.2]) [] env st) ho (zq [.old 0,.old 1]) ?_ ?_ ?_
 ·
  rintro q r h
  replace h:zcy a c f g q=some r:=h
  unfold zcy at h
  refine rg y<|u<|lss ti y y<|zb ?_
  refine zj ?_
  refine zf y (fun i=>?_) (fun i=>?_)
  ·
   replace h:=bT i h
   refine zi ?_
   refine zj ?_
   refine zr ?_
   obtain ⟨e,s,h⟩:=bs h
   refine rg y<|u<|ixM ti y ti y y y y s<|u<|ldM ti y y (zp s).2.2 y<|u<|asg y<|zb ?_
   obtain ⟨j,v,h⟩:=bs h
   refine rg y<|u<|mv y<|u<|mv y<|u<|pc (zG a c e v) y y y<|u<|mv y<|u<|ex y y<|u<|ex y y<|u<|al 2 ti y<|u<|sto ti y y y<|u<|asg y<|zb ?_
   obtain ⟨l,A,h⟩:=bs h
   refine rg y<|u<|ld ti y y<|u<|mv y<|u<|pc (zml j.1 f A) y y y<|u<|asg y<|zb ?_
   refine rg y<|u<|mv y<|u<|geq ti y y<|zb ?_
   refine zf y (fun d=>?_) (fun d=>?_)
   ·
    replace h:=bT d h
    obtain ⟨m,n,h⟩:=bs h
    refine rdA [(6,sA e),(7,.mpt 0 0 0),(8,bA true)] [some (3,[(zN m)])] [7] [6,5,4,3,2,1,0] [(6,sA e),(38,.agg (zN m)),(37,.ipt 3 (map zN j.1.Fields) (Int.toNat l) 0),(36,iA l),(35,.isl 3 (map zN j.1.Fields)),(34,.mpt 2 0 4),(33,sA e)] 1 (ziH ⟨pe,(pb y (ldI ti y (zp n).2.2 y w)),(pb y (ixI ti y ti y y y n w)),pe,pe,pe,pe,t⟩ ⟨(fun _ _=>⟨_,y,y,sto ti y y y<|⟨.any,[8],[(8,bA true)],y,y,kz,t,zlb (zq [.old 0])⟩⟩),t⟩) ?_
    refine zg ?_
    obtain rfl:=sm h
    exact ⟨_,y,_,y,zB []⟩
   ·
    replace h:=bF d h
    refine zi ?_
    refine rl y<|u<|add ti y y<|u<|mv y<|zb ?_
    obtain rfl:=sm h
    exact ⟨_,y,zq [.old 0,.old 1]⟩
  ·
   replace h:=bF i h
   refine zQ ?_
   obtain rfl:=sm h
   exact ⟨y,_,y,zq [.old 0]⟩
 ·
  rintro ⟨⟩ rfl
  replace h:zgA=some r:=h
  unfold zgA at h
  refine zD ?_
  refine rg y<|u<|bd ti y y y<|u<|asg y<|u<|sto ti y y y<|u<|asg y<|zb ?_
  refine zg ?_
  obtain rfl:=sm h
  exact ⟨_,y,zB []⟩
 ·
  rintro r' rfl env st hp
  obtain rfl:=sm h
  exact hp
def zfb(c:List za)(d:T2)(f:T0)(g:zc)(h:T1)(i:T1)(e:Bool)(b:zn):Option (T1×Bool):=
  cond (b.Op == (37:Int)) ((zE c d b.C).bind fun l=>(zt c d f g h i (e||(!(l.2&&(!l.1.Interface)))) b.C).bind fun o=>some (o,(e||(!(l.2&&(!l.1.Interface)))))) ((zeY c d b.C b.M).bind fun a=>cond (b.Op == (38:Int)) ((zv c d f g h i (e||(!(a.2.2&&(a.2.1.Static == ((b.Op == (40:Int))||(b.Op == (41:Int))))))) [b.C]).bind fun j=>(zt c d f g h j.1 j.2 a.2.1.Type_).bind fun p=>some (p,j.2)) (cond (b.Op == (39:Int)) ((zv c d f g h i (e||(!(a.2.2&&(a.2.1.Static == ((b.Op == (40:Int))||(b.Op == (41:Int))))))) [b.C,a.2.1.Type_]).bind fun m=>some (m.1,m.2)) (cond (b.Op == (40:Int)) ((zt c d f g h i (e||(!(a.2.2&&(a.2.1.Static == ((b.Op == (40:Int))||(b.Op == (41:Int))))))) a.2.1.Type_).bind fun q=>some (q,(e||(!(a.2.2&&(a.2.1.Static == ((b.Op == (40:Int))||(b.Op == (41:Int))))))))) ((zv c d f g h i (e||(!(a.2.2&&(a.2.1.Static == ((b.Op == (40:Int))||(b.Op == (41:Int))))))) [a.2.1.Type_]).bind fun n=>some (n.1,n.2)))))
theorem zit(d:List za)(e:T2)(f:T0)(i:zc)(c:T1)(l:T1)(m:Bool)(b:zn){r:T1×Bool}(h:zfb d e f i c l m b=some r):SC Tryz.prog 144 [.mpt 0 0 0,.agg (zx b)] [.one 15 (vK d e f i (.msl 1 0 (length c)) (.msl 2 0 (length l)) (bA m)),.many 1 (map zm c),.many 1 (map zm l)] (.tup []) [.one 15 (vK d e f i (.msl 1 0 (length c)) (.msl 3 0 (length r.1)) (bA r.2)),.many 1 (map zm c),.no,.many 1 (map zm r.1)]:=by
 refine ⟨⟨t,zhi (sz:=1) (fun _=>y),t,zhi (sz:=1) (fun _=>y),t⟩,zbE Tryz.func144 y kz y ?_⟩
 unfold zfb at h
 refine rg y<|u<|bx 3 4 y y y y<|zb ?_
 refine zj ?_
 refine rg y<|u<|fa ti y y y<|u<|ld ti y y<|u<|eql ti y y<|zb ?_
 refine zf y (fun A=>?_) (fun A=>?_)
 ·
  replace h:=bT A h
  obtain ⟨n,I,h⟩:=bs h
  refine rdA [(0,.mpt 0 0 0),(3,.mpt 3 0 0),(4,.mpt 4 0 0),(5,bA n.2)] [some (15,[(vK d e f i (.msl 1 0 (length c)) (.msl 2 0 (length l)) (bA m))]),some (1,map zm c),some (1,map zm l),some (4,[(zx b)]),some (6,[(zd n.1)])] [10,11] [9,8,7,6,5,4,3,2,1,0] [(21,bA n.2),(20,.agg (zd n.1)),(12,.tup [.agg (zd n.1),bA n.2]),(19,.tup [.agg (zd n.1),bA n.2]),(18,sA b.C),(17,.mpt 3 0 2),(16,.ipt 2 [[.isl 6 (map zd d),.imp (map (rKV (fun x=>iA x)) e)]] 0 0),(15,.mpt 0 0 0),(14,.mpt 0 0 0),(13,.mpt 0 0 0)] 2 (ziH ⟨pe,pe,pe,(pb y (pc (zG d e b.C I) y y y w)),pe,pe,pe,pe,pe,pe,t⟩ ⟨(fun _ _=>⟨_,y,y,al 4 ti y<|⟨(.mpt 4 0 0),[],[(4,.mpt 4 0 0)],y,y,kz,y,ziH ⟨pe,pe,pe,(pb y (pc (zG d e b.C I) y y y w)),pe,pe,pe,pe,pe,pe,t⟩ ⟨nv,(fun _ _=>⟨_,y,y,sto ti y y y<|⟨.any,[12],[(5,bA n.2)],y,y,kz,t,zlb (zq [.old 0,.old 1,.old 2,.old 3,.old 4])⟩⟩),t⟩⟩⟩),nw,t⟩) ?_
  refine rg y<|u<|mv y<|u<|mv y<|u<|mv y<|zbq (j:=2) 3 y y y y y gpn (fun v=>g y v<|fa ti y y y<|g y v<|ld ti y y<|g y v<|nt y<|zb (egA [25,26,27] 3 v y y y y)) zhn<|u<|sx [0,1,2] (zo d e f i c l m (n.2&&(!n.1.Interface)) y)<|zK (env0:=[(0,.mpt 0 0 0),(3,.mpt 3 0 0)]) (st0:=[some (15,[(vK d e f i (.msl 1 0 (length c)) (.msl 2 0 (length l)) (bA (m||(!(n.2&&(!n.1.Interface))))))]),some (1,map zm c),some (1,map zm l),some (4,[(zx b)])]) (zq [.old 0,.old 1,.old 2,.old 3])<|zb ?_
  obtain ⟨F,P,h⟩:=bs h
  refine rg y<|u<|mv y<|u<|fa ti y y y<|u<|ld ti y y<|u<|sx [0,1,2] (zs d e f i c l (m||(!(n.2&&(!n.1.Interface)))) b.C P)<|zK (env0:=[]) (st0:=[some (15,[(vK d e f i (.msl 1 0 (length c)) (.msl 3 0 (length F)) (bA (m||(!(n.2&&(!n.1.Interface))))))]),some (1,map zm c),none,some (1,map zm F)]) (zq [.old 0,.old 1,.dead,.old 4])<|zb ?_
  refine zg ?_
  obtain rfl:=sm h
  exact ⟨_,y,zB [.old 0,.old 1,.dead,.old 3]⟩
 ·
  replace h:=bF A h
  refine zi ?_
  obtain ⟨a,J,h⟩:=bs h
  refine rdA [(0,.mpt 0 0 0),(3,.mpt 3 0 0),(7,.mpt 4 0 0),(8,bA a.2.2)] [some (15,[(vK d e f i (.msl 1 0 (length c)) (.msl 2 0 (length l)) (bA m))]),some (1,map zm c),some (1,map zm l),some (4,[(zx b)]),some (3,[(zN a.2.1)])] [13,15] [12,11,10,9,8,7,6,5,4,3,2,1,0] [(46,bA a.2.2),(45,.agg (zN a.2.1)),(44,sA a.1),(34,.tup [sA a.1,.agg (zN a.2.1),bA a.2.2]),(43,.tup [sA a.1,.agg (zN a.2.1),bA a.2.2]),(42,sA b.M),(41,.mpt 3 0 3),(40,sA b.C),(39,.mpt 3 0 2),(38,.ipt 2 [[.isl 6 (map zd d),.imp (map (rKV (fun x=>iA x)) e)]] 0 0),(37,.mpt 0 0 0),(36,.mpt 0 0 0),(35,.mpt 0 0 0)] 2 (ziH ⟨pe,pe,pe,pe,(pb y (pc (zgB d e b.C b.M J) y y y w)),pe,pe,pe,pe,pe,pe,pe,pe,t⟩ ⟨(fun _ _=>⟨_,y,y,al 4 ti y<|⟨(.mpt 4 0 0),[14],[(6,sA a.1),(7,.mpt 4 0 0)],y,y,kz,y,ziH ⟨pe,pe,pe,pe,pe,(pb y (pc (zgB d e b.C b.M J) y y y w)),pe,pe,pe,pe,pe,pe,pe,pe,t⟩ ⟨nv,(fun _ _=>⟨_,y,y,sto ti y y y<|⟨.any,[16],[(8,bA a.2.2)],y,y,kz,t,zlb (zq [.old 0,.old 1,.old 2,.old 3,.old 4])⟩⟩),t⟩⟩⟩),nw,t⟩) ?_
  refine rg y<|u<|mv y<|u<|mv y<|u<|mv y<|zbq (j:=2) 11 y y y y y gpn (fun o=>g y o<|fa ti y y y<|g y o<|ld ti y y<|g y o<|fa ti y y y<|g y o<|ld ti y y<|g y o<|eql ti y y<|g y o<|mv y<|ze6 (j:=8) 3 y y y y y (gps y y o) (fun z=>g y z<|fa ti y y y<|g y z<|ld ti y y<|g y z<|eql ti y y<|zb (egO [56,57,58] 3 z y y y y)) orT<|g y o<|beq ti y y y<|zb (egA [50,51,52,53,54,55,56,57,58,59,60] 8 o y y y y)) zhn<|u<|sx [0,1,2] (zo d e f i c l m (a.2.2&&(a.2.1.Static == ((b.Op == (40:Int))||(b.Op == (41:Int))))) y)<|zK (env0:=[(0,.mpt 0 0 0),(3,.mpt 3 0 0),(7,.mpt 4 0 0)]) (st0:=[some (15,[(vK d e f i (.msl 1 0 (length c)) (.msl 2 0 (length l)) (bA (m||(!(a.2.2&&(a.2.1.Static == ((b.Op == (40:Int))||(b.Op == (41:Int)))))))))]),some (1,map zm c),some (1,map zm l),some (4,[(zx b)]),some (3,[(zN a.2.1)])]) (zq [.old 0,.old 1,.old 2,.old 3,.old 4])<|zb ?_
  refine rg y<|u<|fa ti y y y<|u<|ld ti y y<|zb ?_
  refine zr ?_
  refine rg y<|u<|eql ti y y<|u<|asg y<|zb ?_
  refine zf y (fun B=>?_) (fun B=>?_)
  ·
   replace h:=bT B h
   obtain ⟨p,Q,h⟩:=bs h
   refine rg y<|u<|mv y<|u<|fa ti y y y<|u<|ld ti y y<|u<|bl 5 ti y ti y (by decide) (by decide) y y y<|zK (env0:=[(0,.mpt 0 0 0),(7,.mpt 3 0 0),(72,.mpt 0 0 0),(75,.isl 1 (map zm [b.C]))]) (st0:=[some (15,[(vK d e f i (.msl 1 0 (length c)) (.msl 2 0 (length l)) (bA (m||(!(a.2.2&&(a.2.1.Static == ((b.Op == (40:Int))||(b.Op == (41:Int)))))))))]),some (1,map zm c),some (1,map zm l),some (3,[(zN a.2.1)])]) (zq [.old 0,.old 1,.old 2,.old 4])<|u<|sx [0,1,2] (zw d e f i c l (m||(!(a.2.2&&(a.2.1.Static == ((b.Op == (40:Int))||(b.Op == (41:Int))))))) [b.C] Q)<|zK (env0:=[(0,.mpt 0 0 0),(7,.mpt 3 0 0)]) (st0:=[some (15,[(vK d e f i (.msl 1 0 (length c)) (.msl 2 0 (length p.1)) (bA p.2))]),some (1,map zm c),some (1,map zm p.1),some (3,[(zN a.2.1)])]) (zq [.old 0,.old 1,.old 2,.old 3])<|zb ?_
   obtain ⟨G,K,h⟩:=bs h
   refine rl y<|u<|mv y<|u<|fa ti y y y<|u<|ld ti y y<|u<|sx [0,1,2] (zs d e f i c p.1 p.2 a.2.1.Type_ K)<|zK (env0:=[]) (st0:=[some (15,[(vK d e f i (.msl 1 0 (length c)) (.msl 3 0 (length G)) (bA p.2))]),some (1,map zm c),none,some (1,map zm G)]) (zq [.old 0,.old 1,.dead,.old 4])<|zb ?_
   obtain rfl:=sm h
   exact ⟨_,y,zB [.old 0,.old 1,.dead,.old 3]⟩
  ·
   replace h:=bF B h
   refine rg y<|u<|eql ti y y<|u<|asg y<|zb ?_
   refine zf y (fun q=>?_) (fun q=>?_)
   ·
    replace h:=bT q h
    obtain ⟨D,L,h⟩:=bs h
    refine rl y<|u<|mv y<|u<|fa ti y y y<|u<|ld ti y y<|u<|fa ti y y y<|u<|ld ti y y<|u<|bl 5 ti y ti y (by decide) (by decide) y y y<|zK (env0:=[(83,.mpt 0 0 0),(88,.isl 1 (map zm [b.C,a.2.1.Type_]))]) (st0:=[some (15,[(vK d e f i (.msl 1 0 (length c)) (.msl 2 0 (length l)) (bA (m||(!(a.2.2&&(a.2.1.Static == ((b.Op == (40:Int))||(b.Op == (41:Int)))))))))]),some (1,map zm c),some (1,map zm l)]) (zq [.old 0,.old 1,.old 2])<|u<|sx [0,1,2] (zw d e f i c l (m||(!(a.2.2&&(a.2.1.Static == ((b.Op == (40:Int))||(b.Op == (41:Int))))))) [b.C,a.2.1.Type_] L)<|zK (env0:=[]) (st0:=[some (15,[(vK d e f i (.msl 1 0 (length c)) (.msl 2 0 (length D.1)) (bA D.2))]),some (1,map zm c),some (1,map zm D.1)]) (zq [.old 0,.old 1,.old 2])<|zb ?_
    obtain rfl:=sm h
    exact ⟨_,y,zB [.old 0,.old 1,.dead,.old 2]⟩
   ·
    replace h:=bF q h
    refine rg y<|u<|eql ti y y<|u<|asg y<|zb ?_
    refine zf y (fun s=>?_) (fun s=>?_)
    ·
     replace h:=bT s h
     obtain ⟨H,N,h⟩:=bs h
     refine rl y<|u<|mv y<|u<|fa ti y y y<|u<|ld ti y y<|u<|sx [0,1,2] (zs d e f i c l (m||(!(a.2.2&&(a.2.1.Static == ((b.Op == (40:Int))||(b.Op == (41:Int))))))) a.2.1.Type_ N)<|zK (env0:=[]) (st0:=[some (15,[(vK d e f i (.msl 1 0 (length c)) (.msl 3 0 (length H)) (bA (m||(!(a.2.2&&(a.2.1.Static == ((b.Op == (40:Int))||(b.Op == (41:Int)))))))))]),some (1,map zm c),none,some (1,map zm H)]) (zq [.old 0,.old 1,.dead,.old 5])<|zb ?_
     obtain rfl:=sm h
     exact ⟨_,y,zB [.old 0,.old 1,.dead,.old 3]⟩
    ·
     replace h:=bF s h
     obtain ⟨E,O,h⟩:=bs h
     refine rl y<|u<|mv y<|u<|fa ti y y y<|u<|ld ti y y<|u<|bl 5 ti y ti y (by decide) (by decide) y y y<|zK (env0:=[(65,.mpt 0 0 0),(68,.isl 1 (map zm [a.2.1.Type_]))]) (st0:=[some (15,[(vK d e f i (.msl 1 0 (length c)) (.msl 2 0 (length l)) (bA (m||(!(a.2.2&&(a.2.1.Static == ((b.Op == (40:Int))||(b.Op == (41:Int)))))))))]),some (1,map zm c),some (1,map zm l)]) (zq [.old 0,.old 1,.old 2])<|u<|sx [0,1,2] (zw d e f i c l (m||(!(a.2.2&&(a.2.1.Static == ((b.Op == (40:Int))||(b.Op == (41:Int))))))) [a.2.1.Type_] O)<|zK (env0:=[]) (st0:=[some (15,[(vK d e f i (.msl 1 0 (length c)) (.msl 2 0 (length E.1)) (bA E.2))]),some (1,map zm c),some (1,map zm E.1)]) (zq [.old 0,.old 1,.old 2])<|zb ?_
     obtain rfl:=sm h
     exact ⟨_,y,zB [.old 0,.old 1,.dead,.old 2]⟩
def zdx(a:zc):Bool:=
  (!(a.Name == [36,105,110,105,116]))
theorem zix(a:zc){r:Bool}(h:zdx a=r):zu Tryz.prog 161 [.agg (ze a)] (bA r):=by
 refine zl Tryz.func161 y kz y y ?_
 unfold zdx at h
 refine rg y<|u<|bx 0 10 y y y y<|u<|asg y<|zb ?_
 refine rg y<|u<|fa ti y y y<|u<|ld ti y y<|u<|sne ti y y<|u<|asg y<|zb ?_
 refine zg ?_
 obtain rfl:=h
 exact ⟨_,y,zB []⟩
def zha:Option (T0×zc×Bool):=
  some ([],(zc.mk [] [] [] false false 0 0 [] [] []),false)
def zcS(i:List za)(j:T2)(e:T1)(l:T0)(a:Int):Option (Sum (Int) (Sum (Unit) (T0×zc×Bool))):=
  cond (decide (a<(length e:Int))) ((idx e a).bind fun d=>(zE i j d).bind fun b=>(zdp b.1 l).bind fun c=>(cond (decide (0≤c)) ((idx b.1.Methods c).bind fun f=>some (zdx f)) (some false)).bind fun g=>cond g ((idx b.1.Methods c).bind fun h=>some (.inr (.inr (d,h,true)))) (some (.inl (IntKind.i64.wrap (a+1))))) (some (.inr (.inl ())))
def zeH(a:List za)(c:T2)(d:T1)(e:T0):Option (T0×zc×Bool):=
  (zz (fun z=>zcS a c d e z) 0).bind fun o=>zaq o (fun b=>zha) some
theorem zi1(i:List za)(l:T2)(m:T1)(n:T0){r:T0×zc×Bool}(h:zeH i l m n=some r):zu Tryz.prog 160 [.ipt 2 [[.isl 6 (map zd i),.imp (map (rKV (fun x=>iA x)) l)]] 0 0,.isl 1 (map zm m),sA n,.fn (.func 161) [] []] (.tup [sA r.1,.agg (ze r.2.1),bA r.2.2]):=by
 refine zl Tryz.func160 y kz y y ?_
 unfold zeH at h
 refine rg y<|u<|asg y<|u<|al 0 ti y<|u<|asg y<|zb ?_
 refine zj ?_
 refine rg y<|u<|mv y<|u<|lnI ti y y<|u<|mv y<|zb ?_
 obtain ⟨o,ho,h⟩:=bs h
 refine zaN (X:=Int) (B:=Unit) (R:=T0×zc×Bool) (fun z=>[(0,.ipt 2 [[.isl 6 (map zd i),.imp (map (rKV (fun x=>iA x)) l)]] 0 0),(2,sA n),(3,.fn (.func 161) [] []),(9,.mpt 0 0 0),(16,.isl 1 (map zm m)),(17,iA (length m:Int)),(18,iA z)]) (fun z=>[some (10,[[sA [],.lit (.slice none 0 0),sA [],bA false,bA false,iA 0,iA 0,.lit (.slice none 0 0),.lit (.slice none 0 0),.lit (.slice none 0 0)]])]) (fun b=>[(9,.mpt 0 0 0)]) (fun b=>[some (10,[[sA [],.lit (.slice none 0 0),sA [],bA false,bA false,iA 0,iA 0,.lit (.slice none 0 0),.lit (.slice none 0 0),.lit (.slice none 0 0)]])]) (fun r env st=>zb6 Tryz.prog Tryz.f160 0 (.tup [sA r.1,.agg (ze r.2.1),bA r.2.2]) [] env st) ho (zq [.old 0]) ?_ ?_ ?_
 ·
  rintro D r h
  replace h:zcS i l m n D=some r:=h
  unfold zcS at h
  refine rg y<|u<|lss ti y y<|zb ?_
  refine zj ?_
  refine zf y (fun d=>?_) (fun d=>?_)
  ·
   replace h:=bT d h
   refine zi ?_
   refine zj ?_
   refine zr ?_
   obtain ⟨f,q,h⟩:=bs h
   refine rg y<|u<|ixI ti y ti y y y q<|u<|ldI ti y (zp q).2.2 y<|u<|asg y<|zb ?_
   obtain ⟨p,E,h⟩:=bs h
   refine rg y<|u<|mv y<|u<|mv y<|u<|pc (zG i l f E) y y y<|u<|mv y<|u<|ex y y<|u<|ex y y<|u<|al 1 ti y<|u<|sto ti y y y<|u<|asg y<|zb ?_
   obtain ⟨s,F,h⟩:=bs h
   refine rg y<|u<|ld ti y y<|u<|mv y<|u<|pc (zfK p.1 n F) y y y<|u<|asg y<|zb ?_
   obtain ⟨G,c,h⟩:=bs h
   refine rg y<|u<|mv y<|u<|geq ti y y<|u<|mv y<|zbq (x:=G) (j:=2) 7 y y y y y gpn (fun a=>by replace c:=bT a c;obtain ⟨H,v,c⟩:=bs c;obtain rfl:=sm c;exact g y a<|mv y<|g y a<|fa ti y y y<|g y a<|ld ti y y<|g y a<|mv y<|g y a<|ixI ti y ti y y y v<|g y a<|ldI ti y (zp v).2.2 y<|g y a<|pc (zix H y) y y y<|zb (eg [34,35,36,37,38,39,40] 7 y y y y)) (fun hb=>(sm (bF hb c)).symm)<|zb ?_
   refine zf y (fun e=>?_) (fun e=>?_)
   ·
    replace h:=bT e h
    obtain ⟨A,C,h⟩:=bs h
    refine rdA [(8,sA f),(9,.mpt 0 0 0),(10,bA true)] [some (10,[(ze A)])] [7] [6,5,4,3,2,1,0] [(8,sA f),(47,.agg (ze A)),(46,.ipt 10 (map ze p.1.Methods) (Int.toNat s) 0),(45,iA s),(44,.isl 10 (map ze p.1.Methods)),(43,.mpt 1 0 5),(42,sA f)] 1 (ziH ⟨pe,(pb y (ldI ti y (zp C).2.2 y w)),(pb y (ixI ti y ti y y y C w)),pe,pe,pe,pe,t⟩ ⟨(fun _ _=>⟨_,y,y,sto ti y y y<|⟨.any,[8],[(10,bA true)],y,y,kz,t,zlb (zq [.old 0])⟩⟩),t⟩) ?_
    refine zg ?_
    obtain rfl:=sm h
    exact ⟨_,y,_,y,zB []⟩
   ·
    replace h:=bF e h
    refine zi ?_
    refine rl y<|u<|add ti y y<|u<|mv y<|zb ?_
    obtain rfl:=sm h
    exact ⟨_,y,zq [.old 0]⟩
  ·
   replace h:=bF d h
   refine zQ ?_
   obtain rfl:=sm h
   exact ⟨y,_,y,zq [.old 0]⟩
 ·
  rintro ⟨⟩ rfl
  replace h:zha=some r:=h
  unfold zha at h
  refine zD ?_
  refine rg y<|u<|bd ti y y y<|u<|asg y<|u<|sto ti y y y<|u<|asg y<|zb ?_
  refine zg ?_
  obtain rfl:=sm h
  exact ⟨_,y,zB []⟩
 ·
  rintro r' rfl env st hp
  obtain rfl:=sm h
  exact hp
def zei(b:List za)(c:T2)(d:T0)(e:T0):Option (T0×zc×Bool):=
  (zai b c d).bind fun f=>(zeH b c f e).bind fun a=>some (a.1,a.2.1,a.2.2)
theorem zge(a:List za)(b:T2)(e:T0)(c:T0){r:T0×zc×Bool}(h:zei a b e c=some r):zu Tryz.prog 95 [.ipt 2 [[.isl 6 (map zd a),.imp (map (rKV (fun x=>iA x)) b)]] 0 0,sA e,sA c] (.tup [sA r.1,.agg (ze r.2.1),bA r.2.2]):=by
 refine zl Tryz.func95 y kz y y ?_
 unfold zei at h
 refine rg y<|u<|asg y<|u<|al 0 ti y<|u<|asg y<|zb ?_
 obtain ⟨d,f,h⟩:=bs h
 obtain ⟨i,g,h⟩:=bs h
 refine rg y<|u<|mv y<|u<|mv y<|u<|mv y<|u<|sx [] (za7 a b e f)<|zK (env0:=[(2,sA c),(7,.mpt 0 0 0),(9,.ipt 2 [[.isl 6 (map zd a),.imp (map (rKV (fun x=>iA x)) b)]] 0 0),(12,.msl 1 0 (length d))]) (st0:=[some (10,[[sA [],.lit (.slice none 0 0),sA [],bA false,bA false,iA 0,iA 0,.lit (.slice none 0 0),.lit (.slice none 0 0),.lit (.slice none 0 0)]]),some (1,map zm d)]) (zq [.old 0,.old 1])<|u<|mv y<|zK (env0:=[(7,.mpt 0 0 0),(9,.ipt 2 [[.isl 6 (map zd a),.imp (map (rKV (fun x=>iA x)) b)]] 0 0),(12,.isl 1 (map zm d)),(13,sA c)]) (st0:=[some (10,[[sA [],.lit (.slice none 0 0),sA [],bA false,bA false,iA 0,iA 0,.lit (.slice none 0 0),.lit (.slice none 0 0),.lit (.slice none 0 0)]])]) (zq [.old 0])<|u<|pc (zi1 a b d c g) y y y<|u<|ex y y<|u<|ex y y<|u<|ex y y<|u<|asg y<|u<|sto ti y y y<|u<|asg y<|zb ?_
 refine zg ?_
 obtain rfl:=sm h
 exact ⟨_,y,zB []⟩
def zgd(a:zc):Bool:=
  true
theorem zmA(a:zc){r:Bool}(h:zgd a=r):zu Tryz.prog 234 [.agg (ze a)] (bA r):=by
 refine zl Tryz.func234 y kz y y ?_
 unfold zgd at h
 refine rg y<|u<|bx 0 10 y y y y<|u<|asg y<|zb ?_
 refine rg y<|u<|asg y<|zb ?_
 refine zg ?_
 obtain rfl:=h
 exact ⟨_,y,zB []⟩
def zhb:Option (T0×zc×Bool):=
  some ([],(zc.mk [] [] [] false false 0 0 [] [] []),false)
def zcT(i:List za)(j:T2)(e:T1)(l:T0)(a:Int):Option (Sum (Int) (Sum (Unit) (T0×zc×Bool))):=
  cond (decide (a<(length e:Int))) ((idx e a).bind fun d=>(zE i j d).bind fun b=>(zdp b.1 l).bind fun c=>(cond (decide (0≤c)) ((idx b.1.Methods c).bind fun f=>some (zgd f)) (some false)).bind fun g=>cond g ((idx b.1.Methods c).bind fun h=>some (.inr (.inr (d,h,true)))) (some (.inl (IntKind.i64.wrap (a+1))))) (some (.inr (.inl ())))
def zgs(a:List za)(c:T2)(d:T1)(e:T0):Option (T0×zc×Bool):=
  (zz (fun z=>zcT a c d e z) 0).bind fun o=>zaq o (fun b=>zhb) some
theorem zlX(i:List za)(l:T2)(m:T1)(n:T0){r:T0×zc×Bool}(h:zgs i l m n=some r):zu Tryz.prog 160 [.ipt 2 [[.isl 6 (map zd i),.imp (map (rKV (fun x=>iA x)) l)]] 0 0,.isl 1 (map zm m),sA n,.fn (.func 234) [] []] (.tup [sA r.1,.agg (ze r.2.1),bA r.2.2]):=by
 refine zl Tryz.func160 y kz y y ?_
 unfold zgs at h
 refine rg y<|u<|asg y<|u<|al 0 ti y<|u<|asg y<|zb ?_
 refine zj ?_
 refine rg y<|u<|mv y<|u<|lnI ti y y<|u<|mv y<|zb ?_
 obtain ⟨o,ho,h⟩:=bs h
 refine zaN (X:=Int) (B:=Unit) (R:=T0×zc×Bool) (fun z=>[(0,.ipt 2 [[.isl 6 (map zd i),.imp (map (rKV (fun x=>iA x)) l)]] 0 0),(2,sA n),(3,.fn (.func 234) [] []),(9,.mpt 0 0 0),(16,.isl 1 (map zm m)),(17,iA (length m:Int)),(18,iA z)]) (fun z=>[some (10,[[sA [],.lit (.slice none 0 0),sA [],bA false,bA false,iA 0,iA 0,.lit (.slice none 0 0),.lit (.slice none 0 0),.lit (.slice none 0 0)]])]) (fun b=>[(9,.mpt 0 0 0)]) (fun b=>[some (10,[[sA [],.lit (.slice none 0 0),sA [],bA false,bA false,iA 0,iA 0,.lit (.slice none 0 0),.lit (.slice none 0 0),.lit (.slice none 0 0)]])]) (fun r env st=>zb6 Tryz.prog Tryz.f160 0 (.tup [sA r.1,.agg (ze r.2.1),bA r.2.2]) [] env st) ho (zq [.old 0]) ?_ ?_ ?_
 ·
  rintro D r h
  replace h:zcT i l m n D=some r:=h
  unfold zcT at h
  refine rg y<|u<|lss ti y y<|zb ?_
  refine zj ?_
  refine zf y (fun d=>?_) (fun d=>?_)
  ·
   replace h:=bT d h
   refine zi ?_
   refine zj ?_
   refine zr ?_
   obtain ⟨f,q,h⟩:=bs h
   refine rg y<|u<|ixI ti y ti y y y q<|u<|ldI ti y (zp q).2.2 y<|u<|asg y<|zb ?_
   obtain ⟨p,E,h⟩:=bs h
   refine rg y<|u<|mv y<|u<|mv y<|u<|pc (zG i l f E) y y y<|u<|mv y<|u<|ex y y<|u<|ex y y<|u<|al 1 ti y<|u<|sto ti y y y<|u<|asg y<|zb ?_
   obtain ⟨s,F,h⟩:=bs h
   refine rg y<|u<|ld ti y y<|u<|mv y<|u<|pc (zfK p.1 n F) y y y<|u<|asg y<|zb ?_
   obtain ⟨G,c,h⟩:=bs h
   refine rg y<|u<|mv y<|u<|geq ti y y<|u<|mv y<|zbq (x:=G) (j:=2) 7 y y y y y gpn (fun a=>by replace c:=bT a c;obtain ⟨H,v,c⟩:=bs c;obtain rfl:=sm c;exact g y a<|mv y<|g y a<|fa ti y y y<|g y a<|ld ti y y<|g y a<|mv y<|g y a<|ixI ti y ti y y y v<|g y a<|ldI ti y (zp v).2.2 y<|g y a<|pc (zmA H y) y y y<|zb (eg [34,35,36,37,38,39,40] 7 y y y y)) (fun hb=>(sm (bF hb c)).symm)<|zb ?_
   refine zf y (fun e=>?_) (fun e=>?_)
   ·
    replace h:=bT e h
    obtain ⟨A,C,h⟩:=bs h
    refine rdA [(8,sA f),(9,.mpt 0 0 0),(10,bA true)] [some (10,[(ze A)])] [7] [6,5,4,3,2,1,0] [(8,sA f),(47,.agg (ze A)),(46,.ipt 10 (map ze p.1.Methods) (Int.toNat s) 0),(45,iA s),(44,.isl 10 (map ze p.1.Methods)),(43,.mpt 1 0 5),(42,sA f)] 1 (ziH ⟨pe,(pb y (ldI ti y (zp C).2.2 y w)),(pb y (ixI ti y ti y y y C w)),pe,pe,pe,pe,t⟩ ⟨(fun _ _=>⟨_,y,y,sto ti y y y<|⟨.any,[8],[(10,bA true)],y,y,kz,t,zlb (zq [.old 0])⟩⟩),t⟩) ?_
    refine zg ?_
    obtain rfl:=sm h
    exact ⟨_,y,_,y,zB []⟩
   ·
    replace h:=bF e h
    refine zi ?_
    refine rl y<|u<|add ti y y<|u<|mv y<|zb ?_
    obtain rfl:=sm h
    exact ⟨_,y,zq [.old 0]⟩
  ·
   replace h:=bF d h
   refine zQ ?_
   obtain rfl:=sm h
   exact ⟨y,_,y,zq [.old 0]⟩
 ·
  rintro ⟨⟩ rfl
  replace h:zhb=some r:=h
  unfold zhb at h
  refine zD ?_
  refine rg y<|u<|bd ti y y y<|u<|asg y<|u<|sto ti y y y<|u<|asg y<|zb ?_
  refine zg ?_
  obtain rfl:=sm h
  exact ⟨_,y,zB []⟩
 ·
  rintro r' rfl env st hp
  obtain rfl:=sm h
  exact hp
def zfG(a:List za)(b:T2)(c:T0)(e:T0):Option (T0×zc×Bool):=
  (zE a b c).bind fun f=>cond (!f.1.Interface) (some ([],(zc.mk [] [] [] false false 0 0 [] [] []),false)) ((zcs a b c).bind fun g=>(ziA 16 [c] g).bind fun h=>(zgs a b h e).bind fun d=>some (d.1,d.2.1,d.2.2))
theorem ziY(a:List za)(b:T2)(c:T0)(e:T0){r:T0×zc×Bool}(h:zfG a b c e=some r):zu Tryz.prog 163 [.ipt 2 [[.isl 6 (map zd a),.imp (map (rKV (fun x=>iA x)) b)]] 0 0,sA c,sA e] (.tup [sA r.1,.agg (ze r.2.1),bA r.2.2]):=by
 refine zl Tryz.func163 y kz y y ?_
 unfold zfG at h
 refine rg y<|u<|asg y<|u<|al 0 ti y<|u<|asg y<|zb ?_
 obtain ⟨o,i,h⟩:=bs h
 refine rg y<|u<|mv y<|u<|mv y<|u<|pc (zG a b c i) y y y<|u<|mv y<|u<|ex y y<|u<|ex y y<|u<|al 1 ti y<|u<|sto ti y y y<|u<|asg y<|zb ?_
 refine zj ?_
 refine rg y<|u<|fa ti y y y<|u<|ld ti y y<|u<|nt y<|zb ?_
 refine zf y (fun d=>?_) (fun d=>?_)
 ·
  replace h:=bT d h
  refine rg y<|u<|bd ti y y y<|u<|asg y<|u<|sto ti y y y<|u<|asg y<|zb ?_
  refine zg ?_
  obtain rfl:=sm h
  exact ⟨_,y,zB []⟩
 ·
  replace h:=bF d h
  refine zi ?_
  obtain ⟨p,j,h⟩:=bs h
  obtain ⟨g,m,h⟩:=bs h
  obtain ⟨q,n,h⟩:=bs h
  refine rg y<|u<|mv y<|u<|mv y<|u<|bl 2 ti y ti y (by decide) (by decide) y y y<|u<|mv y<|u<|mv y<|u<|sx [] (zeB a b c j)<|u<|apM (l:=[c]) (f:=zm) 4 ti y ti y y (by decide) ti y y y y (roM y) (fun _=>y) y m<|u<|mv y<|zK (env0:=[(7,.mpt 0 0 0),(21,.ipt 2 [[.isl 6 (map zd a),.imp (map (rKV (fun x=>iA x)) b)]] 0 0),(27,.isl 1 (map zm g)),(28,sA e)]) (st0:=[some (10,[[sA [],.lit (.slice none 0 0),sA [],bA false,bA false,iA 0,iA 0,.lit (.slice none 0 0),.lit (.slice none 0 0),.lit (.slice none 0 0)]])]) (zq [.old 0])<|u<|pc (zlX a b g e n) y y y<|u<|ex y y<|u<|ex y y<|u<|ex y y<|u<|asg y<|u<|sto ti y y y<|u<|asg y<|zb ?_
  refine zg ?_
  obtain rfl:=sm h
  exact ⟨_,y,zB []⟩
def za8(e:List za)(f:T2)(g:T0)(h:zc)(i:T1)(b:zc)(c:T1)(a:Bool):Option (T1×Bool):=
  cond (!(b.Ret == [86])) ((zt e f g h i c a b.Ret).bind fun d=>some (d,a)) (some (c,a))
def zcD(b:List za)(c:T2)(e:T0)(g:zc)(h:T1)(j:zn)(l:T0)(f:zc)(d:T1×Bool)(m:Bool):Option (T1×Bool):=
  cond m ((zv b c e g h d.1 d.2 [j.C]).bind fun i=>za8 b c e g h f i.1 i.2) (cond (j.Op == (44:Int)) ((zah b c e g h d.1 d.2).bind fun a=>(zdz b c a.1 j.C).bind fun n=>cond n ((zdz b c a.1 e).bind fun o=>cond o ((zai b c e).bind fun p=>(zA p l).bind fun q=>za8 b c e g h f a.2.1 (a.2.2||(!q))) (za8 b c e g h f a.2.1 (a.2.2||(!false)))) (za8 b c e g h f a.2.1 (a.2.2||(!false)))) (za8 b c e g h f d.1 d.2))
def zcC(e:List za)(f:T2)(g:T0)(h:zc)(i:T1)(l:T1)(m:Bool)(b:zn)(c:T0)(a:zc)(j:Bool):Option (T1×Bool):=
  (zv e f g h i l (m||(!(j&&(a.Static == (b.Op == (42:Int)))))) a.Params).bind fun d=>cond (b.Op == (43:Int)) (zcD e f g h i b c a d (b.Op == (43:Int))) (zcD e f g h i b c a d (b.Op == (45:Int)))
def zfC(c:List za)(d:T2)(f:T0)(g:zc)(h:T1)(i:T1)(j:Bool)(a:zn):Option (T1×Bool):=
  (zei c d a.C a.M).bind fun e=>cond (a.Op == (45:Int)) ((zfG c d a.C a.M).bind fun b=>zcC c d f g h i j a b.1 b.2.1 b.2.2) (zcC c d f g h i j a e.1 e.2.1 (e.2.2&&(!e.2.1.Abstract)))
theorem ziE(c:List za)(d:T2)(i:T0)(l:zc)(e:T1)(v:T1)(G:Bool)(f:zn){r:T1×Bool}(h:zfC c d i l e v G f=some r):SC Tryz.prog 145 [.mpt 0 0 0,.agg (zx f)] [.one 15 (vK c d i l (.msl 1 0 (length e)) (.msl 2 0 (length v)) (bA G)),.many 1 (map zm e),.many 1 (map zm v)] (.tup []) [.one 15 (vK c d i l (.msl 1 0 (length e)) (.msl 3 0 (length r.1)) (bA r.2)),.many 1 (map zm e),.no,.many 1 (map zm r.1)]:=by
 refine ⟨⟨t,zhi (sz:=1) (fun _=>y),t,zhi (sz:=1) (fun _=>y),t⟩,zbE Tryz.func145 y kz y ?_⟩
 unfold zfC at h
 refine rg y<|u<|bx 3 4 y y y y<|zb ?_
 obtain ⟨q,W,h⟩:=bs h
 refine rdA [(0,.mpt 0 0 0),(3,.mpt 3 0 0),(4,sA q.1),(5,.mpt 4 0 0),(6,bA q.2.2)] [some (15,[(vK c d i l (.msl 1 0 (length e)) (.msl 2 0 (length v)) (bA G))]),some (1,map zm e),some (1,map zm v),some (4,[(zx f)]),some (10,[(ze q.2.1)])] [13,15] [12,11,10,9,8,7,6,5,4,3,2,1,0] [(20,bA q.2.2),(19,.agg (ze q.2.1)),(18,sA q.1),(8,.tup [sA q.1,.agg (ze q.2.1),bA q.2.2]),(17,.tup [sA q.1,.agg (ze q.2.1),bA q.2.2]),(16,sA f.M),(15,.mpt 3 0 3),(14,sA f.C),(13,.mpt 3 0 2),(12,.ipt 2 [[.isl 6 (map zd c),.imp (map (rKV (fun x=>iA x)) d)]] 0 0),(11,.mpt 0 0 0),(10,.mpt 0 0 0),(9,.mpt 0 0 0)] 2 (ziH ⟨pe,pe,pe,pe,(pb y (pc (zge c d f.C f.M W) y y y w)),pe,pe,pe,pe,pe,pe,pe,pe,t⟩ ⟨(fun _ _=>⟨_,y,y,al 4 ti y<|⟨(.mpt 4 0 0),[14],[(4,sA q.1),(5,.mpt 4 0 0)],y,y,kz,y,ziH ⟨pe,pe,pe,pe,pe,(pb y (pc (zge c d f.C f.M W) y y y w)),pe,pe,pe,pe,pe,pe,pe,pe,t⟩ ⟨nv,(fun _ _=>⟨_,y,y,sto ti y y y<|⟨.any,[16],[(6,bA q.2.2)],y,y,kz,t,zlb (zq [.old 0,.old 1,.old 2,.old 3,.old 4])⟩⟩),t⟩⟩⟩),nw,t⟩) ?_
 refine rg y<|u<|mv y<|u<|mv y<|zbq (j:=1) 3 y y y y y gpn (fun N=>g y N<|fa ti y y y<|g y N<|ld ti y y<|g y N<|nt y<|zb (egA [23,24,25] 3 N y y y y)) zhn<|u<|asg y<|zb ?_
 refine zdk (X:=T0×zc×Bool) (fun z=>[(0,.mpt 0 0 0),(3,.mpt 3 0 0),(4,sA z.1),(5,.mpt 4 0 0),(6,bA z.2.2)]) (fun z=>[some (15,[(vK c d i l (.msl 1 0 (length e)) (.msl 2 0 (length v)) (bA G))]),some (1,map zm e),some (1,map zm v),some (4,[(zx f)]),some (10,[(ze z.2.1)])]) (fun z=>zcC c d i l e v G f z.1 z.2.1 z.2.2=some r) ?_ ?_
 ·
  refine rg y<|u<|fa ti y y y<|u<|ld ti y y<|u<|eql ti y y<|zb ?_
  refine zf y (fun P=>?_) (fun P=>?_)
  ·
   replace h:=bT P h
   obtain ⟨n,q4,h⟩:=bs h
   refine zoX [(0,.mpt 0 0 0),(3,.mpt 3 0 0),(4,sA n.1),(5,.mpt 4 0 0),(6,bA n.2.2)] [some (15,[(vK c d i l (.msl 1 0 (length e)) (.msl 2 0 (length v)) (bA G))]),some (1,map zm e),some (1,map zm v),some (4,[(zx f)]),some (10,[(ze n.2.1)])] [14] [13,12,11,10,9,8,7,6,5,4,3,2,1,0] [(4,sA n.1),(42,bA n.2.2),(41,.agg (ze n.2.1)),(40,sA n.1),(30,.tup [sA n.1,.agg (ze n.2.1),bA n.2.2]),(39,.tup [sA n.1,.agg (ze n.2.1),bA n.2.2]),(38,sA f.M),(37,.mpt 3 0 3),(36,sA f.C),(35,.mpt 3 0 2),(34,.ipt 2 [[.isl 6 (map zd c),.imp (map (rKV (fun x=>iA x)) d)]] 0 0),(33,.mpt 0 0 0),(32,.mpt 0 0 0),(31,.mpt 0 0 0)] 1 (ziH ⟨pe,pe,pe,pe,pe,(pb y (pc (ziY c d f.C f.M q4) y y y w)),pe,pe,pe,pe,pe,pe,pe,pe,t⟩ ⟨(fun _ _=>⟨_,y,y,sto ti y y y<|⟨.any,[15],[(6,bA n.2.2)],y,y,kz,t,zlb (zq [.old 0,.old 1,.old 2,.old 3,.old 4])⟩⟩),t⟩) ?_
   exact ⟨⟨n.1,n.2.1,n.2.2⟩,h,zq [.old 0,.old 1,.old 2,.old 3,.old 4]⟩
  ·
   replace h:=bF P h
   refine zi ?_
   exact ⟨⟨q.1,q.2.1,(q.2.2&&(!q.2.1.Abstract))⟩,h,zq [.old 0,.old 1,.old 2,.old 3,.old 4]⟩
 ·
  rintro ⟨A,m,O⟩ h
  replace h:zcC c d i l e v G f A m O=some r:=h
  unfold zcC at h
  refine rg y<|u<|mv y<|u<|mv y<|u<|mv y<|zbq (j:=2) 6 y y y y y gpn (fun D=>g y D<|fa ti y y y<|g y D<|ld ti y y<|g y D<|fa ti y y y<|g y D<|ld ti y y<|g y D<|eql ti y y<|g y D<|beq ti y y y<|zb (egA [46,47,48,49,50,51] 6 D y y y y)) zhn<|u<|sx [0,1,2] (zo c d i l e v G (O&&(m.Static == (f.Op == (42:Int)))) y)<|zK (env0:=[(0,.mpt 0 0 0),(3,.mpt 3 0 0),(4,sA A),(5,.mpt 4 0 0)]) (st0:=[some (15,[(vK c d i l (.msl 1 0 (length e)) (.msl 2 0 (length v)) (bA (G||(!(O&&(m.Static == (f.Op == (42:Int))))))))]),some (1,map zm e),some (1,map zm v),some (4,[(zx f)]),some (10,[(ze m)])]) (zq [.old 0,.old 1,.old 2,.old 3,.old 4])<|zb ?_
  obtain ⟨o,q6,h⟩:=bs h
  refine rg y<|u<|mv y<|u<|fa ti y y y<|u<|ld ti y y<|u<|sx [0,1,2] (zw c d i l e v (G||(!(O&&(m.Static == (f.Op == (42:Int)))))) m.Params q6)<|zK (env0:=[(0,.mpt 0 0 0),(3,.mpt 3 0 0),(4,sA A),(5,.mpt 4 0 0)]) (st0:=[some (15,[(vK c d i l (.msl 1 0 (length e)) (.msl 2 0 (length o.1)) (bA o.2))]),some (1,map zm e),some (1,map zm o.1),some (4,[(zx f)]),some (10,[(ze m)])]) (zq [.old 0,.old 1,.old 2,.old 3,.old 4])<|zb ?_
  refine zdk (X:=T1×Bool) (fun z=>[(0,.mpt 0 0 0),(5,.mpt 3 0 0)]) (fun z=>[some (15,[(vK c d i l (.msl 1 0 (length e)) (.msl 2 0 (length z.1)) (bA z.2))]),some (1,map zm e),some (1,map zm z.1),some (10,[(ze m)])]) (fun z=>za8 c d i l e m z.1 z.2=some r) ?_ ?_
  ·
   refine rg y<|u<|fa ti y y y<|u<|ld ti y y<|zb ?_
   refine zr ?_
   refine zdk (X:=Bool) (fun z=>[(0,.mpt 0 0 0),(3,.mpt 3 0 0),(4,sA A),(5,.mpt 4 0 0),(59,iA f.Op),(60,bA z)]) (fun z=>[some (15,[(vK c d i l (.msl 1 0 (length e)) (.msl 2 0 (length o.1)) (bA o.2))]),some (1,map zm e),some (1,map zm o.1),some (4,[(zx f)]),some (10,[(ze m)])]) (fun z=>zcD c d i l e f A m o z=some r) ?_ ?_
   ·
    refine rg y<|u<|eql ti y y<|u<|asg y<|zb ?_
    refine zf y (fun Q=>?_) (fun Q=>?_)
    ·
     replace h:=bT Q h
     refine zi ?_
     exact ⟨(f.Op == (43:Int)),h,zq [.old 0,.old 1,.old 2,.old 3,.old 4]⟩
    ·
     replace h:=bF Q h
     exact rl y<|u<|eql ti y y<|u<|asg y<|zb (⟨(f.Op == (45:Int)),h,zq [.old 0,.old 1,.old 2,.old 3,.old 4]⟩)
   ·
    rintro Y h
    replace h:zcD c d i l e f A m o Y=some r:=h
    unfold zcD at h
    refine zf y (fun R=>?_) (fun R=>?_)
    ·
     replace h:=bT R h
     obtain ⟨I,q9,h⟩:=bs h
     exact rl y<|u<|mv y<|u<|fa ti y y y<|u<|ld ti y y<|u<|bl 5 ti y ti y (by decide) (by decide) y y y<|zK (env0:=[(0,.mpt 0 0 0),(5,.mpt 3 0 0),(63,.mpt 0 0 0),(66,.isl 1 (map zm [f.C]))]) (st0:=[some (15,[(vK c d i l (.msl 1 0 (length e)) (.msl 2 0 (length o.1)) (bA o.2))]),some (1,map zm e),some (1,map zm o.1),some (10,[(ze m)])]) (zq [.old 0,.old 1,.old 2,.old 4])<|u<|sx [0,1,2] (zw c d i l e o.1 o.2 [f.C] q9)<|zK (env0:=[(0,.mpt 0 0 0),(5,.mpt 3 0 0)]) (st0:=[some (15,[(vK c d i l (.msl 1 0 (length e)) (.msl 2 0 (length I.1)) (bA I.2))]),some (1,map zm e),some (1,map zm I.1),some (10,[(ze m)])]) (zq [.old 0,.old 1,.old 2,.old 3])<|zb (⟨⟨I.1,I.2⟩,h,zq [.old 0,.old 1,.old 2,.old 3]⟩)
    ·
     replace h:=bF R h
     refine rg y<|u<|eql ti y y<|u<|asg y<|zb ?_
     refine zf y (fun K=>?_) (fun K=>?_)
     ·
      replace h:=bT K h
      obtain ⟨a,Z,h⟩:=bs h
      refine rg y<|u<|mv y<|u<|sx [0,1,2] (zaF c d i l e o.1 o.2 Z)<|zK (env0:=[(0,.mpt 0 0 0),(3,.mpt 3 0 0),(4,sA A),(5,.mpt 4 0 0),(71,sA a.1)]) (st0:=[some (15,[(vK c d i l (.msl 1 0 (length e)) (.msl 2 0 (length a.2.1)) (bA a.2.2))]),some (1,map zm e),some (1,map zm a.2.1),some (4,[(zx f)]),some (10,[(ze m)])]) (zq [.old 0,.old 1,.old 2,.old 3,.old 4])<|u<|asg y<|zb ?_
      obtain ⟨p,E,h⟩:=bs h
      rcases bb p with s |s
      ·
       replace h:=bT s h
       obtain ⟨B,J,h⟩:=bs h
       rcases bb B with F |F
       ·
        replace h:=bT F h
        obtain ⟨S,q16,h⟩:=bs h
        obtain ⟨H,q17,h⟩:=bs h
        refine zoX [(0,.mpt 0 0 0),(5,.mpt 3 0 0)] [some (15,[(vK c d i l (.msl 1 0 (length e)) (.msl 2 0 (length a.2.1)) (bA (a.2.2||(!H))))]),some (1,map zm e),some (1,map zm a.2.1),some (10,[(ze m)])] [30,34] [31,29,28,27,26,25,24,23,22,21,20,19,18,17,16,15,14,13,12,11,10,9,8,7,6,5,4,3,2,1,0] [(103,sA A),(101,sA i),(100,.mpt 0 0 1),(99,.mpt 0 0 0),(98,.mpt 0 0 0),(97,.ipt 2 [[.isl 6 (map zd c),.imp (map (rKV (fun x=>iA x)) d)]] 0 0),(96,.mpt 0 0 0),(95,.mpt 0 0 0),(94,.mpt 0 0 0),(93,bA B),(92,bA B),(91,bA B),(90,sA i),(89,.mpt 0 0 1),(88,.mpt 0 0 0),(87,.mpt 0 0 0),(86,sA a.1),(85,.ipt 2 [[.isl 6 (map zd c),.imp (map (rKV (fun x=>iA x)) d)]] 0 0),(84,.mpt 0 0 0),(83,.mpt 0 0 0),(82,.mpt 0 0 0),(81,bA p),(80,bA p),(79,sA f.C),(78,.mpt 3 0 2),(77,sA a.1),(76,.ipt 2 [[.isl 6 (map zd c),.imp (map (rKV (fun x=>iA x)) d)]] 0 0),(75,.mpt 0 0 0),(74,.mpt 0 0 0),(73,.mpt 0 0 0),(72,.mpt 0 0 0)] 2 (ziH ⟨pe,pe,pe,pe,pe,pe,pe,pe,pe,pe,pe,(fun _=>pag (b:=p) y y y y s y (pc (zaK c d a.1 i J) y y y<|w)),pe,pe,pe,pe,pe,pe,pe,pe,pe,pe,(pb y (pc (zaK c d a.1 f.C E) y y y w)),pe,pe,pe,pe,pe,pe,pe,pe,t⟩ ⟨(fun _ _=>⟨_,y,cg (b:=B) y F,sx [] (za7 c d i q16)<|⟨(.msl 5 0 (length S)),[33,32],[(105,bA H),(104,bA H),(102,.msl 5 0 (length S))],y,y,kz,y,ziH ⟨pe,(fun _=>pag (b:=B) y y y y F y (pcs (zaz S A q17) y y (.cons (zki y (fun _=>y)) (.cons (si y) .nil)) zdb<|w)),pe,pe,pe,pe,pe,pe,pe,pe,pe,pe,pe,(fun _=>pag (b:=p) y y y y s y (pc (zaK c d a.1 i J) y y y<|w)),pe,pe,pe,pe,pe,pe,pe,pe,pe,pe,(pb y (pc (zaK c d a.1 f.C E) y y y w)),pe,pe,pe,pe,pe,pe,pe,pe,t⟩ ⟨nv,(fun _ _=>⟨_,y,y,sc [0,1,2] (args:=[.mpt 0 0 0,bA H]) (zo c d i l e a.2.1 a.2.2 H y) y y y y ⟨(.mpt y),(rnI y),t⟩ ⟨⟨_,y,(zst y ⟨(.msl y),(.msl y),(rnI y),t⟩)⟩,⟨y,mkI (fun _=>y)⟩,⟨y,mkI (fun _=>y)⟩,t⟩<|⟨(.tup []),[],[(106,.tup [])],y,y,kz,y,zjh ⟨pe,pe,pe,pe,pe,pe,pe,pe,pe,pe,pe,pe,pe,(fun _=>pag (b:=p) y y y y s y (pc (zaK c d a.1 i J) y y y<|w)),pe,pe,pe,pe,pe,pe,pe,pe,pe,pe,(pb y (pc (zaK c d a.1 f.C E) y y y w)),pe,pe,pe,pe,pe,pe,pe,pe,t⟩ (zq [.old 0,.old 1,.old 2,.old 4])⟩⟩),t⟩⟩⟩),nw,t⟩) ?_
        exact ⟨⟨a.2.1,(a.2.2||(!H))⟩,h,zq [.old 0,.old 1,.old 2,.old 3]⟩
       ·
        replace h:=bF F h
        refine zoX [(0,.mpt 0 0 0),(5,.mpt 3 0 0)] [some (15,[(vK c d i l (.msl 1 0 (length e)) (.msl 2 0 (length a.2.1)) (bA (a.2.2||(!false))))]),some (1,map zm e),some (1,map zm a.2.1),some (10,[(ze m)])] [34] [33,32,31,30,29,28,27,26,25,24,23,22,21,20,19,18,17,16,15,14,13,12,11,10,9,8,7,6,5,4,3,2,1,0] [(105,bA false),(104,.lit undef),(103,.lit undef),(102,.lit undef),(101,.lit undef),(100,.lit undef),(99,.lit undef),(98,.lit undef),(97,.lit undef),(96,.lit undef),(95,.lit undef),(94,.lit undef),(93,bA B),(92,bA B),(91,bA B),(90,sA i),(89,.mpt 0 0 1),(88,.mpt 0 0 0),(87,.mpt 0 0 0),(86,sA a.1),(85,.ipt 2 [[.isl 6 (map zd c),.imp (map (rKV (fun x=>iA x)) d)]] 0 0),(84,.mpt 0 0 0),(83,.mpt 0 0 0),(82,.mpt 0 0 0),(81,bA p),(80,bA p),(79,sA f.C),(78,.mpt 3 0 2),(77,sA a.1),(76,.ipt 2 [[.isl 6 (map zd c),.imp (map (rKV (fun x=>iA x)) d)]] 0 0),(75,.mpt 0 0 0),(74,.mpt 0 0 0),(73,.mpt 0 0 0),(72,.mpt 0 0 0)] 1 (ziH ⟨pe,pe,pe,pe,pe,pe,pe,pe,pe,pe,pe,pe,pe,pe,(fun _=>pag (b:=p) y y y y s y (pc (zaK c d a.1 i J) y y y<|w)),pe,pe,pe,pe,pe,pe,pe,pe,pe,pe,(pb y (pc (zaK c d a.1 f.C E) y y y w)),pe,pe,pe,pe,pe,pe,pe,pe,t⟩ ⟨(fun _ _=>⟨_,y,y,sc [0,1,2] (args:=[.mpt 0 0 0,bA false]) (zo c d i l e a.2.1 a.2.2 false y) y y y y ⟨(.mpt y),(rnI y),t⟩ ⟨⟨_,y,(zst y ⟨(.msl y),(.msl y),(rnI y),t⟩)⟩,⟨y,mkI (fun _=>y)⟩,⟨y,mkI (fun _=>y)⟩,t⟩<|⟨(.tup []),[],[(106,.tup [])],y,y,kz,y,zjh ⟨pe,pe,pe,pe,pe,pe,pe,pe,pe,pe,pe,pe,pe,pe,(fun _=>pag (b:=p) y y y y s y (pc (zaK c d a.1 i J) y y y<|w)),pe,pe,pe,pe,pe,pe,pe,pe,pe,pe,(pb y (pc (zaK c d a.1 f.C E) y y y w)),pe,pe,pe,pe,pe,pe,pe,pe,t⟩ (zq [.old 0,.old 1,.old 2,.old 4])⟩⟩),t⟩) ?_
        exact ⟨⟨a.2.1,(a.2.2||(!false))⟩,h,zq [.old 0,.old 1,.old 2,.old 3]⟩
      ·
       replace h:=bF s h
       refine zoX [(0,.mpt 0 0 0),(5,.mpt 3 0 0)] [some (15,[(vK c d i l (.msl 1 0 (length e)) (.msl 2 0 (length a.2.1)) (bA (a.2.2||(!false))))]),some (1,map zm e),some (1,map zm a.2.1),some (10,[(ze m)])] [34] [33,32,31,30,29,28,27,26,25,24,23,22,21,20,19,18,17,16,15,14,13,12,11,10,9,8,7,6,5,4,3,2,1,0] [(105,bA false),(104,.lit undef),(103,.lit undef),(102,.lit undef),(101,.lit undef),(100,.lit undef),(99,.lit undef),(98,.lit undef),(97,.lit undef),(96,.lit undef),(95,.lit undef),(94,.lit undef),(93,bA false),(92,bA false),(91,.lit undef),(90,.lit undef),(89,.lit undef),(88,.lit undef),(87,.lit undef),(86,.lit undef),(85,.lit undef),(84,.lit undef),(83,.lit undef),(82,.lit undef),(81,bA p),(80,bA p),(79,sA f.C),(78,.mpt 3 0 2),(77,sA a.1),(76,.ipt 2 [[.isl 6 (map zd c),.imp (map (rKV (fun x=>iA x)) d)]] 0 0),(75,.mpt 0 0 0),(74,.mpt 0 0 0),(73,.mpt 0 0 0),(72,.mpt 0 0 0)] 1 (ziH ⟨pe,pe,pe,pe,pe,pe,pe,pe,pe,pe,pe,pe,pe,pe,pe,pe,pe,pe,pe,pe,pe,pe,pe,pe,pe,(pb y (pc (zaK c d a.1 f.C E) y y y w)),pe,pe,pe,pe,pe,pe,pe,pe,t⟩ ⟨(fun _ _=>⟨_,y,y,sc [0,1,2] (args:=[.mpt 0 0 0,bA false]) (zo c d i l e a.2.1 a.2.2 false y) y y y y ⟨(.mpt y),(rnI y),t⟩ ⟨⟨_,y,(zst y ⟨(.msl y),(.msl y),(rnI y),t⟩)⟩,⟨y,mkI (fun _=>y)⟩,⟨y,mkI (fun _=>y)⟩,t⟩<|⟨(.tup []),[],[(106,.tup [])],y,y,kz,y,zjh ⟨pe,pe,pe,pe,pe,pe,pe,pe,pe,pe,pe,pe,pe,pe,pe,pe,pe,pe,pe,pe,pe,pe,pe,pe,pe,(pb y (pc (zaK c d a.1 f.C E) y y y w)),pe,pe,pe,pe,pe,pe,pe,pe,t⟩ (zq [.old 0,.old 1,.old 2,.old 4])⟩⟩),t⟩) ?_
       exact ⟨⟨a.2.1,(a.2.2||(!false))⟩,h,zq [.old 0,.old 1,.old 2,.old 3]⟩
     ·
      replace h:=bF K h
      refine zi ?_
      exact ⟨⟨o.1,o.2⟩,h,zq [.old 0,.old 1,.old 2,.old 4]⟩
  ·
   rintro ⟨U,T⟩ h
   replace h:za8 c d i l e m U T=some r:=h
   unfold za8 at h
   refine rg y<|u<|fa ti y y y<|u<|ld ti y y<|u<|sne ti y y<|zb ?_
   refine zf y (fun L=>?_) (fun L=>?_)
   ·
    replace h:=bT L h
    obtain ⟨V,q19,h⟩:=bs h
    refine rl y<|u<|mv y<|u<|fa ti y y y<|u<|ld ti y y<|u<|sx [0,1,2] (zs c d i l e U T m.Ret q19)<|zK (env0:=[]) (st0:=[some (15,[(vK c d i l (.msl 1 0 (length e)) (.msl 3 0 (length V)) (bA T))]),some (1,map zm e),none,some (1,map zm V)]) (zq [.old 0,.old 1,.dead,.old 4])<|zb ?_
    obtain rfl:=sm h
    exact ⟨_,y,zB [.old 0,.old 1,.dead,.old 3]⟩
   ·
    replace h:=bF L h
    refine zi ?_
    obtain rfl:=sm h
    exact ⟨_,y,zB [.old 0,.old 1,.dead,.old 2]⟩
def zc0(e:List za)(f:T2)(g:T0)(a:zc)(h:T1)(c:T1)(d:Bool)(i:Int):Option (T1×Bool):=
  cond (i == (46:Int)) (some (c,(d||(!(a.Ret == [86]))))) (cond (i == (47:Int)) ((zv e f g a h c (d||(!(a.Ret == [73]))) ([[73]])).bind fun j=>some (j.1,j.2)) ((zhr a.Ret).bind fun l=>(zv e f g a h c (d||(!l)) [a.Ret]).bind fun b=>some (b.1,b.2)))
theorem zjb(d:List za)(e:T2)(f:T0)(a:zc)(b:T1)(c:T1)(g:Bool)(o:Int){r:T1×Bool}(h:zc0 d e f a b c g o=some r):SC Tryz.prog 146 [.mpt 0 0 0,iA o] [.one 15 (vK d e f a (.msl 1 0 (length b)) (.msl 2 0 (length c)) (bA g)),.many 1 (map zm b),.many 1 (map zm c)] (.tup []) [.one 15 (vK d e f a (.msl 1 0 (length b)) (.msl 2 0 (length r.1)) (bA r.2)),.many 1 (map zm b),.many 1 (map zm r.1)]:=by
 refine ⟨⟨t,zhi (sz:=1) (fun _=>y),zhi (sz:=1) (fun _=>y),t⟩,zbE Tryz.func146 y kz y ?_⟩
 unfold zc0 at h
 refine zr ?_
 refine rg y<|u<|mv y<|u<|eql ti y y<|u<|asg y<|zb ?_
 refine zf y (fun j=>?_) (fun j=>?_)
 ·
  replace h:=bT j h
  refine rl y<|u<|mv y<|u<|mv y<|u<|nc y y<|u<|fa ti y y y<|u<|fa ti y y y<|u<|ld ti y y<|u<|seq ti y y<|u<|sx [0,1,2] (zo d e f a b c g (a.Ret == [86]) y)<|zK (env0:=[]) (st0:=[some (15,[(vK d e f a (.msl 1 0 (length b)) (.msl 2 0 (length c)) (bA (g||(!(a.Ret == [86])))))]),some (1,map zm b),some (1,map zm c)]) (zq [.old 0,.old 1,.old 2])<|zb ?_
  obtain rfl:=sm h
  exact ⟨_,y,zB [.old 0,.old 1,.old 2]⟩
 ·
  replace h:=bF j h
  refine rg y<|u<|mv y<|u<|eql ti y y<|u<|asg y<|zb ?_
  refine zf y (fun l=>?_) (fun l=>?_)
  ·
   replace h:=bT l h
   refine rg y<|u<|mv y<|u<|mv y<|u<|nc y y<|u<|fa ti y y y<|u<|fa ti y y y<|u<|ld ti y y<|u<|seq ti y y<|u<|sx [0,1,2] (zo d e f a b c g (a.Ret == [73]) y)<|zK (env0:=[(0,.mpt 0 0 0)]) (st0:=[some (15,[(vK d e f a (.msl 1 0 (length b)) (.msl 2 0 (length c)) (bA (g||(!(a.Ret == [73])))))]),some (1,map zm b),some (1,map zm c)]) (zq [.old 0,.old 1,.old 2])<|zb ?_
   obtain ⟨n,p,h⟩:=bs h
   refine rl y<|u<|mv y<|u<|bl 3 ti y ti y (by decide) (by decide) y y y<|zK (env0:=[(42,.mpt 0 0 0),(43,.isl 1 (map zm ([[73]])))]) (st0:=[some (15,[(vK d e f a (.msl 1 0 (length b)) (.msl 2 0 (length c)) (bA (g||(!(a.Ret == [73])))))]),some (1,map zm b),some (1,map zm c)]) (zq [.old 0,.old 1,.old 2])<|u<|sx [0,1,2] (zw d e f a b c (g||(!(a.Ret == [73]))) ([[73]]) p)<|zK (env0:=[]) (st0:=[some (15,[(vK d e f a (.msl 1 0 (length b)) (.msl 2 0 (length n.1)) (bA n.2))]),some (1,map zm b),some (1,map zm n.1)]) (zq [.old 0,.old 1,.old 2])<|zb ?_
   obtain rfl:=sm h
   exact ⟨_,y,zB [.old 0,.old 1,.old 2]⟩
  ·
   replace h:=bF l h
   obtain ⟨i,q,h⟩:=bs h
   refine rg y<|u<|mv y<|u<|mv y<|u<|nc y y<|u<|fa ti y y y<|u<|fa ti y y y<|u<|ld ti y y<|u<|pc (zii a.Ret q) y y y<|u<|sx [0,1,2] (zo d e f a b c g i y)<|zK (env0:=[(0,.mpt 0 0 0)]) (st0:=[some (15,[(vK d e f a (.msl 1 0 (length b)) (.msl 2 0 (length c)) (bA (g||(!i))))]),some (1,map zm b),some (1,map zm c)]) (zq [.old 0,.old 1,.old 2])<|zb ?_
   obtain ⟨m,s,h⟩:=bs h
   refine rl y<|u<|mv y<|u<|mv y<|u<|nc y y<|u<|fa ti y y y<|u<|fa ti y y y<|u<|ld ti y y<|u<|bl 3 ti y ti y (by decide) (by decide) y y y<|zK (env0:=[(12,.mpt 0 0 0),(18,.isl 1 (map zm [a.Ret]))]) (st0:=[some (15,[(vK d e f a (.msl 1 0 (length b)) (.msl 2 0 (length c)) (bA (g||(!i))))]),some (1,map zm b),some (1,map zm c)]) (zq [.old 0,.old 1,.old 2])<|u<|sx [0,1,2] (zw d e f a b c (g||(!i)) [a.Ret] s)<|zK (env0:=[]) (st0:=[some (15,[(vK d e f a (.msl 1 0 (length b)) (.msl 2 0 (length m.1)) (bA m.2))]),some (1,map zm b),some (1,map zm m.1)]) (zq [.old 0,.old 1,.old 2])<|zb ?_
   obtain rfl:=sm h
   exact ⟨_,y,zB [.old 0,.old 1,.old 2]⟩
def zkI(a:T0):Option (T0):=
  (zfW a).bind fun b=>(cond (!b) (some true) ((zwO [91] a).bind fun c=>(zfW c).bind fun d=>some (!d))).bind fun e=>cond e (some []) ((zwO [91] a).bind fun f=>some f)
theorem znv(d:T0){r:T0}(h:zkI d=some r):zu Tryz.prog 214 [sA d] (sA r):=by
 refine zl Tryz.func214 y kz y y ?_
 unfold zkI at h
 refine rg y<|u<|asg y<|zb ?_
 refine zj ?_
 obtain ⟨o,e,h⟩:=bs h
 obtain ⟨f,a,h⟩:=bs h
 refine rg y<|u<|mv y<|u<|pc (zfz d e) y y y<|u<|nt y<|u<|mv y<|ze6 (x:=f) (j:=3) 4 y y y y y gpn (fun b=>by replace a:=bF b a;obtain ⟨i,l,a⟩:=bs a;obtain ⟨p,m,a⟩:=bs a;obtain rfl:=sm a;exact g y b<|mv y<|g y b<|zxI ti y y l<|g y b<|pc (zfz i m) y y y<|g y b<|nt y<|zb (eg [7,8,9,10] 4 y y y y)) (fun hb=>(sm (bT hb a)).symm)<|zb ?_
 refine zf y (fun c=>?_) (fun c=>?_)
 ·
  replace h:=bT c h
  refine rg y<|u<|asg y<|zb ?_
  refine zg ?_
  obtain rfl:=sm h
  exact ⟨_,y,zB []⟩
 ·
  replace h:=bF c h
  refine zi ?_
  obtain ⟨q,n,h⟩:=bs h
  refine rg y<|u<|mv y<|u<|zxI ti y y n<|u<|asg y<|zb ?_
  refine zg ?_
  obtain rfl:=sm h
  exact ⟨_,y,zB []⟩
def zdK(c:List za)(d:T2)(e:T0)(f:zc)(g:T1)(h:T1)(i:Bool):Option (T0×T1×Bool):=
  (zah c d e f g h i).bind fun a=>(zeG a.1).bind fun b=>cond (a.1 == [78]) (some (a.1,a.2.1,(a.2.2||(!((a.1 == [78])||(b.2&&(!(b.1 == [73])))))))) (some (b.1,a.2.1,(a.2.2||(!((a.1 == [78])||(b.2&&(!(b.1 == [73]))))))))
theorem zf4(c:List za)(d:T2)(e:T0)(f:zc)(b:T1)(o:T1)(p:Bool){r:T0×T1×Bool}(h:zdK c d e f b o p=some r):SC Tryz.prog 215 [.mpt 0 0 0] [.one 15 (vK c d e f (.msl 1 0 (length b)) (.msl 2 0 (length o)) (bA p)),.many 1 (map zm b),.many 1 (map zm o)] (sA r.1) [.one 15 (vK c d e f (.msl 1 0 (length b)) (.msl 2 0 (length r.2.1)) (bA r.2.2)),.many 1 (map zm b),.many 1 (map zm r.2.1)]:=by
 refine ⟨⟨t,zhi (sz:=1) (fun _=>y),zhi (sz:=1) (fun _=>y),t⟩,zbE Tryz.func215 y kz y ?_⟩
 unfold zdK at h
 refine rg y<|u<|asg y<|zb ?_
 obtain ⟨a,q,h⟩:=bs h
 refine rg y<|u<|mv y<|u<|sx [0,1,2] (zaF c d e f b o p q)<|zK (env0:=[(0,.mpt 0 0 0),(7,sA a.1)]) (st0:=[some (15,[(vK c d e f (.msl 1 0 (length b)) (.msl 2 0 (length a.2.1)) (bA a.2.2))]),some (1,map zm b),some (1,map zm a.2.1)]) (zq [.old 0,.old 1,.old 2])<|u<|asg y<|zb ?_
 obtain ⟨l,s,h⟩:=bs h
 refine rg y<|u<|mv y<|u<|pc (zfE a.1 s) y y y<|u<|mv y<|u<|ex y y<|u<|ex y y<|u<|asg y<|u<|asg y<|zb ?_
 refine rg y<|u<|mv y<|u<|mv y<|u<|seq ti y y<|u<|mv y<|ze6 (j:=3) 5 y y y y y gpn (fun i=>g y i<|mv y<|g y i<|mv y<|zbq (j:=5) 2 y y y y y (gps y y i) (fun m=>g y m<|mv y<|g y m<|sne ti y y<|zb (egA [19,20] 2 m y y y y)) zhn<|zb (egO [17,18,19,20,21] 3 i y y y y)) orT<|u<|sx [0,1,2] (zo c d e f b a.2.1 a.2.2 ((a.1 == [78])||(l.2&&(!(l.1 == [73])))) y)<|zK (env0:=[(3,sA a.1),(4,sA l.1)]) (st0:=[some (15,[(vK c d e f (.msl 1 0 (length b)) (.msl 2 0 (length a.2.1)) (bA (a.2.2||(!((a.1 == [78])||(l.2&&(!(l.1 == [73]))))))))]),some (1,map zm b),some (1,map zm a.2.1)]) (zq [.old 0,.old 1,.old 2])<|zb ?_
 refine zj ?_
 refine rg y<|u<|mv y<|u<|seq ti y y<|zb ?_
 refine zf y (fun n=>?_) (fun n=>?_)
 ·
  replace h:=bT n h
  refine rg y<|u<|mv y<|u<|asg y<|zb ?_
  refine zg ?_
  obtain rfl:=sm h
  exact ⟨_,y,zB [.old 0,.old 1,.old 2]⟩
 ·
  replace h:=bF n h
  refine zi ?_
  refine rg y<|u<|mv y<|u<|asg y<|zb ?_
  refine zg ?_
  obtain rfl:=sm h
  exact ⟨_,y,zB [.old 0,.old 1,.old 2]⟩
def zeR(a:List za)(b:T2)(c:T0)(d:zc)(e:T1)(g:T1)(h:Bool)(i:zn):Option (T1×Bool):=
  cond (i.Op == (49:Int)) ((zv a b c d e g h ([[73]])).bind fun v=>(zt a b c d e v.1 v.2 [91,73]).bind fun x=>some (x,v.2)) (cond (i.Op == (50:Int)) ((zkI i.C).bind fun l=>(cond (!(l == [])) ((zcp a b l).bind fun z=>some z) (some false)).bind fun A=>(zv a b c d e g (h||(!A)) ([[73]])).bind fun m=>(zt a b c d e m.1 m.2 l).bind fun B=>some (B,m.2)) (cond (i.Op == (51:Int)) ((zah a b c d e g h).bind fun f=>(zeG f.1).bind fun o=>(zt a b c d e f.2.1 (f.2.2||(!(o.2||(f.1 == [78])))) [73]).bind fun D=>some (D,(f.2.2||(!(o.2||(f.1 == [78])))))) (cond (i.Op == (52:Int)) ((zv a b c d e g h ([[91,73],[73]])).bind fun n=>(zt a b c d e n.1 n.2 [73]).bind fun E=>some (E,n.2)) (cond (i.Op == (53:Int)) ((zv a b c d e g h ([[91,73],[73],[73]])).bind fun p=>some (p.1,p.2)) (cond (i.Op == (54:Int)) ((zv a b c d e g h ([[73]])).bind fun q=>(zdK a b c d e q.1 q.2).bind fun j=>(zt a b c d e j.2.1 j.2.2 j.1).bind fun F=>some (F,j.2.2)) ((zcv a b c d e g h).bind fun r=>(zv a b c d e r.2.1 r.2.2 ([[73]])).bind fun s=>(zdK a b c d e s.1 s.2).bind fun u=>some (u.2.1,u.2.2)))))))
theorem zhV(b:List za)(c:T2)(d:T0)(e:zc)(a:T1)(i:T1)(l:Bool)(T:zn){r:T1×Bool}(h:zeR b c d e a i l T=some r):SC Tryz.prog 147 [.mpt 0 0 0,.agg (zx T)] [.one 15 (vK b c d e (.msl 1 0 (length a)) (.msl 2 0 (length i)) (bA l)),.many 1 (map zm a),.many 1 (map zm i)] (.tup []) [.one 15 (vK b c d e (.msl 1 0 (length a)) (.msl 3 0 (length r.1)) (bA r.2)),.many 1 (map zm a),.no,.many 1 (map zm r.1)]:=by
 refine ⟨⟨t,zhi (sz:=1) (fun _=>y),t,zhi (sz:=1) (fun _=>y),t⟩,zbE Tryz.func147 y kz y ?_⟩
 unfold zeR at h
 refine rg y<|u<|bx 3 4 y y y y<|zb ?_
 refine rg y<|u<|fa ti y y y<|u<|ld ti y y<|zb ?_
 refine zr ?_
 refine rg y<|u<|eql ti y y<|u<|asg y<|zb ?_
 refine zf y (fun K=>?_) (fun K=>?_)
 ·
  replace h:=bT K h
  obtain ⟨I,q2,h⟩:=bs h
  refine rg y<|u<|mv y<|u<|bl 4 ti y ti y (by decide) (by decide) y y y<|zK (env0:=[(0,.mpt 0 0 0),(19,.mpt 0 0 0),(20,.isl 1 (map zm ([[73]])))]) (st0:=[some (15,[(vK b c d e (.msl 1 0 (length a)) (.msl 2 0 (length i)) (bA l))]),some (1,map zm a),some (1,map zm i)]) (zq [.old 0,.old 1,.old 2])<|u<|sx [0,1,2] (zw b c d e a i l ([[73]]) q2)<|zK (env0:=[(0,.mpt 0 0 0)]) (st0:=[some (15,[(vK b c d e (.msl 1 0 (length a)) (.msl 2 0 (length I.1)) (bA I.2))]),some (1,map zm a),some (1,map zm I.1)]) (zq [.old 0,.old 1,.old 2])<|zb ?_
  obtain ⟨O,q3,h⟩:=bs h
  refine rl y<|u<|mv y<|u<|sx [0,1,2] (zs b c d e a I.1 I.2 [91,73] q3)<|zK (env0:=[]) (st0:=[some (15,[(vK b c d e (.msl 1 0 (length a)) (.msl 3 0 (length O)) (bA I.2))]),some (1,map zm a),none,some (1,map zm O)]) (zq [.old 0,.old 1,.dead,.old 3])<|zb ?_
  obtain rfl:=sm h
  exact ⟨_,y,zB [.old 0,.old 1,.dead,.old 3]⟩
 ·
  replace h:=bF K h
  refine rg y<|u<|eql ti y y<|u<|asg y<|zb ?_
  refine zf y (fun L=>?_) (fun L=>?_)
  ·
   replace h:=bT L h
   obtain ⟨s,q5,h⟩:=bs h
   refine rg y<|u<|fa ti y y y<|u<|ld ti y y<|u<|pc (znv T.C q5) y y y<|u<|asg y<|zb ?_
   obtain ⟨v,J,h⟩:=bs h
   refine rg y<|u<|mv y<|u<|mv y<|u<|sne ti y y<|u<|mv y<|zbq (x:=v) (j:=3) 6 y y y y y gpn (fun o=>by replace J:=bT o J;obtain ⟨v12,q7,J⟩:=bs J;obtain rfl:=sm J;exact g y o<|mv y<|g y o<|nc y y<|g y o<|fa ti y y y<|g y o<|ld ti y y<|g y o<|mv y<|g y o<|pc (zdd b c s q7) y y y<|zb (eg [33,34,35,36,37,38] 6 y y y y)) (fun hb=>(sm (bF hb J)).symm)<|u<|sx [0,1,2] (zo b c d e a i l v y)<|zK (env0:=[(0,.mpt 0 0 0),(4,sA s)]) (st0:=[some (15,[(vK b c d e (.msl 1 0 (length a)) (.msl 2 0 (length i)) (bA (l||(!v))))]),some (1,map zm a),some (1,map zm i)]) (zq [.old 0,.old 1,.old 2])<|zb ?_
   obtain ⟨p,q9,h⟩:=bs h
   refine rg y<|u<|mv y<|u<|bl 3 ti y ti y (by decide) (by decide) y y y<|zK (env0:=[(0,.mpt 0 0 0),(4,sA s),(41,.mpt 0 0 0),(42,.isl 1 (map zm ([[73]])))]) (st0:=[some (15,[(vK b c d e (.msl 1 0 (length a)) (.msl 2 0 (length i)) (bA (l||(!v))))]),some (1,map zm a),some (1,map zm i)]) (zq [.old 0,.old 1,.old 2])<|u<|sx [0,1,2] (zw b c d e a i (l||(!v)) ([[73]]) q9)<|zK (env0:=[(0,.mpt 0 0 0),(4,sA s)]) (st0:=[some (15,[(vK b c d e (.msl 1 0 (length a)) (.msl 2 0 (length p.1)) (bA p.2))]),some (1,map zm a),some (1,map zm p.1)]) (zq [.old 0,.old 1,.old 2])<|zb ?_
   obtain ⟨P,U,h⟩:=bs h
   refine rl y<|u<|mv y<|u<|mv y<|u<|sx [0,1,2] (zs b c d e a p.1 p.2 s U)<|zK (env0:=[]) (st0:=[some (15,[(vK b c d e (.msl 1 0 (length a)) (.msl 3 0 (length P)) (bA p.2))]),some (1,map zm a),none,some (1,map zm P)]) (zq [.old 0,.old 1,.dead,.old 3])<|zb ?_
   obtain rfl:=sm h
   exact ⟨_,y,zB [.old 0,.old 1,.dead,.old 3]⟩
  ·
   replace h:=bF L h
   refine rg y<|u<|eql ti y y<|u<|asg y<|zb ?_
   refine zf y (fun B=>?_) (fun B=>?_)
   ·
    replace h:=bT B h
    obtain ⟨f,V,h⟩:=bs h
    refine rg y<|u<|mv y<|u<|sx [0,1,2] (zaF b c d e a i l V)<|zK (env0:=[(0,.mpt 0 0 0),(50,sA f.1)]) (st0:=[some (15,[(vK b c d e (.msl 1 0 (length a)) (.msl 2 0 (length f.2.1)) (bA f.2.2))]),some (1,map zm a),some (1,map zm f.2.1)]) (zq [.old 0,.old 1,.old 2])<|u<|asg y<|zb ?_
    obtain ⟨H,W,h⟩:=bs h
    refine rg y<|u<|mv y<|u<|pc (zfE f.1 W) y y y<|u<|mv y<|u<|ex y y<|u<|ex y y<|u<|asg y<|u<|asg y<|zb ?_
    refine rg y<|u<|mv y<|u<|mv y<|u<|mv y<|ze6 (j:=2) 2 y y y y y gpn (fun D=>g y D<|mv y<|g y D<|seq ti y y<|zb (egO [59,60] 2 D y y y y)) orT<|u<|sx [0,1,2] (zo b c d e a f.2.1 f.2.2 (H.2||(f.1 == [78])) y)<|zK (env0:=[(0,.mpt 0 0 0)]) (st0:=[some (15,[(vK b c d e (.msl 1 0 (length a)) (.msl 2 0 (length f.2.1)) (bA (f.2.2||(!(H.2||(f.1 == [78]))))))]),some (1,map zm a),some (1,map zm f.2.1)]) (zq [.old 0,.old 1,.old 2])<|zb ?_
    obtain ⟨Q,X,h⟩:=bs h
    refine rl y<|u<|mv y<|u<|sx [0,1,2] (zs b c d e a f.2.1 (f.2.2||(!(H.2||(f.1 == [78])))) [73] X)<|zK (env0:=[]) (st0:=[some (15,[(vK b c d e (.msl 1 0 (length a)) (.msl 3 0 (length Q)) (bA (f.2.2||(!(H.2||(f.1 == [78]))))))]),some (1,map zm a),none,some (1,map zm Q)]) (zq [.old 0,.old 1,.dead,.old 3])<|zb ?_
    obtain rfl:=sm h
    exact ⟨_,y,zB [.old 0,.old 1,.dead,.old 3]⟩
   ·
    replace h:=bF B h
    refine rg y<|u<|eql ti y y<|u<|asg y<|zb ?_
    refine zf y (fun E=>?_) (fun E=>?_)
    ·
     replace h:=bT E h
     obtain ⟨q,Y,h⟩:=bs h
     refine rg y<|u<|mv y<|u<|bl 4 ti y ti y (by decide) (by decide) y y y<|zK (env0:=[(0,.mpt 0 0 0),(67,.mpt 0 0 0),(68,.isl 1 (map zm ([[91,73],[73]])))]) (st0:=[some (15,[(vK b c d e (.msl 1 0 (length a)) (.msl 2 0 (length i)) (bA l))]),some (1,map zm a),some (1,map zm i)]) (zq [.old 0,.old 1,.old 2])<|u<|sx [0,1,2] (zw b c d e a i l ([[91,73],[73]]) Y)<|zK (env0:=[(0,.mpt 0 0 0)]) (st0:=[some (15,[(vK b c d e (.msl 1 0 (length a)) (.msl 2 0 (length q.1)) (bA q.2))]),some (1,map zm a),some (1,map zm q.1)]) (zq [.old 0,.old 1,.old 2])<|zb ?_
     obtain ⟨R,Z,h⟩:=bs h
     refine rl y<|u<|mv y<|u<|sx [0,1,2] (zs b c d e a q.1 q.2 [73] Z)<|zK (env0:=[]) (st0:=[some (15,[(vK b c d e (.msl 1 0 (length a)) (.msl 3 0 (length R)) (bA q.2))]),some (1,map zm a),none,some (1,map zm R)]) (zq [.old 0,.old 1,.dead,.old 3])<|zb ?_
     obtain rfl:=sm h
     exact ⟨_,y,zB [.old 0,.old 1,.dead,.old 3]⟩
    ·
     replace h:=bF E h
     refine rg y<|u<|eql ti y y<|u<|asg y<|zb ?_
     refine zf y (fun F=>?_) (fun F=>?_)
     ·
      replace h:=bT F h
      obtain ⟨M,q20,h⟩:=bs h
      refine rl y<|u<|mv y<|u<|bl 4 ti y ti y (by decide) (by decide) y y y<|zK (env0:=[(74,.mpt 0 0 0),(75,.isl 1 (map zm ([[91,73],[73],[73]])))]) (st0:=[some (15,[(vK b c d e (.msl 1 0 (length a)) (.msl 2 0 (length i)) (bA l))]),some (1,map zm a),some (1,map zm i)]) (zq [.old 0,.old 1,.old 2])<|u<|sx [0,1,2] (zw b c d e a i l ([[91,73],[73],[73]]) q20)<|zK (env0:=[]) (st0:=[some (15,[(vK b c d e (.msl 1 0 (length a)) (.msl 2 0 (length M.1)) (bA M.2))]),some (1,map zm a),some (1,map zm M.1)]) (zq [.old 0,.old 1,.old 2])<|zb ?_
      obtain rfl:=sm h
      exact ⟨_,y,zB [.old 0,.old 1,.dead,.old 2]⟩
     ·
      replace h:=bF F h
      refine rg y<|u<|eql ti y y<|u<|asg y<|zb ?_
      refine zf y (fun G=>?_) (fun G=>?_)
      ·
       replace h:=bT G h
       obtain ⟨z,q22,h⟩:=bs h
       refine rg y<|u<|mv y<|u<|bl 4 ti y ti y (by decide) (by decide) y y y<|zK (env0:=[(0,.mpt 0 0 0),(79,.mpt 0 0 0),(80,.isl 1 (map zm ([[73]])))]) (st0:=[some (15,[(vK b c d e (.msl 1 0 (length a)) (.msl 2 0 (length i)) (bA l))]),some (1,map zm a),some (1,map zm i)]) (zq [.old 0,.old 1,.old 2])<|u<|sx [0,1,2] (zw b c d e a i l ([[73]]) q22)<|zK (env0:=[(0,.mpt 0 0 0)]) (st0:=[some (15,[(vK b c d e (.msl 1 0 (length a)) (.msl 2 0 (length z.1)) (bA z.2))]),some (1,map zm a),some (1,map zm z.1)]) (zq [.old 0,.old 1,.old 2])<|zb ?_
       obtain ⟨m,q23,h⟩:=bs h
       obtain ⟨S,q24,h⟩:=bs h
       refine rl y<|u<|mv y<|u<|mv y<|u<|sx [0,1,2] (zf4 b c d e a z.1 z.2 q23)<|zK (env0:=[(82,.mpt 0 0 0),(84,sA m.1)]) (st0:=[some (15,[(vK b c d e (.msl 1 0 (length a)) (.msl 2 0 (length m.2.1)) (bA m.2.2))]),some (1,map zm a),some (1,map zm m.2.1)]) (zq [.old 0,.old 1,.old 2])<|u<|sx [0,1,2] (zs b c d e a m.2.1 m.2.2 m.1 q24)<|zK (env0:=[]) (st0:=[some (15,[(vK b c d e (.msl 1 0 (length a)) (.msl 3 0 (length S)) (bA m.2.2))]),some (1,map zm a),none,some (1,map zm S)]) (zq [.old 0,.old 1,.dead,.old 3])<|zb ?_
       obtain rfl:=sm h
       exact ⟨_,y,zB [.old 0,.old 1,.dead,.old 3]⟩
      ·
       replace h:=bF G h
       obtain ⟨n,q25,h⟩:=bs h
       refine rg y<|u<|mv y<|u<|sx [0,1,2] (zcW b c d e a i l q25)<|zK (env0:=[(0,.mpt 0 0 0)]) (st0:=[some (15,[(vK b c d e (.msl 1 0 (length a)) (.msl 2 0 (length n.2.1)) (bA n.2.2))]),some (1,map zm a),some (1,map zm n.2.1)]) (zq [.old 0,.old 1,.old 2])<|zb ?_
       obtain ⟨A,q26,h⟩:=bs h
       refine rg y<|u<|mv y<|u<|bl 3 ti y ti y (by decide) (by decide) y y y<|zK (env0:=[(0,.mpt 0 0 0),(12,.mpt 0 0 0),(13,.isl 1 (map zm ([[73]])))]) (st0:=[some (15,[(vK b c d e (.msl 1 0 (length a)) (.msl 2 0 (length n.2.1)) (bA n.2.2))]),some (1,map zm a),some (1,map zm n.2.1)]) (zq [.old 0,.old 1,.old 2])<|u<|sx [0,1,2] (zw b c d e a n.2.1 n.2.2 ([[73]]) q26)<|zK (env0:=[(0,.mpt 0 0 0)]) (st0:=[some (15,[(vK b c d e (.msl 1 0 (length a)) (.msl 2 0 (length A.1)) (bA A.2))]),some (1,map zm a),some (1,map zm A.1)]) (zq [.old 0,.old 1,.old 2])<|zb ?_
       obtain ⟨N,q27,h⟩:=bs h
       refine rl y<|u<|mv y<|u<|sx [0,1,2] (zf4 b c d e a A.1 A.2 q27)<|zK (env0:=[]) (st0:=[some (15,[(vK b c d e (.msl 1 0 (length a)) (.msl 2 0 (length N.2.1)) (bA N.2.2))]),some (1,map zm a),some (1,map zm N.2.1)]) (zq [.old 0,.old 1,.old 2])<|zb ?_
       obtain rfl:=sm h
       exact ⟨_,y,zB [.old 0,.old 1,.dead,.old 2]⟩
def zcG(b:List za)(c:T2)(e:T0)(f:zc)(g:T1)(j:T1)(h:Bool)(i:zn)(q:Bool):Option (T1×Bool):=
  cond q ((zcv b c e f g j h).bind fun a=>(zcp b c i.C).bind fun d=>cond (i.Op == (56:Int)) ((zt b c e f g a.2.1 (a.2.2||(!d)) i.C).bind fun n=>some (n,(a.2.2||(!d)))) ((zt b c e f g a.2.1 (a.2.2||(!d)) [73]).bind fun o=>some (o,(a.2.2||(!d))))) (cond (i.Op == (58:Int)) ((zv b c e f g j h ([[84,104,114,111,119,110]])).bind fun l=>some (l.1,l.2)) (cond (i.Op == (59:Int)) ((zt b c e f g j h [73]).bind fun p=>some (p,h)) ((zv b c e f g j h ([[73]])).bind fun m=>some (m.1,m.2))))
def zfD(b:List za)(c:T2)(d:T0)(e:zc)(f:T1)(g:T1)(h:Bool)(a:zn):Option (T1×Bool):=
  cond (a.Op == (56:Int)) (zcG b c d e f g h a (a.Op == (56:Int))) (zcG b c d e f g h a (a.Op == (57:Int)))
theorem ziG(b:List za)(c:T2)(d:T0)(e:zc)(a:T1)(g:T1)(j:Bool)(i:zn){r:T1×Bool}(h:zfD b c d e a g j i=some r):SC Tryz.prog 148 [.mpt 0 0 0,.agg (zx i)] [.one 15 (vK b c d e (.msl 1 0 (length a)) (.msl 2 0 (length g)) (bA j)),.many 1 (map zm a),.many 1 (map zm g)] (.tup []) [.one 15 (vK b c d e (.msl 1 0 (length a)) (.msl 3 0 (length r.1)) (bA r.2)),.many 1 (map zm a),.no,.many 1 (map zm r.1)]:=by
 refine ⟨⟨t,zhi (sz:=1) (fun _=>y),t,zhi (sz:=1) (fun _=>y),t⟩,zbE Tryz.func148 y kz y ?_⟩
 unfold zfD at h
 refine rg y<|u<|bx 3 4 y y y y<|zb ?_
 refine rg y<|u<|fa ti y y y<|u<|ld ti y y<|zb ?_
 refine zr ?_
 refine zdk (X:=Bool) (fun z=>[(0,.mpt 0 0 0),(3,.mpt 3 0 0),(5,iA i.Op),(9,bA z)]) (fun z=>[some (15,[(vK b c d e (.msl 1 0 (length a)) (.msl 2 0 (length g)) (bA j))]),some (1,map zm a),some (1,map zm g),some (4,[(zx i)])]) (fun z=>zcG b c d e a g j i z=some r) ?_ ?_
 ·
  refine rg y<|u<|eql ti y y<|u<|asg y<|zb ?_
  refine zf y (fun n=>?_) (fun n=>?_)
  ·
   replace h:=bT n h
   refine zi ?_
   exact ⟨(i.Op == (56:Int)),h,zq [.old 0,.old 1,.old 2,.old 3]⟩
  ·
   replace h:=bF n h
   exact rl y<|u<|eql ti y y<|u<|asg y<|zb (⟨(i.Op == (57:Int)),h,zq [.old 0,.old 1,.old 2,.old 3]⟩)
 ·
  rintro G h
  replace h:zcG b c d e a g j i G=some r:=h
  unfold zcG at h
  refine zf y (fun o=>?_) (fun o=>?_)
  ·
   replace h:=bT o h
   obtain ⟨f,H,h⟩:=bs h
   refine rg y<|u<|mv y<|u<|sx [0,1,2] (zcW b c d e a g j H)<|zK (env0:=[(0,.mpt 0 0 0),(3,.mpt 3 0 0)]) (st0:=[some (15,[(vK b c d e (.msl 1 0 (length a)) (.msl 2 0 (length f.2.1)) (bA f.2.2))]),some (1,map zm a),some (1,map zm f.2.1),some (4,[(zx i)])]) (zq [.old 0,.old 1,.old 2,.old 3])<|zb ?_
   obtain ⟨l,I,h⟩:=bs h
   refine rdA [(0,.mpt 0 0 0),(3,.mpt 3 0 0)] [some (15,[(vK b c d e (.msl 1 0 (length a)) (.msl 2 0 (length f.2.1)) (bA (f.2.2||(!l))))]),some (1,map zm a),some (1,map zm f.2.1),some (4,[(zx i)])] [8] [7,6,5,4,3,2,1,0] [(21,bA l),(20,sA i.C),(19,.mpt 3 0 2),(18,.ipt 2 [[.isl 6 (map zd b),.imp (map (rKV (fun x=>iA x)) c)]] 0 0),(17,.mpt 0 0 0),(16,.mpt 0 0 0),(15,.mpt 0 0 0),(14,.mpt 0 0 0)] 1 (ziH ⟨(pb y (pc (zdd b c i.C I) y y y w)),pe,pe,pe,pe,pe,pe,pe,t⟩ ⟨(fun _ _=>⟨_,y,y,sx [0,1,2] (zo b c d e a f.2.1 f.2.2 l y)<|⟨(.tup []),[],[(22,.tup [])],y,y,kz,y,zlb (zq [.old 0,.old 1,.old 2,.old 3])⟩⟩),t⟩) ?_
   refine rg y<|u<|fa ti y y y<|u<|ld ti y y<|u<|eql ti y y<|zb ?_
   refine zf y (fun p=>?_) (fun p=>?_)
   ·
    replace h:=bT p h
    obtain ⟨A,J,h⟩:=bs h
    refine rl y<|u<|mv y<|u<|fa ti y y y<|u<|ld ti y y<|u<|sx [0,1,2] (zs b c d e a f.2.1 (f.2.2||(!l)) i.C J)<|zK (env0:=[]) (st0:=[some (15,[(vK b c d e (.msl 1 0 (length a)) (.msl 3 0 (length A)) (bA (f.2.2||(!l))))]),some (1,map zm a),none,some (1,map zm A)]) (zq [.old 0,.old 1,.dead,.old 4])<|zb ?_
    obtain rfl:=sm h
    exact ⟨_,y,zB [.old 0,.old 1,.dead,.old 3]⟩
   ·
    replace h:=bF p h
    obtain ⟨B,K,h⟩:=bs h
    refine rl y<|u<|mv y<|u<|sx [0,1,2] (zs b c d e a f.2.1 (f.2.2||(!l)) [73] K)<|zK (env0:=[]) (st0:=[some (15,[(vK b c d e (.msl 1 0 (length a)) (.msl 3 0 (length B)) (bA (f.2.2||(!l))))]),some (1,map zm a),none,some (1,map zm B)]) (zq [.old 0,.old 1,.dead,.old 4])<|zb ?_
    obtain rfl:=sm h
    exact ⟨_,y,zB [.old 0,.old 1,.dead,.old 3]⟩
  ·
   replace h:=bF o h
   refine rg y<|u<|eql ti y y<|u<|asg y<|zb ?_
   refine zf y (fun q=>?_) (fun q=>?_)
   ·
    replace h:=bT q h
    obtain ⟨s,L,h⟩:=bs h
    refine rl y<|u<|mv y<|u<|bl 4 ti y ti y (by decide) (by decide) y y y<|zK (env0:=[(34,.mpt 0 0 0),(35,.isl 1 (map zm ([[84,104,114,111,119,110]])))]) (st0:=[some (15,[(vK b c d e (.msl 1 0 (length a)) (.msl 2 0 (length g)) (bA j))]),some (1,map zm a),some (1,map zm g)]) (zq [.old 0,.old 1,.old 2])<|u<|sx [0,1,2] (zw b c d e a g j ([[84,104,114,111,119,110]]) L)<|zK (env0:=[]) (st0:=[some (15,[(vK b c d e (.msl 1 0 (length a)) (.msl 2 0 (length s.1)) (bA s.2))]),some (1,map zm a),some (1,map zm s.1)]) (zq [.old 0,.old 1,.old 2])<|zb ?_
    obtain rfl:=sm h
    exact ⟨_,y,zB [.old 0,.old 1,.dead,.old 2]⟩
   ·
    replace h:=bF q h
    refine rg y<|u<|eql ti y y<|u<|asg y<|zb ?_
    refine zf y (fun m=>?_) (fun m=>?_)
    ·
     replace h:=bT m h
     obtain ⟨D,E,h⟩:=bs h
     refine rl y<|u<|mv y<|u<|sx [0,1,2] (zs b c d e a g j [73] E)<|zK (env0:=[]) (st0:=[some (15,[(vK b c d e (.msl 1 0 (length a)) (.msl 3 0 (length D)) (bA j))]),some (1,map zm a),none,some (1,map zm D)]) (zq [.old 0,.old 1,.dead,.old 4])<|zb ?_
     obtain rfl:=sm h
     exact ⟨_,y,zB [.old 0,.old 1,.dead,.old 3]⟩
    ·
     replace h:=bF m h
     obtain ⟨v,F,h⟩:=bs h
     refine rl y<|u<|mv y<|u<|bl 4 ti y ti y (by decide) (by decide) y y y<|zK (env0:=[(6,.mpt 0 0 0),(7,.isl 1 (map zm ([[73]])))]) (st0:=[some (15,[(vK b c d e (.msl 1 0 (length a)) (.msl 2 0 (length g)) (bA j))]),some (1,map zm a),some (1,map zm g)]) (zq [.old 0,.old 1,.old 2])<|u<|sx [0,1,2] (zw b c d e a g j ([[73]]) F)<|zK (env0:=[]) (st0:=[some (15,[(vK b c d e (.msl 1 0 (length a)) (.msl 2 0 (length v.1)) (bA v.2))]),some (1,map zm a),some (1,map zm v.1)]) (zq [.old 0,.old 1,.old 2])<|zb ?_
     obtain rfl:=sm h
     exact ⟨_,y,zB [.old 0,.old 1,.dead,.old 2]⟩
def zaL(c:List za)(d:T2)(e:T0)(f:zc)(a:T1)(g:T1)(h:Bool)(b:zn):Option (T1×T1×Bool):=
  cond (zaV b.Op 1 7) ((zcK c d e f a g h b).bind fun x=>some (x.1,x.2.1,x.2.2)) (cond (b.Op == (13:Int)) ((zv c d e f a g h ([[73]])).bind fun i=>(zt c d e f a i.1 i.2 [73]).bind fun z=>some (a,z,i.2)) (cond (zaV b.Op 8 19) ((zv c d e f a g h ([[73],[73]])).bind fun j=>(zt c d e f a j.1 j.2 [73]).bind fun A=>some (a,A,j.2)) (cond (b.Op == (20:Int)) (some (a,g,h)) (cond (zaV b.Op 21 26) ((zv c d e f a g h ([[73]])).bind fun l=>some (a,l.1,l.2)) (cond (zaV b.Op 27 32) ((zv c d e f a g h ([[73],[73]])).bind fun m=>some (a,m.1,m.2)) (cond (zaV b.Op 33 34) ((zcv c d e f a g h).bind fun n=>some (a,n.2.1,n.2.2)) (cond (zaV b.Op 35 36) ((zcv c d e f a g h).bind fun o=>(zcv c d e f a o.2.1 o.2.2).bind fun p=>some (a,p.2.1,p.2.2)) (cond ((b.Op == (37:Int))||(zaV b.Op 38 41)) ((zfb c d e f a g h b).bind fun q=>some (a,q.1,q.2)) (cond (zaV b.Op 42 45) ((zfC c d e f a g h b).bind fun r=>some (a,r.1,r.2)) (cond (zaV b.Op 46 48) ((zc0 c d e f a g h b.Op).bind fun s=>some (a,s.1,s.2)) (cond (zaV b.Op 49 55) ((zeR c d e f a g h b).bind fun u=>some (a,u.1,u.2)) ((zfD c d e f a g h b).bind fun v=>some (a,v.1,v.2)))))))))))))
theorem zja(b:List za)(c:T2)(d:T0)(e:zc)(a:T1)(f:T1)(i:Bool)(l:zn){r:T1×T1×Bool}(h:zaL b c d e a f i l=some r):SC Tryz.prog 86 [.mpt 0 0 0,.agg (zx l)] [.one 15 (vK b c d e (.msl 1 0 (length a)) (.msl 2 0 (length f)) (bA i)),.many 1 (map zm a),.many 1 (map zm f)] (.tup []) [.one 15 (vK b c d e (.msl 3 0 (length r.1)) (.msl 4 0 (length r.2.1)) (bA r.2.2)),.no,.no,.many 1 (map zm r.1),.many 1 (map zm r.2.1)]:=by
 refine ⟨⟨t,t,t,zhi (sz:=1) (fun _=>y),zhi (sz:=1) (fun _=>y),t⟩,zbE Tryz.func86 y kz y ?_⟩
 unfold zaL at h
 refine rg y<|u<|bx 3 4 y y y y<|zb ?_
 refine rg y<|u<|fa ti y y y<|u<|ld ti y y<|u<|asg y<|zb ?_
 refine zr ?_
 refine rg y<|u<|mv y<|u<|pc (zbH l.Op 1 7 y) y y y<|u<|asg y<|zb ?_
 refine zf y (fun D=>?_) (fun D=>?_)
 ·
  replace h:=bT D h
  obtain ⟨E,q2,h⟩:=bs h
  refine rl y<|u<|mv y<|u<|ld ti y y<|u<|sx [0,1,2] (ziF b c d e a f i l q2)<|zK (env0:=[]) (st0:=[some (15,[(vK b c d e (.msl 3 0 (length E.1)) (.msl 4 0 (length E.2.1)) (bA E.2.2))]),none,none,some (1,map zm E.1),some (1,map zm E.2.1)]) (zq [.old 0,.dead,.dead,.old 4,.old 5])<|zb ?_
  obtain rfl:=sm h
  exact ⟨_,y,zB [.old 0,.dead,.dead,.old 3,.old 4]⟩
 ·
  replace h:=bF D h
  refine rg y<|u<|mv y<|u<|eql ti y y<|u<|asg y<|zb ?_
  refine zf y (fun F=>?_) (fun F=>?_)
  ·
   replace h:=bT F h
   obtain ⟨m,q4,h⟩:=bs h
   refine rg y<|u<|mv y<|u<|bl 4 ti y ti y (by decide) (by decide) y y y<|zK (env0:=[(0,.mpt 0 0 0),(19,.mpt 0 0 0),(20,.isl 1 (map zm ([[73]])))]) (st0:=[some (15,[(vK b c d e (.msl 1 0 (length a)) (.msl 2 0 (length f)) (bA i))]),some (1,map zm a),some (1,map zm f)]) (zq [.old 0,.old 1,.old 2])<|u<|sx [0,1,2] (zw b c d e a f i ([[73]]) q4)<|zK (env0:=[(0,.mpt 0 0 0)]) (st0:=[some (15,[(vK b c d e (.msl 1 0 (length a)) (.msl 2 0 (length m.1)) (bA m.2))]),some (1,map zm a),some (1,map zm m.1)]) (zq [.old 0,.old 1,.old 2])<|zb ?_
   obtain ⟨R,q5,h⟩:=bs h
   refine rl y<|u<|mv y<|u<|sx [0,1,2] (zs b c d e a m.1 m.2 [73] q5)<|zK (env0:=[]) (st0:=[some (15,[(vK b c d e (.msl 1 0 (length a)) (.msl 3 0 (length R)) (bA m.2))]),some (1,map zm a),none,some (1,map zm R)]) (zq [.old 0,.old 1,.dead,.old 3])<|zb ?_
   obtain rfl:=sm h
   exact ⟨_,y,zB [.old 0,.dead,.dead,.old 1,.old 3]⟩
  ·
   replace h:=bF F h
   refine rg y<|u<|mv y<|u<|pc (zbH l.Op 8 19 y) y y y<|u<|asg y<|zb ?_
   refine zf y (fun G=>?_) (fun G=>?_)
   ·
    replace h:=bT G h
    obtain ⟨n,q7,h⟩:=bs h
    refine rg y<|u<|mv y<|u<|bl 4 ti y ti y (by decide) (by decide) y y y<|zK (env0:=[(0,.mpt 0 0 0),(27,.mpt 0 0 0),(28,.isl 1 (map zm ([[73],[73]])))]) (st0:=[some (15,[(vK b c d e (.msl 1 0 (length a)) (.msl 2 0 (length f)) (bA i))]),some (1,map zm a),some (1,map zm f)]) (zq [.old 0,.old 1,.old 2])<|u<|sx [0,1,2] (zw b c d e a f i ([[73],[73]]) q7)<|zK (env0:=[(0,.mpt 0 0 0)]) (st0:=[some (15,[(vK b c d e (.msl 1 0 (length a)) (.msl 2 0 (length n.1)) (bA n.2))]),some (1,map zm a),some (1,map zm n.1)]) (zq [.old 0,.old 1,.old 2])<|zb ?_
    obtain ⟨S,q8,h⟩:=bs h
    refine rl y<|u<|mv y<|u<|sx [0,1,2] (zs b c d e a n.1 n.2 [73] q8)<|zK (env0:=[]) (st0:=[some (15,[(vK b c d e (.msl 1 0 (length a)) (.msl 3 0 (length S)) (bA n.2))]),some (1,map zm a),none,some (1,map zm S)]) (zq [.old 0,.old 1,.dead,.old 3])<|zb ?_
    obtain rfl:=sm h
    exact ⟨_,y,zB [.old 0,.dead,.dead,.old 1,.old 3]⟩
   ·
    replace h:=bF G h
    refine rg y<|u<|mv y<|u<|eql ti y y<|u<|asg y<|zb ?_
    refine zf y (fun H=>?_) (fun H=>?_)
    ·
     replace h:=bT H h
     refine zi ?_
     obtain rfl:=sm h
     exact ⟨_,y,zB [.old 0,.dead,.dead,.old 1,.old 2]⟩
    ·
     replace h:=bF H h
     refine rg y<|u<|mv y<|u<|pc (zbH l.Op 21 26 y) y y y<|u<|asg y<|zb ?_
     refine zf y (fun p=>?_) (fun p=>?_)
     ·
      replace h:=bT p h
      obtain ⟨I,T,h⟩:=bs h
      refine rl y<|u<|mv y<|u<|bl 4 ti y ti y (by decide) (by decide) y y y<|zK (env0:=[(38,.mpt 0 0 0),(39,.isl 1 (map zm ([[73]])))]) (st0:=[some (15,[(vK b c d e (.msl 1 0 (length a)) (.msl 2 0 (length f)) (bA i))]),some (1,map zm a),some (1,map zm f)]) (zq [.old 0,.old 1,.old 2])<|u<|sx [0,1,2] (zw b c d e a f i ([[73]]) T)<|zK (env0:=[]) (st0:=[some (15,[(vK b c d e (.msl 1 0 (length a)) (.msl 2 0 (length I.1)) (bA I.2))]),some (1,map zm a),some (1,map zm I.1)]) (zq [.old 0,.old 1,.old 2])<|zb ?_
      obtain rfl:=sm h
      exact ⟨_,y,zB [.old 0,.dead,.dead,.old 1,.old 2]⟩
     ·
      replace h:=bF p h
      refine rg y<|u<|mv y<|u<|pc (zbH l.Op 27 32 y) y y y<|u<|asg y<|zb ?_
      refine zf y (fun q=>?_) (fun q=>?_)
      ·
       replace h:=bT q h
       obtain ⟨J,U,h⟩:=bs h
       refine rl y<|u<|mv y<|u<|bl 4 ti y ti y (by decide) (by decide) y y y<|zK (env0:=[(44,.mpt 0 0 0),(45,.isl 1 (map zm ([[73],[73]])))]) (st0:=[some (15,[(vK b c d e (.msl 1 0 (length a)) (.msl 2 0 (length f)) (bA i))]),some (1,map zm a),some (1,map zm f)]) (zq [.old 0,.old 1,.old 2])<|u<|sx [0,1,2] (zw b c d e a f i ([[73],[73]]) U)<|zK (env0:=[]) (st0:=[some (15,[(vK b c d e (.msl 1 0 (length a)) (.msl 2 0 (length J.1)) (bA J.2))]),some (1,map zm a),some (1,map zm J.1)]) (zq [.old 0,.old 1,.old 2])<|zb ?_
       obtain rfl:=sm h
       exact ⟨_,y,zB [.old 0,.dead,.dead,.old 1,.old 2]⟩
      ·
       replace h:=bF q h
       refine rg y<|u<|mv y<|u<|pc (zbH l.Op 33 34 y) y y y<|u<|asg y<|zb ?_
       refine zf y (fun s=>?_) (fun s=>?_)
       ·
        replace h:=bT s h
        obtain ⟨K,V,h⟩:=bs h
        refine rl y<|u<|mv y<|u<|sx [0,1,2] (zcW b c d e a f i V)<|zK (env0:=[]) (st0:=[some (15,[(vK b c d e (.msl 1 0 (length a)) (.msl 2 0 (length K.2.1)) (bA K.2.2))]),some (1,map zm a),some (1,map zm K.2.1)]) (zq [.old 0,.old 1,.old 2])<|zb ?_
        obtain rfl:=sm h
        exact ⟨_,y,zB [.old 0,.dead,.dead,.old 1,.old 2]⟩
       ·
        replace h:=bF s h
        refine rg y<|u<|mv y<|u<|pc (zbH l.Op 35 36 y) y y y<|u<|asg y<|zb ?_
        refine zf y (fun v=>?_) (fun v=>?_)
        ·
         replace h:=bT v h
         obtain ⟨o,W,h⟩:=bs h
         refine rg y<|u<|mv y<|u<|sx [0,1,2] (zcW b c d e a f i W)<|zK (env0:=[(0,.mpt 0 0 0)]) (st0:=[some (15,[(vK b c d e (.msl 1 0 (length a)) (.msl 2 0 (length o.2.1)) (bA o.2.2))]),some (1,map zm a),some (1,map zm o.2.1)]) (zq [.old 0,.old 1,.old 2])<|zb ?_
         obtain ⟨L,X,h⟩:=bs h
         refine rl y<|u<|mv y<|u<|sx [0,1,2] (zcW b c d e a o.2.1 o.2.2 X)<|zK (env0:=[]) (st0:=[some (15,[(vK b c d e (.msl 1 0 (length a)) (.msl 2 0 (length L.2.1)) (bA L.2.2))]),some (1,map zm a),some (1,map zm L.2.1)]) (zq [.old 0,.old 1,.old 2])<|zb ?_
         obtain rfl:=sm h
         exact ⟨_,y,zB [.old 0,.dead,.dead,.old 1,.old 2]⟩
        ·
         replace h:=bF v h
         refine rg y<|u<|mv y<|u<|eql ti y y<|u<|mv y<|ze6 (j:=2) 2 y y y y y gpn (fun x=>g y x<|mv y<|g y x<|pc (zbH l.Op 38 41 y) y y y<|zb (egO [63,64] 2 x y y y y)) orT<|u<|asg y<|zb ?_
         refine zf y (fun z=>?_) (fun z=>?_)
         ·
          replace h:=bT z h
          obtain ⟨M,Y,h⟩:=bs h
          refine rl y<|u<|mv y<|u<|ld ti y y<|u<|sx [0,1,2] (zit b c d e a f i l Y)<|zK (env0:=[]) (st0:=[some (15,[(vK b c d e (.msl 1 0 (length a)) (.msl 3 0 (length M.1)) (bA M.2))]),some (1,map zm a),none,some (1,map zm M.1)]) (zq [.old 0,.old 1,.dead,.old 4])<|zb ?_
          obtain rfl:=sm h
          exact ⟨_,y,zB [.old 0,.dead,.dead,.old 1,.old 3]⟩
         ·
          replace h:=bF z h
          refine rg y<|u<|mv y<|u<|pc (zbH l.Op 42 45 y) y y y<|u<|asg y<|zb ?_
          refine zf y (fun A=>?_) (fun A=>?_)
          ·
           replace h:=bT A h
           obtain ⟨N,Z,h⟩:=bs h
           refine rl y<|u<|mv y<|u<|ld ti y y<|u<|sx [0,1,2] (ziE b c d e a f i l Z)<|zK (env0:=[]) (st0:=[some (15,[(vK b c d e (.msl 1 0 (length a)) (.msl 3 0 (length N.1)) (bA N.2))]),some (1,map zm a),none,some (1,map zm N.1)]) (zq [.old 0,.old 1,.dead,.old 4])<|zb ?_
           obtain rfl:=sm h
           exact ⟨_,y,zB [.old 0,.dead,.dead,.old 1,.old 3]⟩
          ·
           replace h:=bF A h
           refine rg y<|u<|mv y<|u<|pc (zbH l.Op 46 48 y) y y y<|u<|asg y<|zb ?_
           refine zf y (fun B=>?_) (fun B=>?_)
           ·
            replace h:=bT B h
            obtain ⟨O,q25,h⟩:=bs h
            refine rl y<|u<|mv y<|u<|mv y<|u<|sx [0,1,2] (zjb b c d e a f i l.Op q25)<|zK (env0:=[]) (st0:=[some (15,[(vK b c d e (.msl 1 0 (length a)) (.msl 2 0 (length O.1)) (bA O.2))]),some (1,map zm a),some (1,map zm O.1)]) (zq [.old 0,.old 1,.old 2])<|zb ?_
            obtain rfl:=sm h
            exact ⟨_,y,zB [.old 0,.dead,.dead,.old 1,.old 2]⟩
           ·
            replace h:=bF B h
            refine rg y<|u<|mv y<|u<|pc (zbH l.Op 49 55 y) y y y<|u<|asg y<|zb ?_
            refine zf y (fun C=>?_) (fun C=>?_)
            ·
             replace h:=bT C h
             obtain ⟨P,q27,h⟩:=bs h
             refine rl y<|u<|mv y<|u<|ld ti y y<|u<|sx [0,1,2] (zhV b c d e a f i l q27)<|zK (env0:=[]) (st0:=[some (15,[(vK b c d e (.msl 1 0 (length a)) (.msl 3 0 (length P.1)) (bA P.2))]),some (1,map zm a),none,some (1,map zm P.1)]) (zq [.old 0,.old 1,.dead,.old 4])<|zb ?_
             obtain rfl:=sm h
             exact ⟨_,y,zB [.old 0,.dead,.dead,.old 1,.old 3]⟩
            ·
             replace h:=bF C h
             obtain ⟨Q,q28,h⟩:=bs h
             refine rl y<|u<|mv y<|u<|ld ti y y<|u<|sx [0,1,2] (ziG b c d e a f i l q28)<|zK (env0:=[]) (st0:=[some (15,[(vK b c d e (.msl 1 0 (length a)) (.msl 3 0 (length Q.1)) (bA Q.2))]),some (1,map zm a),none,some (1,map zm Q.1)]) (zq [.old 0,.old 1,.dead,.old 4])<|zb ?_
             obtain rfl:=sm h
             exact ⟨_,y,zB [.old 0,.dead,.dead,.old 1,.old 3]⟩
def ze4(b:T1)(c:T1)(a:Bool):Option (Bool):=
  some (!a)
def zdn(e:zc)(b:Int)(c:zn)(a:T1×T1×Bool)(d:Bool):Option (Sum (T1×T1×Bool×Bool×Int) (Sum (T1×T1×Bool) (Bool))):=
  some (.inl (a.1,a.2.1,(d||(!(decide (((length a.2.1):Int)≤e.Stack)))),(!(zi4 c.Op)),(IntKind.i64.wrap (b+1))))
def zam(g:T0)(d:zy)(e:zc)(h:T1)(i:T1)(j:Bool)(m:Bool)(a:Int):Option (Sum (T1×T1×Bool×Bool×Int) (Sum (T1×T1×Bool) (Bool))):=
  cond (decide (a<(length e.Code:Int))) ((idx e.Code a).bind fun f=>(zc8 d.l d.at_ g e h i j a m).bind fun b=>cond b.2.2 (some (.inr (.inr false))) ((zc9 d.l d.at_ g e b.1 b.2.1 b.2.2 a).bind fun n=>(zaL d.l d.at_ g e b.1 b.2.1 n f).bind fun c=>cond (zhs f.Op) ((zcJ d.l d.at_ g e c.1 c.2.1 c.2.2 f.A).bind fun o=>zdn e a f c o) (zdn e a f c c.2.2))) (some (.inr (.inl (h,i,j))))
def zgE(e:T0)(f:zy)(g:zc)(a:Bool)(c:Bool)(d:T1):Option (Bool):=
  (zz (fun z=>zam e f g z.1 z.2.1 z.2.2.1 z.2.2.2.1 z.2.2.2.2) (d,[],(a||(!c)),true,0)).bind fun o=>zaq o (fun b=>ze4 b.1 b.2.1 b.2.2) some
def zee(c:zc)(a:T1):Option (Sum (T1) (Sum (T1) (Bool))):=
  cond (decide (((length a):Int)<c.Locals)) ((ziA 16 a ([[84]])).bind fun b=>some (.inl b)) (some (.inr (.inl a)))
def zc5(g:T0)(h:zy)(a:zc)(c:Bool)(d:Bool)(e:T1):Option (Bool):=
  (ziA 16 e a.Params).bind fun f=>(zz (fun z=>zee a z) f).bind fun o=>zaq o (fun b=>zgE g h a c d b) some
def zc4(e:T0)(a:zy)(b:zc)(c:Bool):Option (Bool):=
  (zf3 b.Params a.l a.at_).bind fun d=>cond (!b.Static) ((ziA 16 ([]:T1) [e]).bind fun f=>zc5 e a b c d f) (zc5 e a b c d [])
def zed(d:T0)(b:zy)(a:zc)(c:Bool):Option (Bool):=
  cond (a.Ret == [86]) (zc4 d b a (c||(!true))) ((zcg b.l b.at_ a.Ret a.Ret).bind fun e=>zc4 d b a (c||(!e)))
def zci(b:zy)(e:zc)(c:Bool)(a:Int):Option (Sum (Bool×Int) (Sum (Bool) (Bool))):=
  cond (decide (a<(length e.Maps:Int))) ((idx e.Maps a).bind fun d=>(zgO d.Locals b.l b.at_).bind fun f=>(cond f ((zgO d.Stack b.l b.at_).bind fun g=>some g) (some false)).bind fun h=>some (.inl ((c||(!h)),(IntKind.i64.wrap (a+1))))) (some (.inr (.inl c)))
def za3(g:Option zy)(e:T0)(a:Int):Option (Bool):=
  zsh g (none) (fun c=>(zE c.l c.at_ e).bind fun d=>(cond (((!d.2)||(decide (a<0)))||(decide ((length d.1.Methods:Int)≤a))) (some true) ((idx d.1.Methods a).bind fun h=>some h.Abstract)).bind fun i=>cond i (some false) ((idx d.1.Methods a).bind fun f=>(zz (fun z=>zci c f z.1 z.2) (false,0)).bind fun o=>zaq o (fun b=>zed e c f b) some))
theorem zcz(v1:Option zy)(d:T0)(W:Int){r:Bool}(h:za3 v1 d W=some r):zu Tryz.prog 40 [zjm 2 zcf v1,sA d,iA W] (bA r):=by
 refine zl Tryz.func40 y kz y y ?_
 unfold za3 at h
 rcases v1 with _ |a
 ·
  replace h:=oeN h
  cases h
 ·
  replace h:=oeS h
  refine rg y<|u<|bx 0 1 y y y y<|u<|asg y<|zb ?_
  obtain ⟨v5,q1,h⟩:=bs h
  refine rg y<|u<|ld ti y y<|u<|mv y<|u<|pc (zG a.l a.at_ d q1) y y y<|u<|mv y<|u<|ex y y<|u<|ex y y<|u<|al 1 ti y<|u<|sto ti y y y<|u<|asg y<|zb ?_
  refine zj ?_
  obtain ⟨v7,P,h⟩:=bs h
  refine rg y<|u<|mv y<|u<|nt y<|u<|mv y<|ze6 (j:=2) 2 y y y y y gpn (fun Q=>g y Q<|mv y<|g y Q<|lss ti y y<|zb (egO [25,26] 2 Q y y y y)) orT<|u<|mv y<|ze6 (j:=6) 5 y y y y y gpn (fun D=>g y D<|mv y<|g y D<|fa ti y y y<|g y D<|ld ti y y<|g y D<|lnI ti y y<|g y D<|geq ti y y<|zb (egO [29,30,31,32,33] 5 D y y y y)) orT<|u<|mv y<|ze6 (x:=v7) (j:=13) 6 y y y y y gpn (fun s=>by replace P:=bF s P;obtain ⟨v6,q5,P⟩:=bs P;obtain rfl:=sm P;exact g y s<|fa ti y y y<|g y s<|ld ti y y<|g y s<|mv y<|g y s<|ixI ti y ti y y y q5<|g y s<|fa ti y y y<|g y s<|ldI ti y (zp q5).2.2 y<|zb (eg [36,37,38,39,40,41] 6 y y y y)) (fun hb=>(sm (bT hb P)).symm)<|zb ?_
  refine zf y (fun S=>?_) (fun S=>?_)
  ·
   replace h:=bT S h
   refine rg y<|u<|asg y<|zb ?_
   refine zg ?_
   obtain rfl:=sm h
   exact ⟨_,y,zB []⟩
  ·
   replace h:=bF S h
   refine zi ?_
   obtain ⟨c,Y,h⟩:=bs h
   refine rdA [(1,sA d),(3,.mpt 0 0 0),(9,.mpt 1 0 0)] [some (1,[[.ipt 2 [[.isl 6 (map zd a.l),.imp (map (rKV (fun x=>iA x)) a.at_)]] 0 0]]),some (15,[(vK a.l a.at_ d c (.lit (.slice none 0 0)) (.lit (.slice none 0 0)) (bA false))])] [8] [7,6,5,4,3,2,1,0] [(50,.agg [.ipt 2 [[.isl 6 (map zd a.l),.imp (map (rKV (fun x=>iA x)) a.at_)]] 0 0,sA d,sA c.Name,.isl 1 (map zm c.Params),sA c.Ret,bA c.Static,bA c.Abstract,iA c.Locals,iA c.Stack,.isl 4 (map zx c.Code),.isl 3 (map zaG c.Maps),.isl 4 (map zap c.Traps),.lit (.slice none 0 0),.lit (.slice none 0 0),bA false]),(49,.agg (ze c)),(48,.ipt 10 (map ze v5.1.Methods) (Int.toNat W) 0),(47,iA W),(46,.isl 10 (map ze v5.1.Methods)),(45,.mpt 1 0 5),(44,sA d),(43,.ipt 2 [[.isl 6 (map zd a.l),.imp (map (rKV (fun x=>iA x)) a.at_)]] 0 0)] 1 (ziH ⟨(pb y (bd ti y y y w)),(pb y (ldI ti y (zp Y).2.2 y w)),(pb y (ixI ti y ti y y y Y w)),pe,pe,pe,pe,pe,t⟩ ⟨(fun _ _=>⟨_,y,y,bx 2 15 y y y y<|⟨(.mpt 2 0 0),[9],[(9,.mpt 2 0 0),(51,.mpt 2 0 0)],y,y,kz,y,zjh ⟨pe,pe,(pb y (ldI ti y (zp Y).2.2 y w)),(pb y (ixI ti y ti y y y Y w)),pe,pe,pe,pe,pe,t⟩ (zq [.old 0,.old 2])⟩⟩),t⟩) ?_
   refine zj ?_
   refine rg y<|u<|mv y<|u<|nc y y<|u<|fa ti y y y<|u<|fa ti y y y<|u<|ld ti y y<|u<|lnI ti y y<|u<|mv y<|zb ?_
   obtain ⟨o,ho,h⟩:=bs h
   refine zaN (X:=Bool×Int) (B:=Bool) (R:=Bool) (fun z=>[(1,sA d),(3,.mpt 0 0 0),(9,.mpt 1 0 0),(56,.isl 3 (map zaG c.Maps)),(57,iA (length c.Maps:Int)),(58,iA z.2)]) (fun z=>[some (1,[[.ipt 2 [[.isl 6 (map zd a.l),.imp (map (rKV (fun x=>iA x)) a.at_)]] 0 0]]),some (15,[(vK a.l a.at_ d c (.msl 2 0 0) (.msl 3 0 0) (bA z.1))]),some (1,map zm []),some (1,map zm [])]) (fun b=>[(1,sA d),(3,.mpt 0 0 0),(9,.mpt 1 0 0)]) (fun b=>[some (1,[[.ipt 2 [[.isl 6 (map zd a.l),.imp (map (rKV (fun x=>iA x)) a.at_)]] 0 0]]),some (15,[(vK a.l a.at_ d c (.msl 2 0 0) (.msl 3 0 0) (bA b))]),some (1,map zm []),some (1,map zm [])]) (fun r env st=>zb6 Tryz.prog Tryz.f40 0 (bA r) [] env st) ho ⟨[.old 0,.old 1,.fresh 1,.fresh 1],ce y y<|cv y (.mpt y)<|cv y (.mpt y)<|ce y y<|ce y y<|ce y y<|cn,y,⟨⟨_,y,zl8 ⟨ci y,t⟩⟩,⟨_,y,zl8 (zvK y (by exact ⟨.nilown y,.nilown y,ci y,t⟩))⟩,w,w,t⟩,y,k⟩ ?_ ?_ ?_
   ·
    rintro ⟨T,Z⟩ r h
    replace h:zci a c T Z=some r:=h
    unfold zci at h
    refine rg y<|u<|lss ti y y<|zb ?_
    refine zj ?_
    refine zf y (fun I=>?_) (fun I=>?_)
    ·
     replace h:=bT I h
     refine zi ?_
     refine zj ?_
     refine zr ?_
     obtain ⟨v17,q16,h⟩:=bs h
     refine rg y<|u<|ixI ti y ti y y y q16<|u<|ldI ti y (zp q16).2.2 y<|u<|al 4 ti y<|u<|sto ti y y y<|zb ?_
     refine rg y<|u<|mf y y<|u<|asg y<|zb ?_
     obtain ⟨v18,q17,h⟩:=bs h
     obtain ⟨U,E,h⟩:=bs h
     refine rl y<|u<|mv y<|u<|fa ti y y y<|u<|ld ti y y<|u<|mv y<|u<|pcs (zkr v17.Locals a.l a.at_ q17) y y (.cons (si y) (.cons (zd0 t ⟨(zcb y ⟨(si y),t⟩),t⟩) .nil)) zdb<|u<|mv y<|zbq (x:=U) (j:=5) 4 y y y y y gpn (fun v=>by replace E:=bT v E;obtain ⟨v19,q19,E⟩:=bs E;obtain rfl:=sm E;exact g y v<|fa ti y y y<|g y v<|ld ti y y<|g y v<|mv y<|g y v<|pcs (zkr v17.Stack a.l a.at_ q19) y y (.cons (si y) (.cons (zd0 t ⟨(zcb y ⟨(si y),t⟩),t⟩) .nil)) zdb<|zb (eg [69,70,71,72] 4 y y y y)) (fun hb=>(sm (bF hb E)).symm)<|u<|sx [1,2,3] (zo a.l a.at_ d c [] [] T U y)<|zK (env0:=[(1,sA d),(3,.mpt 0 0 0),(9,.mpt 1 0 0),(56,.isl 3 (map zaG c.Maps)),(57,iA (length c.Maps:Int)),(58,iA Z)]) (st0:=[some (1,[[.ipt 2 [[.isl 6 (map zd a.l),.imp (map (rKV (fun x=>iA x)) a.at_)]] 0 0]]),some (15,[(vK a.l a.at_ d c (.msl 2 0 0) (.msl 3 0 0) (bA (T||(!U))))]),some (1,map zm []),some (1,map zm [])]) (zq [.old 0,.old 1,.old 2,.old 3])<|zb ?_
     refine rl y<|u<|add ti y y<|u<|mv y<|zb ?_
     obtain rfl:=sm h
     exact ⟨_,y,zq [.old 0,.old 1,.old 2,.old 3]⟩
    ·
     replace h:=bF I h
     refine zQ ?_
     obtain rfl:=sm h
     exact ⟨y,_,y,zq [.old 0,.old 1,.old 2,.old 3]⟩
   ·
    rintro G rfl
    replace h:zed d a c G=some r:=h
    unfold zed at h
    refine zD ?_
    refine zdk (X:=Bool) (fun z=>[(1,sA d),(3,.mpt 0 0 0),(9,.mpt 1 0 0)]) (fun z=>[some (1,[[.ipt 2 [[.isl 6 (map zd a.l),.imp (map (rKV (fun x=>iA x)) a.at_)]] 0 0]]),some (15,[(vK a.l a.at_ d c (.msl 2 0 0) (.msl 3 0 0) (bA z))]),some (1,map zm []),some (1,map zm [])]) (fun z=>zc4 d a c z=some r) ?_ ?_
    ·
     rcases bb (c.Ret == [86]) with F |F
     ·
      replace h:=bT F h
      exact zb5 [21] [20,19,18,17,16,15,14,13,12,11,10,9,8,7,6,5,4,3,2,1,0] [(96,bA true),(95,.lit undef),(94,.lit undef),(93,.lit undef),(92,.lit undef),(91,.lit undef),(90,.lit undef),(89,.lit undef),(88,.lit undef),(87,.lit undef),(86,.lit undef),(85,.lit undef),(84,.lit undef),(83,bA (c.Ret == [86])),(82,bA (c.Ret == [86])),(81,sA c.Ret),(80,.mpt 1 0 4),(79,.mpt 1 0 2),(78,.mpt 1 0 0),(77,.mpt 1 0 0),(76,.mpt 1 0 0)] 1 kz kz y kz (zkD ⟨(fun _ _=>⟨_,y,y,sc [1,2,3] (args:=[.mpt 1 0 0,bA true]) (zo a.l a.at_ d c [] [] G true y) y y y y ⟨(.mpt y),(rnI y),t⟩ ⟨⟨_,y,(zst y ⟨(.msl y),(.msl y),(rnI y),t⟩)⟩,⟨y,mkI (fun _=>y)⟩,⟨y,mkI (fun _=>y)⟩,t⟩<|⟨(.tup []),[],[(97,.tup [])],y,y,kz,y,zlb ⟨(G||(!true)),h,zq [.old 0,.old 1,.old 2,.old 3]⟩⟩⟩),t⟩)
     ·
      replace h:=bF F h
      obtain ⟨H,q22,h⟩:=bs h
      exact zb5 [21] [20,19,18,17,16,15,14,13,12,11,10,9,8,7,6,5,4,3,2,1,0] [(96,bA H),(95,bA H),(94,sA c.Ret),(93,.mpt 1 0 4),(92,.mpt 1 0 2),(91,.mpt 1 0 0),(90,.mpt 1 0 0),(89,sA c.Ret),(88,.mpt 1 0 4),(87,.mpt 1 0 2),(86,.mpt 1 0 0),(85,.mpt 1 0 0),(84,.ipt 2 [[.isl 6 (map zd a.l),.imp (map (rKV (fun x=>iA x)) a.at_)]] 0 0),(83,bA (c.Ret == [86])),(82,bA (c.Ret == [86])),(81,sA c.Ret),(80,.mpt 1 0 4),(79,.mpt 1 0 2),(78,.mpt 1 0 0),(77,.mpt 1 0 0),(76,.mpt 1 0 0)] 1 kz kz y kz (ziH ⟨pe,(fun _=>pag (b:=(c.Ret == [86])) y y y y F y (pc (zcH a.l a.at_ c.Ret c.Ret q22) y y y<|w)),pe,pe,pe,pe,pe,pe,pe,pe,pe,pe,pe,pe,pe,pe,pe,pe,pe,pe,pe,t⟩ ⟨(fun _ _=>⟨_,y,y,sc [1,2,3] (args:=[.mpt 1 0 0,bA H]) (zo a.l a.at_ d c [] [] G H y) y y y y ⟨(.mpt y),(rnI y),t⟩ ⟨⟨_,y,(zst y ⟨(.msl y),(.msl y),(rnI y),t⟩)⟩,⟨y,mkI (fun _=>y)⟩,⟨y,mkI (fun _=>y)⟩,t⟩<|⟨(.tup []),[],[(97,.tup [])],y,y,kz,y,zlb ⟨(G||(!H)),h,zq [.old 0,.old 1,.old 2,.old 3]⟩⟩⟩),t⟩)
    ·
     rintro p h
     replace h:zc4 d a c p=some r:=h
     unfold zc4 at h
     obtain ⟨q,q23,h⟩:=bs h
     refine rg y<|u<|mv y<|u<|mv y<|u<|nc y y<|u<|fa ti y y y<|u<|fa ti y y y<|u<|ld ti y y<|u<|mf y y<|u<|pcs (zlg c.Params a.l a.at_ q23) y y (.cons (si y) (.cons (zd0 t ⟨(zcb y ⟨(si y),t⟩),t⟩) .nil)) zdb<|u<|sx [1,2,3] (zo a.l a.at_ d c [] [] p q y)<|zK (env0:=[(1,sA d),(9,.mpt 0 0 0)]) (st0:=[some (15,[(vK a.l a.at_ d c (.msl 1 0 0) (.msl 2 0 0) (bA (p||(!q))))]),some (1,map zm []),some (1,map zm [])]) (zq [.old 1,.old 2,.old 3])<|zb ?_
     refine zdk (X:=T1) (fun z=>[(9,.mpt 0 0 0)]) (fun z=>[some (15,[(vK a.l a.at_ d c (.msl 1 0 (length z)) (.msl 2 0 0) (bA (p||(!q))))]),some (1,map zm z),some (1,map zm [])]) (fun z=>zc5 d a c p q z=some r) ?_ ?_
     ·
      refine rg y<|u<|mv y<|u<|nc y y<|u<|fa ti y y y<|u<|fa ti y y y<|u<|ld ti y y<|u<|nt y<|zb ?_
      refine zf y (fun J=>?_) (fun J=>?_)
      ·
       replace h:=bT J h
       obtain ⟨v25,q25,h⟩:=bs h
       exact rl y<|u<|mv y<|u<|mv y<|u<|nc y y<|u<|fa ti y y y<|u<|ld ti y y<|u<|mv y<|u<|bl 3 ti y ti y (by decide) (by decide) y y y<|u<|apM 4 ti y ti y y (by decide) ti y y y y (roX (f:=zm) (z:=[d]) y y) (fun _=>y) y q25<|u<|nc y y<|u<|fa ti y y y<|u<|sto ti y y y<|zb (⟨v25,h,zq [.old 0,.old 4,.old 2]⟩)
      ·
       replace h:=bF J h
       refine zi ?_
       exact ⟨[],h,zq [.old 0,.old 1,.old 2]⟩
     ·
      rintro v26 h
      replace h:zc5 d a c p q v26=some r:=h
      unfold zc5 at h
      obtain ⟨O,q26,h⟩:=bs h
      refine rdA [(9,.mpt 0 0 0)] [some (15,[(vK a.l a.at_ d c (.msl 1 0 (length O)) (.msl 2 0 0) (bA (p||(!q))))]),some (1,map zm O),some (1,map zm [])] [10,13] [9,8,7,6,5,4,3,2,1,0] [(132,.isl 1 (map zm c.Params)),(131,.mpt 0 0 3),(130,.mpt 0 0 2),(129,.mpt 0 0 0),(128,.mpt 0 0 0),(127,.msl 1 0 (length v26)),(126,.mpt 0 0 12),(125,.mpt 0 0 0),(124,.mpt 0 0 0),(123,.mpt 0 0 0)] 2 (zkD ⟨(fun _ _=>⟨_,y,y,apM 3 ti y ti y y (by decide) ti y y y y roI (fun _=>y) y q26<|⟨(.msl 3 0 (length O)),[12,11],[(135,.mpt 0 0 12),(134,.mpt 0 0 0),(133,.msl 3 0 (length O))],y,y,kz,y,zkD ⟨nv,(fun _ _=>⟨_,y,y,sto ti y y y<|⟨.any,[],[],y,y,kz,t,zlb (zq [.old 0,.old 3,.old 2])⟩⟩),t⟩⟩⟩),nw,t⟩) ?_
      obtain ⟨o,ho,h⟩:=bs h
      refine zvz (X:=T1) (B:=T1) (R:=Bool) (fun z=>[(9,.mpt 0 0 0)]) (fun z=>[some (15,[(vK a.l a.at_ d c (.msl 1 0 (length z)) (.msl 2 0 0) (bA (p||(!q))))]),some (1,map zm z),some (1,map zm [])]) (fun b=>[(9,.mpt 0 0 0)]) (fun b=>[some (15,[(vK a.l a.at_ d c (.msl 1 0 (length b)) (.msl 2 0 0) (bA (p||(!q))))]),some (1,map zm b),some (1,map zm [])]) (fun r env st=>zb6 Tryz.prog Tryz.f40 0 (bA r) [] env st) ho (zq [.old 0,.old 1,.old 2]) ?_ ?_ ?_
      ·
       rintro C r h
       replace h:zee c C=some r:=h
       unfold zee at h
       refine zj ?_
       refine rdA [(9,.mpt 0 0 0),(146,bA (decide (((length C):Int)<c.Locals)))] [some (15,[(vK a.l a.at_ d c (.msl 1 0 (length C)) (.msl 2 0 0) (bA (p||(!q))))]),some (1,map zm C),some (1,map zm [])] [] [10,9,8,7,6,5,4,3,2,1,0] [(146,bA (decide (((length C):Int)<c.Locals))),(145,iA c.Locals),(144,.mpt 0 0 7),(143,.mpt 0 0 2),(142,.mpt 0 0 0),(141,.mpt 0 0 0),(140,iA ((length C):Int)),(139,.msl 1 0 (length C)),(138,.mpt 0 0 12),(137,.mpt 0 0 0),(136,.mpt 0 0 0)] 0 (zjh ⟨pe,pe,pe,pe,pe,pe,(pb y (lnM ti y y y w)),pe,pe,pe,pe,t⟩ (zq [.old 0,.old 1,.old 2])) ?_
       refine zf y (fun K=>?_) (fun K=>?_)
       ·
        replace h:=bT K h
        refine zi ?_
        refine zr ?_
        obtain ⟨v31,q30,h⟩:=bs h
        refine rl y<|u<|mv y<|u<|mv y<|u<|nc y y<|u<|fa ti y y y<|u<|ld ti y y<|u<|bl 3 ti y ti y (by decide) (by decide) y y y<|u<|apM 4 ti y ti y y (by decide) ti y y y y (roX (f:=zm) (z:=[[84]]) y y) (fun _=>y) y q30<|u<|nc y y<|u<|fa ti y y y<|u<|sto ti y y y<|zb ?_
        obtain rfl:=sm h
        exact ⟨_,y,zq [.old 0,.old 4,.old 2]⟩
       ·
        replace h:=bF K h
        refine zQ ?_
        obtain rfl:=sm h
        exact ⟨y,_,y,zq [.old 0,.old 1,.old 2]⟩
      ·
       rintro v32 rfl
       replace h:zgE d a c p q v32=some r:=h
       unfold zgE at h
       refine rg y<|u<|asg y<|zb ?_
       refine zj ?_
       refine rg y<|u<|mv y<|u<|nc y y<|u<|fa ti y y y<|u<|fa ti y y y<|u<|ld ti y y<|u<|lnI ti y y<|u<|mv y<|zb ?_
       obtain ⟨o,ho,h⟩:=bs h
       refine zaN (X:=T1×T1×Bool×Bool×Int) (B:=T1×T1×Bool) (R:=Bool) (fun z=>[(9,.mpt 0 0 0),(13,bA z.2.2.2.1),(160,.isl 4 (map zx c.Code)),(161,iA (length c.Code:Int)),(162,iA z.2.2.2.2)]) (fun z=>[some (15,[(vK a.l a.at_ d c (.msl 1 0 (length z.1)) (.msl 2 0 (length z.2.1)) (bA z.2.2.1))]),some (1,map zm z.1),some (1,map zm z.2.1)]) (fun b=>[(9,.mpt 0 0 0)]) (fun b=>[some (15,[(vK a.l a.at_ d c (.msl 1 0 (length b.1)) (.msl 2 0 (length b.2.1)) (bA b.2.2))]),some (1,map zm b.1),some (1,map zm b.2.1)]) (fun r env st=>zb6 Tryz.prog Tryz.f40 0 (bA r) [] env st) ho (zq [.old 0,.old 1,.old 2]) ?_ ?_ ?_
       ·
        rintro ⟨v44,v45,v46,v47,n⟩ r h
        replace h:zam d a c v44 v45 v46 v47 n=some r:=h
        unfold zam at h
        refine rg y<|u<|lss ti y y<|zb ?_
        refine zj ?_
        refine zf y (fun L=>?_) (fun L=>?_)
        ·
         replace h:=bT L h
         refine zi ?_
         refine zj ?_
         refine zr ?_
         obtain ⟨m,q40,h⟩:=bs h
         refine rg y<|u<|mv y<|u<|ixI ti y ti y y y q40<|u<|ldI ti y (zp q40).2.2 y<|u<|al 3 ti y<|u<|asg y<|u<|sto ti y y y<|zb ?_
         obtain ⟨i,q41,h⟩:=bs h
         refine rg y<|u<|mv y<|u<|mv y<|u<|mv y<|u<|sx [0,1,2] (zis a.l a.at_ d c v44 v45 v46 n v47 q41)<|zK (env0:=[(9,.mpt 0 0 0),(14,iA n),(15,.mpt 3 0 0),(160,.isl 4 (map zx c.Code)),(161,iA (length c.Code:Int)),(162,iA n)]) (st0:=[some (15,[(vK a.l a.at_ d c (.msl 1 0 (length i.1)) (.msl 2 0 (length i.2.1)) (bA i.2.2))]),some (1,map zm i.1),some (1,map zm i.2.1),some (4,[(zx m)])]) (zq [.old 0,.old 4,.old 5,.old 3])<|zb ?_
         refine zj ?_
         refine rg y<|u<|mv y<|u<|nc y y<|u<|fa ti y y y<|u<|ld ti y y<|zb ?_
         refine zf y (fun M=>?_) (fun M=>?_)
         ·
          replace h:=bT M h
          refine rg y<|u<|asg y<|zb ?_
          refine zg ?_
          obtain rfl:=sm h
          exact ⟨_,y,_,y,zB []⟩
         ·
          replace h:=bF M h
          refine zi ?_
          obtain ⟨v51,q43,h⟩:=bs h
          refine rg y<|u<|mv y<|u<|mv y<|u<|sx [0,1,2] (ziu a.l a.at_ d c i.1 i.2.1 i.2.2 n q43)<|zK (env0:=[(9,.mpt 0 0 0),(15,.mpt 3 0 0),(160,.isl 4 (map zx c.Code)),(161,iA (length c.Code:Int)),(162,iA n)]) (st0:=[some (15,[(vK a.l a.at_ d c (.msl 1 0 (length i.1)) (.msl 2 0 (length i.2.1)) (bA v51))]),some (1,map zm i.1),some (1,map zm i.2.1),some (4,[(zx m)])]) (zq [.old 0,.old 1,.old 2,.old 3])<|zb ?_
          obtain ⟨e,q44,h⟩:=bs h
          refine rg y<|u<|mv y<|u<|ld ti y y<|u<|sx [0,1,2] (zja a.l a.at_ d c i.1 i.2.1 v51 m q44)<|zK (env0:=[(9,.mpt 0 0 0),(15,.mpt 3 0 0),(160,.isl 4 (map zx c.Code)),(161,iA (length c.Code:Int)),(162,iA n)]) (st0:=[some (15,[(vK a.l a.at_ d c (.msl 1 0 (length e.1)) (.msl 2 0 (length e.2.1)) (bA e.2.2))]),some (1,map zm e.1),some (1,map zm e.2.1),some (4,[(zx m)])]) (zq [.old 0,.old 4,.old 5,.old 3])<|zb ?_
          refine zdk (X:=Bool) (fun z=>[(9,.mpt 0 0 0),(15,.mpt 3 0 0),(160,.isl 4 (map zx c.Code)),(161,iA (length c.Code:Int)),(162,iA n)]) (fun z=>[some (15,[(vK a.l a.at_ d c (.msl 1 0 (length e.1)) (.msl 2 0 (length e.2.1)) (bA z))]),some (1,map zm e.1),some (1,map zm e.2.1),some (4,[(zx m)])]) (fun z=>zdn c n m e z=some r) ?_ ?_
          ·
           refine rg y<|u<|fa ti y y y<|u<|ld ti y y<|u<|pc (zjR m.Op y) y y y<|zb ?_
           refine zf y (fun N=>?_) (fun N=>?_)
           ·
            replace h:=bT N h
            obtain ⟨v53,q46,h⟩:=bs h
            refine zoX [(9,.mpt 0 0 0),(15,.mpt 3 0 0),(160,.isl 4 (map zx c.Code)),(161,iA (length c.Code:Int)),(162,iA n)] [some (15,[(vK a.l a.at_ d c (.msl 1 0 (length e.1)) (.msl 2 0 (length e.2.1)) (bA v53))]),some (1,map zm e.1),some (1,map zm e.2.1),some (4,[(zx m)])] [7] [6,5,4,3,2,1,0] [(190,.msl 2 0 (length e.2.1)),(189,.mpt 0 0 13),(188,.mpt 0 0 0),(187,.mpt 0 0 0),(186,iA m.A),(185,.mpt 3 0 1),(184,.mpt 0 0 0)] 1 (zkD ⟨(fun _ _=>⟨_,y,y,sx [0,1,2] (zf5 a.l a.at_ d c e.1 e.2.1 e.2.2 m.A q46)<|⟨(.tup []),[],[(191,.tup [])],y,y,kz,y,zlb (zq [.old 0,.old 1,.old 2,.old 3])⟩⟩),t⟩) ?_
            exact ⟨v53,h,zq [.old 0,.old 1,.old 2,.old 3]⟩
           ·
            replace h:=bF N h
            refine zi ?_
            exact ⟨e.2.2,h,zq [.old 0,.old 1,.old 2,.old 3]⟩
          ·
           rintro V h
           replace h:zdn c n m e V=some r:=h
           unfold zdn at h
           refine rdA [(9,.mpt 0 0 0),(15,.mpt 3 0 0),(160,.isl 4 (map zx c.Code)),(161,iA (length c.Code:Int)),(162,iA n)] [some (15,[(vK a.l a.at_ d c (.msl 1 0 (length e.1)) (.msl 2 0 (length e.2.1)) (bA (V||(!(decide (((length e.2.1):Int)≤c.Stack))))))]),some (1,map zm e.1),some (1,map zm e.2.1),some (4,[(zx m)])] [12] [11,10,9,8,7,6,5,4,3,2,1,0] [(203,bA (decide (((length e.2.1):Int)≤c.Stack))),(202,iA c.Stack),(201,.mpt 0 0 8),(200,.mpt 0 0 2),(199,.mpt 0 0 0),(198,.mpt 0 0 0),(197,iA ((length e.2.1):Int)),(196,.msl 2 0 (length e.2.1)),(195,.mpt 0 0 13),(194,.mpt 0 0 0),(193,.mpt 0 0 0),(192,.mpt 0 0 0)] 1 (ziH ⟨pe,pe,pe,pe,pe,pe,(pb y (lnM ti y y y w)),pe,pe,pe,pe,pe,t⟩ ⟨(fun _ _=>⟨_,y,y,sx [0,1,2] (zo a.l a.at_ d c e.1 e.2.1 V (decide (((length e.2.1):Int)≤c.Stack)) y)<|⟨(.tup []),[],[(204,.tup [])],y,y,kz,y,zjh ⟨pe,pe,pe,pe,pe,pe,(pb y (lnM ti y y y w)),pe,pe,pe,pe,pe,t⟩ (zq [.old 0,.old 1,.old 2,.old 3])⟩⟩),t⟩) ?_
           refine rl y<|u<|fa ti y y y<|u<|ld ti y y<|u<|pc (zm0 m.Op y) y y y<|u<|nt y<|u<|asg y<|zb ?_
           refine rl y<|u<|add ti y y<|u<|mv y<|zb ?_
           obtain rfl:=sm h
           exact ⟨_,y,zq [.old 0,.old 1,.old 2]⟩
        ·
         replace h:=bF L h
         refine zQ ?_
         obtain rfl:=sm h
         exact ⟨y,_,y,zq [.old 0,.old 1,.old 2]⟩
       ·
        rintro ⟨v55,v56,v57⟩ rfl
        replace h:ze4 v55 v56 v57=some r:=h
        unfold ze4 at h
        refine zD ?_
        refine rg y<|u<|mv y<|u<|nc y y<|u<|fa ti y y y<|u<|ld ti y y<|u<|nt y<|u<|asg y<|zb ?_
        refine zg ?_
        obtain rfl:=sm h
        exact ⟨_,y,zB []⟩
       ·
        rintro r' rfl env st hp
        obtain rfl:=sm h
        exact hp
      ·
       rintro r' rfl env st hp
       obtain rfl:=sm h
       exact hp
   ·
    rintro r' rfl env st hp
    obtain rfl:=sm h
    exact hp
def zg5:Option (Bool):=
  (zft ([(za.mk [70,97,99,101] [79,98,106,101,99,116] true [] [] ([(zc.mk [102] [] [73] false true 0 0 [] [] [])])),(za.mk [65,97] [79,98,106,101,99,116] false ([[70,97,99,101]]) ([(zh.mk [120] [73] false),(zh.mk [115] [73] true)]) ([(zc.mk [102] [] [73] false false 1 1 ([(zn.mk 1 5 [] []),(zn.mk 47 0 [] [])]) [] [])])),(za.mk [66,98] [65,97] false [] ([(zh.mk [121] [91,65,97] false)]) ([(zc.mk [109,97,105,110] [] [86] true false 0 0 ([(zn.mk 46 0 [] [])]) [] [])]))])).bind fun a=>(zft ([(za.mk [70,97,99,101] [79,98,106,101,99,116] true [] [] ([(zc.mk [102] [] [73] false true 0 0 [] [] [])])),(za.mk [65,97] [79,98,106,101,99,116] false ([[70,97,99,101]]) ([(zh.mk [120] [73] false),(zh.mk [115] [73] true)]) ([(zc.mk [102] [] [73] false false 1 1 ([(zn.mk 2 0 [] []),(zn.mk 47 0 [] [])]) [] [])])),(za.mk [66,98] [65,97] false [] ([(zh.mk [121] [91,65,97] false)]) ([(zc.mk [109,97,105,110] [] [86] true false 0 0 ([(zn.mk 46 0 [] [])]) [] [])]))])).bind fun b=>cond ((!(a.2 == (0:Int)))||(!(b.2 == (0:Int)))) (some false) ((cond (zkJ) ((za3 a.1 [65,97] 0).bind fun h=>some h) (some false)).bind fun i=>(cond i ((za3 a.1 [66,98] 0).bind fun j=>some j) (some false)).bind fun l=>(cond l ((za3 b.1 [65,97] 0).bind fun m=>some (!m)) (some false)).bind fun n=>(cond n ((za3 a.1 [70,97,99,101] 0).bind fun o=>some (!o)) (some false)).bind fun c=>(cond c ((za3 a.1 [65,97] 1).bind fun d=>some (!d)) (some false)).bind fun e=>(cond e ((za3 a.1 [90,122] 0).bind fun f=>some (!f)) (some false)).bind fun g=>some g)
theorem zjt{r:Bool}(h:zg5=some r):zu Tryz.prog 37 [] (bA r):=by
 refine zl Tryz.func37 y kz y y ?_
 unfold zg5 at h
 refine rg y<|u<|asg y<|zb ?_
 obtain ⟨f,G,h⟩:=bs h
 refine rg y<|u<|sx [] (zgb y)<|zK (env0:=[(7,.msl 0 0 3)]) (st0:=[some (6,[[sA [70,97,99,101],sA [79,98,106,101,99,116],bA true,.lit (.slice none 0 0),.lit (.slice none 0 0),.msl 1 0 1],[sA [65,97],sA [79,98,106,101,99,116],bA false,.msl 2 0 1,.msl 3 0 2,.msl 4 0 1],[sA [66,98],sA [65,97],bA false,.lit (.slice none 0 0),.msl 6 0 1,.msl 7 0 1]]),some (10,[[sA [102],.lit (.slice none 0 0),sA [73],bA false,bA true,iA 0,iA 0,.lit (.slice none 0 0),.lit (.slice none 0 0),.lit (.slice none 0 0)]]),some (1,[[sA [70,97,99,101]]]),some (3,[[sA [120],sA [73],bA false],[sA [115],sA [73],bA true]]),some (10,[[sA [102],.lit (.slice none 0 0),sA [73],bA false,bA false,iA 1,iA 1,.msl 5 0 2,.lit (.slice none 0 0),.lit (.slice none 0 0)]]),some (4,[[iA 1,iA 5,sA [],sA []],[iA 47,iA 0,sA [],sA []]]),some (3,[[sA [121],sA [91,65,97],bA false]]),some (10,[[sA [109,97,105,110],.lit (.slice none 0 0),sA [86],bA true,bA false,iA 0,iA 0,.msl 8 0 1,.lit (.slice none 0 0),.lit (.slice none 0 0)]]),some (4,[[iA 46,iA 0,sA [],sA []]])]) (zq [.old 0,.old 1,.old 2,.old 3,.old 4,.old 5,.old 6,.old 7,.old 8])<|zK (env0:=[(7,.isl 6 (map zd ([(za.mk [70,97,99,101] [79,98,106,101,99,116] true [] [] ([(zc.mk [102] [] [73] false true 0 0 [] [] [])])),(za.mk [65,97] [79,98,106,101,99,116] false ([[70,97,99,101]]) ([(zh.mk [120] [73] false),(zh.mk [115] [73] true)]) ([(zc.mk [102] [] [73] false false 1 1 ([(zn.mk 1 5 [] []),(zn.mk 47 0 [] [])]) [] [])])),(za.mk [66,98] [65,97] false [] ([(zh.mk [121] [91,65,97] false)]) ([(zc.mk [109,97,105,110] [] [86] true false 0 0 ([(zn.mk 46 0 [] [])]) [] [])]))])))]) (st0:=[]) (zq [])<|u<|pc (zic ([(za.mk [70,97,99,101] [79,98,106,101,99,116] true [] [] ([(zc.mk [102] [] [73] false true 0 0 [] [] [])])),(za.mk [65,97] [79,98,106,101,99,116] false ([[70,97,99,101]]) ([(zh.mk [120] [73] false),(zh.mk [115] [73] true)]) ([(zc.mk [102] [] [73] false false 1 1 ([(zn.mk 1 5 [] []),(zn.mk 47 0 [] [])]) [] [])])),(za.mk [66,98] [65,97] false [] ([(zh.mk [121] [91,65,97] false)]) ([(zc.mk [109,97,105,110] [] [86] true false 0 0 ([(zn.mk 46 0 [] [])]) [] [])]))]) G) y y y<|u<|mv y<|u<|ex y y<|u<|ex y y<|u<|asg y<|u<|asg y<|zb ?_
 refine rg y<|u<|sx [] (zgb y)<|zK (env0:=[(1,zjm 2 zcf f.1),(2,iA f.2),(11,.msl 0 0 3)]) (st0:=[some (6,[[sA [70,97,99,101],sA [79,98,106,101,99,116],bA true,.lit (.slice none 0 0),.lit (.slice none 0 0),.msl 1 0 1],[sA [65,97],sA [79,98,106,101,99,116],bA false,.msl 2 0 1,.msl 3 0 2,.msl 4 0 1],[sA [66,98],sA [65,97],bA false,.lit (.slice none 0 0),.msl 6 0 1,.msl 7 0 1]]),some (10,[[sA [102],.lit (.slice none 0 0),sA [73],bA false,bA true,iA 0,iA 0,.lit (.slice none 0 0),.lit (.slice none 0 0),.lit (.slice none 0 0)]]),some (1,[[sA [70,97,99,101]]]),some (3,[[sA [120],sA [73],bA false],[sA [115],sA [73],bA true]]),some (10,[[sA [102],.lit (.slice none 0 0),sA [73],bA false,bA false,iA 1,iA 1,.msl 5 0 2,.lit (.slice none 0 0),.lit (.slice none 0 0)]]),some (4,[[iA 1,iA 5,sA [],sA []],[iA 47,iA 0,sA [],sA []]]),some (3,[[sA [121],sA [91,65,97],bA false]]),some (10,[[sA [109,97,105,110],.lit (.slice none 0 0),sA [86],bA true,bA false,iA 0,iA 0,.msl 8 0 1,.lit (.slice none 0 0),.lit (.slice none 0 0)]]),some (4,[[iA 46,iA 0,sA [],sA []]])]) (zq [.old 0,.old 1,.old 2,.old 3,.old 4,.old 5,.old 6,.old 7,.old 8])<|u<|asg y<|zb ?_
 refine rg y<|u<|mv y<|u<|ixX ti y ti y y y<|u<|fa ti y y y<|u<|ld ti y y<|u<|ixX ti y ti y y y<|u<|fa ti y y y<|u<|ld ti y y<|u<|bd ti y y y<|u<|ixX ti y ti y y y<|u<|sto ti y y y<|zb ?_
 obtain ⟨H,I,h⟩:=bs h
 refine rg y<|u<|mv y<|zK (env0:=[(1,zjm 2 zcf f.1),(2,iA f.2),(22,.isl 6 (map zd ([(za.mk [70,97,99,101] [79,98,106,101,99,116] true [] [] ([(zc.mk [102] [] [73] false true 0 0 [] [] [])])),(za.mk [65,97] [79,98,106,101,99,116] false ([[70,97,99,101]]) ([(zh.mk [120] [73] false),(zh.mk [115] [73] true)]) ([(zc.mk [102] [] [73] false false 1 1 ([(zn.mk 2 0 [] []),(zn.mk 47 0 [] [])]) [] [])])),(za.mk [66,98] [65,97] false [] ([(zh.mk [121] [91,65,97] false)]) ([(zc.mk [109,97,105,110] [] [86] true false 0 0 ([(zn.mk 46 0 [] [])]) [] [])]))])))]) (st0:=[]) (zq [])<|u<|pc (zic ([(za.mk [70,97,99,101] [79,98,106,101,99,116] true [] [] ([(zc.mk [102] [] [73] false true 0 0 [] [] [])])),(za.mk [65,97] [79,98,106,101,99,116] false ([[70,97,99,101]]) ([(zh.mk [120] [73] false),(zh.mk [115] [73] true)]) ([(zc.mk [102] [] [73] false false 1 1 ([(zn.mk 2 0 [] []),(zn.mk 47 0 [] [])]) [] [])])),(za.mk [66,98] [65,97] false [] ([(zh.mk [121] [91,65,97] false)]) ([(zc.mk [109,97,105,110] [] [86] true false 0 0 ([(zn.mk 46 0 [] [])]) [] [])]))]) I) y y y<|u<|mv y<|u<|ex y y<|u<|ex y y<|u<|asg y<|u<|asg y<|zb ?_
 refine zj ?_
 refine rg y<|u<|mv y<|u<|neq ti y y<|u<|mv y<|ze6 (j:=2) 2 y y y y y gpn (fun p=>g y p<|mv y<|g y p<|neq ti y y<|zb (egO [29,30] 2 p y y y y)) orT<|zb ?_
 refine zf y (fun q=>?_) (fun q=>?_)
 ·
  replace h:=bT q h
  refine rg y<|u<|asg y<|zb ?_
  refine zg ?_
  obtain rfl:=sm h
  exact ⟨_,y,zB []⟩
 ·
  replace h:=bF q h
  refine zi ?_
  obtain ⟨J,o,h⟩:=bs h
  obtain ⟨K,a,h⟩:=bs h
  obtain ⟨L,b,h⟩:=bs h
  obtain ⟨z,c,h⟩:=bs h
  obtain ⟨A,d,h⟩:=bs h
  obtain ⟨B,e,h⟩:=bs h
  refine rg y<|u<|pc (zny y) y y y<|u<|mv y<|zbq (x:=J) (j:=1) 2 y y y y y gpn (fun s=>by replace o:=bT s o;obtain ⟨Q,M,o⟩:=bs o;obtain rfl:=sm o;exact g y s<|mv y<|g y s<|pc (zcz f.1 [65,97] 0 M) y y (zqy (zok (fun _=>y)) (y))<|zb (eg [34,35] 2 y y y y)) (fun hb=>(sm (bF hb o)).symm)<|u<|mv y<|zbq (x:=K) (j:=5) 2 y y y y y gpn (fun v=>by replace a:=bT v a;obtain ⟨R,N,a⟩:=bs a;obtain rfl:=sm a;exact g y v<|mv y<|g y v<|pc (zcz f.1 [66,98] 0 N) y y (zqy (zok (fun _=>y)) (y))<|zb (eg [38,39] 2 y y y y)) (fun hb=>(sm (bF hb a)).symm)<|u<|mv y<|zbq (x:=L) (j:=9) 3 y y y y y gpn (fun i=>by replace b:=bT i b;obtain ⟨S,C,b⟩:=bs b;obtain rfl:=sm b;exact g y i<|mv y<|g y i<|pc (zcz H.1 [65,97] 0 C) y y (zqy (zok (fun _=>y)) (y))<|g y i<|nt y<|zb (eg [42,43,44] 3 y y y y)) (fun hb=>(sm (bF hb b)).symm)<|u<|mv y<|zbq (x:=z) (j:=14) 3 y y y y y gpn (fun l=>by replace c:=bT l c;obtain ⟨T,D,c⟩:=bs c;obtain rfl:=sm c;exact g y l<|mv y<|g y l<|pc (zcz f.1 [70,97,99,101] 0 D) y y (zqy (zok (fun _=>y)) (y))<|g y l<|nt y<|zb (eg [47,48,49] 3 y y y y)) (fun hb=>(sm (bF hb c)).symm)<|u<|mv y<|zbq (x:=A) (j:=19) 3 y y y y y gpn (fun m=>by replace d:=bT m d;obtain ⟨O,E,d⟩:=bs d;obtain rfl:=sm d;exact g y m<|mv y<|g y m<|pc (zcz f.1 [65,97] 1 E) y y (zqy (zok (fun _=>y)) (y))<|g y m<|nt y<|zb (eg [52,53,54] 3 y y y y)) (fun hb=>(sm (bF hb d)).symm)<|u<|mv y<|zbq (x:=B) (j:=24) 3 y y y y y gpn (fun n=>by replace e:=bT n e;obtain ⟨P,F,e⟩:=bs e;obtain rfl:=sm e;exact g y n<|mv y<|g y n<|pc (zcz f.1 [90,122] 0 F) y y (zqy (zok (fun _=>y)) (y))<|g y n<|nt y<|zb (eg [57,58,59] 3 y y y y)) (fun hb=>(sm (bF hb e)).symm)<|u<|asg y<|zb ?_
  refine zg ?_
  obtain rfl:=sm h
  exact ⟨_,y,zB []⟩
def zj9(a:T1)(b:T0)(c:Int)(d:Int)(e:List zn)(f:List zaA)(g:List zV):Option ((List zc)):=
  (ziA 152 ([(zc.mk [109,97,105,110] [] [86] true false 0 0 ([(zn.mk 46 0 [] [])]) [] [])]) ([(zc.mk [103] a b false false c d e f g)])).bind fun h=>some h
theorem zon(a:T1)(b:T0)(c:Int)(d:Int)(e:List zn)(f:List zaA)(g:List zV){r:(List zc)}(h:zj9 a b c d e f g=some r):SC Tryz.prog 39 [.isl 1 (map zm a),sA b,iA c,iA d,.isl 4 (map zx e),.isl 3 (map zaG f),.isl 4 (map zap g)] [] (.msl 0 0 3) [.xs 6 [[sA [70,97,99,101],sA [79,98,106,101,99,116],bA true,.lit (.slice none 0 0),.lit (.slice none 0 0),.msl 1 0 1],[sA [65,97],sA [79,98,106,101,99,116],bA false,.msl 2 0 1,.msl 3 0 2,.msl 4 0 1],[sA [66,98],sA [65,97],bA false,.lit (.slice none 0 0),.msl 6 0 1,.msl 7 0 (length r)]],.xs 10 [[sA [102],.lit (.slice none 0 0),sA [73],bA false,bA true,iA 0,iA 0,.lit (.slice none 0 0),.lit (.slice none 0 0),.lit (.slice none 0 0)]],.xs 1 [[sA [70,97,99,101]]],.xs 3 [[sA [120],sA [73],bA false],[sA [115],sA [73],bA true]],.xs 10 [[sA [102],.lit (.slice none 0 0),sA [73],bA false,bA false,iA 1,iA 1,.msl 5 0 2,.lit (.slice none 0 0),.lit (.slice none 0 0)]],.xs 4 [[iA 1,iA 5,sA [],sA []],[iA 47,iA 0,sA [],sA []]],.xs 3 [[sA [121],sA [91,65,97],bA false]],.many 10 (map ze r)]:=by
 refine ⟨⟨t,t,t,t,t,t,t,zhi (sz:=10) (fun _=>y),t⟩,zbE Tryz.func39 y kz y ?_⟩
 unfold zj9 at h
 refine rg y<|u<|asg y<|zb ?_
 refine rg y<|u<|sx [] (zgb y)<|zK (env0:=[(0,.isl 1 (map zm a)),(1,sA b),(2,iA c),(3,iA d),(4,.isl 4 (map zx e)),(5,.isl 3 (map zaG f)),(6,.isl 4 (map zap g)),(16,.msl 0 0 3)]) (st0:=[some (6,[[sA [70,97,99,101],sA [79,98,106,101,99,116],bA true,.lit (.slice none 0 0),.lit (.slice none 0 0),.msl 1 0 1],[sA [65,97],sA [79,98,106,101,99,116],bA false,.msl 2 0 1,.msl 3 0 2,.msl 4 0 1],[sA [66,98],sA [65,97],bA false,.lit (.slice none 0 0),.msl 6 0 1,.msl 7 0 1]]),some (10,[[sA [102],.lit (.slice none 0 0),sA [73],bA false,bA true,iA 0,iA 0,.lit (.slice none 0 0),.lit (.slice none 0 0),.lit (.slice none 0 0)]]),some (1,[[sA [70,97,99,101]]]),some (3,[[sA [120],sA [73],bA false],[sA [115],sA [73],bA true]]),some (10,[[sA [102],.lit (.slice none 0 0),sA [73],bA false,bA false,iA 1,iA 1,.msl 5 0 2,.lit (.slice none 0 0),.lit (.slice none 0 0)]]),some (4,[[iA 1,iA 5,sA [],sA []],[iA 47,iA 0,sA [],sA []]]),some (3,[[sA [121],sA [91,65,97],bA false]]),some (10,[[sA [109,97,105,110],.lit (.slice none 0 0),sA [86],bA true,bA false,iA 0,iA 0,.msl 8 0 1,.lit (.slice none 0 0),.lit (.slice none 0 0)]]),some (4,[[iA 46,iA 0,sA [],sA []]])]) (zq [.old 0,.old 1,.old 2,.old 3,.old 4,.old 5,.old 6,.old 7,.old 8])<|u<|asg y<|zb ?_
 obtain ⟨j,i,h⟩:=bs h
 refine rg y<|u<|mv y<|u<|mv y<|u<|ixX ti y ti y y y<|u<|fa ti y y y<|u<|ld ti y y<|u<|mv y<|u<|mv y<|u<|mv y<|u<|mv y<|u<|mv y<|u<|mv y<|u<|mv y<|u<|bd (parts:=[(0,sA [103]),(1,.isl 1 (map zm a)),(2,sA b),(5,iA c),(6,iA d),(7,.isl 4 (map zx e)),(8,.isl 3 (map zaG f)),(9,.isl 4 (map zap g))]) (cs:=[sA [103],.isl 1 (map zm a),sA b,bA false,bA false,iA c,iA d,.isl 4 (map zx e),.isl 3 (map zaG f),.isl 4 (map zap g)]) ti y y kz<|u<|bl 9 ti y ti y (by decide) (by decide) y y y<|zK (env0:=[(15,.msl 0 0 3),(17,.msl 0 0 3),(21,.msl 7 0 (length ([(zc.mk [109,97,105,110] [] [86] true false 0 0 ([(zn.mk 46 0 [] [])]) [] [])]))),(30,.msl 8 0 (length ([(zc.mk [103] a b false false c d e f g)])))]) (st0:=[some (6,[[sA [70,97,99,101],sA [79,98,106,101,99,116],bA true,.lit (.slice none 0 0),.lit (.slice none 0 0),.msl 1 0 1],[sA [65,97],sA [79,98,106,101,99,116],bA false,.msl 2 0 1,.msl 3 0 2,.msl 4 0 1],[sA [66,98],sA [65,97],bA false,.lit (.slice none 0 0),.msl 6 0 1,.msl 7 0 (length ([(zc.mk [109,97,105,110] [] [86] true false 0 0 ([(zn.mk 46 0 [] [])]) [] [])]))]]),some (10,[[sA [102],.lit (.slice none 0 0),sA [73],bA false,bA true,iA 0,iA 0,.lit (.slice none 0 0),.lit (.slice none 0 0),.lit (.slice none 0 0)]]),some (1,[[sA [70,97,99,101]]]),some (3,[[sA [120],sA [73],bA false],[sA [115],sA [73],bA true]]),some (10,[[sA [102],.lit (.slice none 0 0),sA [73],bA false,bA false,iA 1,iA 1,.msl 5 0 2,.lit (.slice none 0 0),.lit (.slice none 0 0)]]),some (4,[[iA 1,iA 5,sA [],sA []],[iA 47,iA 0,sA [],sA []]]),some (3,[[sA [121],sA [91,65,97],bA false]]),some (10,map ze ([(zc.mk [109,97,105,110] [] [86] true false 0 0 ([(zn.mk 46 0 [] [])]) [] [])])),some (10,map ze ([(zc.mk [103] a b false false c d e f g)]))]) (zq [.old 0,.old 1,.old 2,.old 3,.old 4,.old 5,.old 6,.old 7,.old 9])<|u<|apM 9 ti y ti y y (by decide) ti y y y y (roM y) (fun _=>y) y i<|u<|ixX ti y ti y y y<|u<|fa ti y y y<|u<|sto ti y y y<|zb ?_
 refine rg y<|u<|mv y<|u<|asg y<|zb ?_
 refine zg ?_
 obtain rfl:=sm h
 exact ⟨_,y,zB [.old 0,.old 1,.old 2,.old 3,.old 4,.old 5,.old 6,.old 9]⟩
def zdJ(b:Int)(c:Int)(i:Int)(d:List zn):Option (Bool):=
  (ziA 48 d ([(zn.mk 46 0 [] [])])).bind fun e=>(zj9 [] [86] 1 c e [] []).bind fun f=>(zft ([(za.mk [70,97,99,101] [79,98,106,101,99,116] true [] [] ([(zc.mk [102] [] [73] false true 0 0 [] [] [])])),(za.mk [65,97] [79,98,106,101,99,116] false ([[70,97,99,101]]) ([(zh.mk [120] [73] false),(zh.mk [115] [73] true)]) ([(zc.mk [102] [] [73] false false 1 1 ([(zn.mk 1 5 [] []),(zn.mk 47 0 [] [])]) [] [])])),(za.mk [66,98] [65,97] false [] ([(zh.mk [121] [91,65,97] false)]) f)])).bind fun a=>(cond (a.2 == (0:Int)) ((za3 a.1 [66,98] 1).bind fun g=>some (g == ((decide (b≤c))&&(decide (i≤b))))) (some false)).bind fun h=>some h
def zba(d:Int)(a:List zn)(b:Int):Option (Sum ((List zn)×Int) (Sum ((List zn)) (Bool))):=
  cond (decide (b<d)) ((ziA 48 a ([(zn.mk 5 0 [] [])])).bind fun c=>some (.inl (c,(IntKind.i64.wrap (b+1))))) (some (.inr (.inl a)))
def zdI(d:Int)(e:Int)(a:Int)(c:List zn):Option (Bool):=
  (zz (fun z=>zba a z.1 z.2) (c,0)).bind fun o=>zaq o (fun b=>zdJ d e a b) some
def za9(d:Int)(b:List zn)(a:Int):Option (Sum ((List zn)×Int) (Sum ((List zn)) (Bool))):=
  cond (decide (a<d)) ((ziA 48 b ([(zn.mk 1 a [] [])])).bind fun c=>some (.inl (c,(IntKind.i64.wrap (a+1))))) (some (.inr (.inl b)))
def zeX(a:Int)(c:Int)(d:Int):Option (Bool):=
  (zg5).bind fun e=>cond (!e) (some false) (cond ((((((decide (a<0))||(decide (20<a)))||(decide (c<0)))||(decide (16<c)))||(decide (d<0)))||(decide (20<d))) (some true) ((zz (fun z=>za9 a z.1 z.2) ([],0)).bind fun o=>zaq o (fun b=>zdI a c d b) some))
theorem zjk(d:Int)(c:Int)(e:Int){r:Bool}(h:zeX d c e=some r):zu Tryz.prog 8 [iA d,iA c,iA e] (bA r):=by
 refine zl Tryz.func8 y kz y y ?_
 unfold zeX at h
 refine rg y<|u<|asg y<|zb ?_
 obtain ⟨v4,U,h⟩:=bs h
 refine rg y<|u<|pc (zjt U) y y y<|u<|asg y<|zb ?_
 refine zj ?_
 refine rg y<|u<|mv y<|u<|nt y<|zb ?_
 refine zf y (fun p=>?_) (fun p=>?_)
 ·
  replace h:=bT p h
  refine rg y<|u<|asg y<|zb ?_
  refine zg ?_
  obtain rfl:=sm h
  exact ⟨_,y,zB []⟩
 ·
  replace h:=bF p h
  refine zi ?_
  refine zj ?_
  refine rg y<|u<|mv y<|u<|lss ti y y<|u<|mv y<|ze6 (j:=2) 2 y y y y y gpn (fun q=>g y q<|mv y<|g y q<|gtr ti y y<|zb (egO [20,21] 2 q y y y y)) orT<|u<|mv y<|ze6 (j:=6) 2 y y y y y gpn (fun s=>g y s<|mv y<|g y s<|lss ti y y<|zb (egO [24,25] 2 s y y y y)) orT<|u<|mv y<|ze6 (j:=10) 2 y y y y y gpn (fun v=>g y v<|mv y<|g y v<|gtr ti y y<|zb (egO [28,29] 2 v y y y y)) orT<|u<|mv y<|ze6 (j:=14) 2 y y y y y gpn (fun A=>g y A<|mv y<|g y A<|lss ti y y<|zb (egO [32,33] 2 A y y y y)) orT<|u<|mv y<|ze6 (j:=18) 2 y y y y y gpn (fun C=>g y C<|mv y<|g y C<|gtr ti y y<|zb (egO [36,37] 2 C y y y y)) orT<|zb ?_
  refine zf y (fun D=>?_) (fun D=>?_)
  ·
   replace h:=bT D h
   refine rg y<|u<|asg y<|zb ?_
   refine zg ?_
   obtain rfl:=sm h
   exact ⟨_,y,zB []⟩
  ·
   replace h:=bF D h
   refine zi ?_
   refine rg y<|u<|asg y<|zb ?_
   refine zj ?_
   refine rg y<|u<|asg y<|zb ?_
   obtain ⟨o,ho,h⟩:=bs h
   refine zaN (X:=(List zn)×Int) (B:=(List zn)) (R:=Bool) (fun z=>[(0,iA d),(1,iA c),(2,iA e),(8,.msl 0 0 (length z.1)),(9,iA z.2)]) (fun z=>[some (4,map zx z.1)]) (fun b=>[(0,iA d),(1,iA c),(2,iA e),(8,.msl 0 0 (length b))]) (fun b=>[some (4,map zx b)]) (fun r env st=>zb6 Tryz.prog Tryz.f8 0 (bA r) [] env st) ho ⟨[.fresh 4],ce y y<|ce y y<|ce y y<|cv y (.nilown y)<|ce y y<|cn,y,⟨w,t⟩,y,k⟩ ?_ ?_ ?_
   ·
    rintro ⟨V,G⟩ r h
    replace h:za9 d V G=some r:=h
    unfold za9 at h
    refine zj ?_
    refine rg y<|u<|mv y<|u<|mv y<|u<|lss ti y y<|zb ?_
    refine zf y (fun m=>?_) (fun m=>?_)
    ·
     replace h:=bT m h
     refine zi ?_
     refine zj ?_
     refine zr ?_
     obtain ⟨W,H,h⟩:=bs h
     refine rl y<|u<|mv y<|u<|mv y<|u<|bd ti y y y<|u<|bl 1 ti y ti y (by decide) (by decide) y y y<|u<|apM 2 ti y ti y y (by decide) ti y y y y (roX (f:=zx) (z:=[(zn.mk 1 G [] [])]) y y) (fun _=>y) y H<|u<|asg y<|zb ?_
     refine rl y<|u<|mv y<|u<|add ti y y<|u<|asg y<|zb ?_
     obtain rfl:=sm h
     exact ⟨_,y,zq [.old 2]⟩
    ·
     replace h:=bF m h
     refine zQ ?_
     obtain rfl:=sm h
     exact ⟨y,_,y,zq [.old 0]⟩
   ·
    rintro I rfl
    replace h:zdI d c e I=some r:=h
    unfold zdI at h
    refine zD ?_
    refine zj ?_
    refine rg y<|u<|asg y<|zb ?_
    obtain ⟨o,ho,h⟩:=bs h
    refine zaN (X:=(List zn)×Int) (B:=(List zn)) (R:=Bool) (fun z=>[(0,iA d),(1,iA c),(2,iA e),(8,.msl 0 0 (length z.1)),(10,iA z.2)]) (fun z=>[some (4,map zx z.1)]) (fun b=>[(0,iA d),(1,iA c),(2,iA e),(8,.msl 0 0 (length b))]) (fun b=>[some (4,map zx b)]) (fun r env st=>zb6 Tryz.prog Tryz.f8 0 (bA r) [] env st) ho (zq [.old 0]) ?_ ?_ ?_
    ·
     rintro ⟨J,K⟩ r h
     replace h:zba e J K=some r:=h
     unfold zba at h
     refine zj ?_
     refine rg y<|u<|mv y<|u<|mv y<|u<|lss ti y y<|zb ?_
     refine zf y (fun n=>?_) (fun n=>?_)
     ·
      replace h:=bT n h
      refine zi ?_
      refine zj ?_
      refine zr ?_
      obtain ⟨Y,L,h⟩:=bs h
      refine rl y<|u<|mv y<|u<|bd ti y y y<|u<|bl 1 ti y ti y (by decide) (by decide) y y y<|u<|apM 2 ti y ti y y (by decide) ti y y y y (roX (f:=zx) (z:=[(zn.mk 5 0 [] [])]) y y) (fun _=>y) y L<|u<|asg y<|zb ?_
      refine rl y<|u<|mv y<|u<|add ti y y<|u<|asg y<|zb ?_
      obtain rfl:=sm h
      exact ⟨_,y,zq [.old 2]⟩
     ·
      replace h:=bF n h
      refine zQ ?_
      obtain rfl:=sm h
      exact ⟨y,_,y,zq [.old 0]⟩
    ·
     rintro M rfl
     replace h:zdJ d c e M=some r:=h
     unfold zdJ at h
     refine zD ?_
     obtain ⟨E,N,h⟩:=bs h
     refine rg y<|u<|mv y<|u<|bd ti y y y<|u<|bl 1 ti y ti y (by decide) (by decide) y y y<|u<|apM 2 ti y ti y y (by decide) ti y y y y (roX (f:=zx) (z:=[(zn.mk 46 0 [] [])]) y y) (fun _=>y) y N<|u<|asg y<|zb ?_
     obtain ⟨F,O,h⟩:=bs h
     refine rg y<|u<|mv y<|u<|mv y<|zK (env0:=[(0,iA d),(1,iA c),(2,iA e),(62,iA c),(63,.isl 4 (map zx E))]) (st0:=[]) (zq [])<|u<|sc [] (zon [] [86] 1 c E [] [] O) y y y y ⟨(.nilI),(rnI y),(rnI y),(rnI y),(rnI y),(.nilI),(.nilI),t⟩ t<|u<|asg y<|zb ?_
     obtain ⟨P,Q,h⟩:=bs h
     refine rg y<|u<|mv y<|zK (env0:=[(0,iA d),(1,iA c),(2,iA e),(66,.isl 6 (map zd ([(za.mk [70,97,99,101] [79,98,106,101,99,116] true [] [] ([(zc.mk [102] [] [73] false true 0 0 [] [] [])])),(za.mk [65,97] [79,98,106,101,99,116] false ([[70,97,99,101]]) ([(zh.mk [120] [73] false),(zh.mk [115] [73] true)]) ([(zc.mk [102] [] [73] false false 1 1 ([(zn.mk 1 5 [] []),(zn.mk 47 0 [] [])]) [] [])])),(za.mk [66,98] [65,97] false [] ([(zh.mk [121] [91,65,97] false)]) F)])))]) (st0:=[]) (zq [])<|u<|pc (zic ([(za.mk [70,97,99,101] [79,98,106,101,99,116] true [] [] ([(zc.mk [102] [] [73] false true 0 0 [] [] [])])),(za.mk [65,97] [79,98,106,101,99,116] false ([[70,97,99,101]]) ([(zh.mk [120] [73] false),(zh.mk [115] [73] true)]) ([(zc.mk [102] [] [73] false false 1 1 ([(zn.mk 1 5 [] []),(zn.mk 47 0 [] [])]) [] [])])),(za.mk [66,98] [65,97] false [] ([(zh.mk [121] [91,65,97] false)]) F)]) Q) y y y<|u<|mv y<|u<|ex y y<|u<|ex y y<|u<|asg y<|u<|asg y<|zb ?_
     obtain ⟨S,i,h⟩:=bs h
     refine rg y<|u<|mv y<|u<|eql ti y y<|u<|mv y<|zbq (x:=S) (j:=2) 11 y y y y y gpn (fun a=>by replace i:=bT a i;obtain ⟨Z,T,i⟩:=bs i;obtain rfl:=sm i;exact g y a<|mv y<|g y a<|pc (zcz P.1 [66,98] 1 T) y y (zqy (zok (fun _=>y)) (y))<|g y a<|mv y<|g y a<|mv y<|g y a<|leq ti y y<|g y a<|mv y<|zbq (j:=8) 3 y y y y y (gps y y a) (fun l=>g y l<|mv y<|g y l<|mv y<|g y l<|leq ti y y<|zb (egA [79,80,81] 3 l y y y y)) zhn<|g y a<|beq ti y y y<|zb (eg [73,74,75,76,77,78,79,80,81,82,83] 8 y y y y)) (fun hb=>(sm (bF hb i)).symm)<|u<|asg y<|zb ?_
     refine zg ?_
     obtain rfl:=sm h
     exact ⟨_,y,zB []⟩
    ·
     rintro r' rfl env st hp
     obtain rfl:=sm h
     exact hp
   ·
    rintro r' rfl env st hp
    obtain rfl:=sm h
    exact hp
structure zeS where
  C:T0
  M:T0
def zsm(x:zeS):List AV:=[sA x.C,sA x.M]
def zeC(a:T1):Option (T1):=
  some a
def zaZ(b:List za)(c:T1)(a:Int):Option (Sum (T1×Int) (Sum (T1) (T1))):=
  cond (decide (a<(length b:Int))) ((idx b a).bind fun e=>(ziA 16 c [e.Name]).bind fun d=>some (.inl (d,(IntKind.i64.wrap (a+1))))) (some (.inr (.inl c)))
def zcX(a:List za)(c:T2):Option (T1):=
  (zz (fun z=>zaZ a z.1 z.2) ([],0)).bind fun o=>zaq o (fun b=>zeC b) some
theorem zgp(a:List za)(d:T2){r:T1}(h:zcX a d=some r):SC Tryz.prog 61 [.ipt 2 [[.isl 6 (map zd a),.imp (map (rKV (fun x=>iA x)) d)]] 0 0] [] (.msl 0 0 (length r)) [.many 1 (map zm r)]:=by
 refine ⟨⟨zhi (sz:=1) (fun _=>y),t⟩,zbE Tryz.func61 y kz y ?_⟩
 unfold zcX at h
 refine rg y<|u<|asg y<|zb ?_
 refine zj ?_
 refine rg y<|u<|mv y<|u<|eqp ti y y y y y y<|zb ?_
 refine zf y (fun hx=>by cases hx) (fun _=>?_)
 refine zi ?_
 refine rg y<|u<|asg y<|zb ?_
 refine zj ?_
 refine rg y<|u<|mv y<|u<|nc y y<|u<|fa ti y y y<|u<|ld ti y y<|u<|lnI ti y y<|u<|mv y<|zb ?_
 obtain ⟨o,ho,h⟩:=bs h
 refine zaN (X:=T1×Int) (B:=T1) (R:=T1) (fun z=>[(3,.msl 0 0 (length z.1)),(11,.isl 6 (map zd a)),(12,iA (length a:Int)),(13,iA z.2)]) (fun z=>[some (1,map zm z.1)]) (fun b=>[(3,.msl 0 0 (length b))]) (fun b=>[some (1,map zm b)]) (fun r env st=>zb6 Tryz.prog Tryz.f61 0 (.msl 0 0 (length r)) [some (1,map zm r)] env st) ho ⟨[.fresh 1],cv y (.nilown y)<|ce y y<|ce y y<|ce y y<|cn,y,⟨w,t⟩,y,k⟩ ?_ ?_ ?_
 ·
  rintro ⟨i,j⟩ r h
  replace h:zaZ a i j=some r:=h
  unfold zaZ at h
  refine rg y<|u<|lss ti y y<|zb ?_
  refine zj ?_
  refine zf y (fun c=>?_) (fun c=>?_)
  ·
   replace h:=bT c h
   refine zi ?_
   refine zj ?_
   refine zr ?_
   obtain ⟨l,e,h⟩:=bs h
   refine rg y<|u<|ixI ti y ti y y y e<|u<|ldI ti y (zp e).2.2 y<|u<|al 1 ti y<|u<|sto ti y y y<|zb ?_
   obtain ⟨n,m,h⟩:=bs h
   refine rl y<|u<|mv y<|u<|fa ti y y y<|u<|ld ti y y<|u<|bl 2 ti y ti y (by decide) (by decide) y y y<|u<|apM 3 ti y ti y y (by decide) ti y y y y (roX (f:=zm) (z:=[l.Name]) y y) (fun _=>y) y m<|u<|asg y<|zb ?_
   refine rl y<|u<|add ti y y<|u<|mv y<|zb ?_
   obtain rfl:=sm h
   exact ⟨_,y,zq [.old 3]⟩
  ·
   replace h:=bF c h
   refine zQ ?_
   obtain rfl:=sm h
   exact ⟨y,_,y,zq [.old 0]⟩
 ·
  rintro g rfl
  replace h:zeC g=some r:=h
  unfold zeC at h
  refine zD ?_
  refine rg y<|u<|mv y<|u<|asg y<|zb ?_
  refine zg ?_
  obtain rfl:=sm h
  exact ⟨_,y,zB [.old 0]⟩
 ·
  rintro r' rfl env st hp
  obtain rfl:=sm h
  exact hp
def zcL(a:T0)(b:List za)(c:T2):Option (Bool):=
  (cond ((!(a == [86]))&&(!(a == []))) ((zcp b c a).bind fun d=>some (!d)) (some false)).bind fun e=>some e
theorem zdM(d:T0)(e:List za)(f:T2){r:Bool}(h:zcL d e f=some r):zu Tryz.prog 216 [sA d,.ipt 1 [[.ipt 2 [[.isl 6 (map zd e),.imp (map (rKV (fun x=>iA x)) f)]] 0 0]] 0 0] (bA r):=by
 refine zl Tryz.func216 y kz y y ?_
 unfold zcL at h
 refine rg y<|u<|asg y<|zb ?_
 obtain ⟨i,b,h⟩:=bs h
 refine rg y<|u<|mv y<|u<|sne ti y y<|u<|mv y<|zbq (j:=2) 2 y y y y y gpn (fun c=>g y c<|mv y<|g y c<|sne ti y y<|zb (egA [7,8] 2 c y y y y)) zhn<|u<|mv y<|zbq (x:=i) (j:=6) 4 y y y y y gpn (fun a=>by replace b:=bT a b;obtain ⟨m,l,b⟩:=bs b;obtain rfl:=sm b;exact g y a<|ld ti y y<|g y a<|mv y<|g y a<|pc (zdd e f d l) y y y<|g y a<|nt y<|zb (eg [11,12,13,14] 4 y y y y)) (fun hb=>(sm (bF hb b)).symm)<|u<|asg y<|zb ?_
 refine zg ?_
 obtain rfl:=sm h
 exact ⟨_,y,zB []⟩
def zgj(a:zh)(b:List za)(c:T2):Option (Bool):=
  (zcL a.Type_ b c).bind fun d=>some d
theorem zkA(a:zh)(b:List za)(c:T2){r:Bool}(h:zgj a b c=some r):zu Tryz.prog 217 [.agg (zN a),.ipt 1 [[.fn (.func 216) [] [.ipt 1 [[.ipt 2 [[.isl 6 (map zd b),.imp (map (rKV (fun x=>iA x)) c)]] 0 0]] 0 0]]] 0 0] (bA r):=by
 refine zl Tryz.func217 y kz y y ?_
 unfold zgj at h
 refine rg y<|u<|bx 0 3 y y y y<|u<|asg y<|zb ?_
 obtain ⟨e,d,h⟩:=bs h
 refine rg y<|u<|ld ti y y<|u<|fa ti y y y<|u<|ld ti y y<|u<|pc (zdM a.Type_ b c d) y y y<|u<|asg y<|zb ?_
 refine zg ?_
 obtain rfl:=sm h
 exact ⟨_,y,zB []⟩
def zaJ:Option (Int):=
  some (-1)
def zP(b:List zh)(c:List za)(d:T2)(a:Int):Option (Sum (Int) (Sum (Unit) (Int))):=
  cond (decide (a<(length b:Int))) ((idx b a).bind fun e=>(zgj e c d).bind fun f=>cond f (some (.inr (.inr a))) (some (.inl (IntKind.i64.wrap (a+1))))) (some (.inr (.inl ())))
def za2(a:List zh)(c:List za)(d:T2):Option (Int):=
  (zz (fun z=>zP a c d z) 0).bind fun o=>zaq o (fun b=>zaJ) some
theorem zec(a:List zh)(c:List za)(d:T2){r:Int}(h:za2 a c d=some r):zu Tryz.prog 241 [.isl 3 (map zN a),.fn (.func 217) [] [.ipt 1 [[.fn (.func 216) [] [.ipt 1 [[.ipt 2 [[.isl 6 (map zd c),.imp (map (rKV (fun x=>iA x)) d)]] 0 0]] 0 0]]] 0 0]] (iA r):=by
 refine zl Tryz.func241 y kz y y ?_
 unfold za2 at h
 refine rg y<|u<|asg y<|zb ?_
 refine zj ?_
 refine rg y<|u<|mv y<|u<|lnI ti y y<|u<|mv y<|zb ?_
 obtain ⟨o,ho,h⟩:=bs h
 refine zaN (X:=Int) (B:=Unit) (R:=Int) (fun z=>[(0,.isl 3 (map zN a)),(1,.fn (.func 217) [] [.ipt 1 [[.fn (.func 216) [] [.ipt 1 [[.ipt 2 [[.isl 6 (map zd c),.imp (map (rKV (fun x=>iA x)) d)]] 0 0]] 0 0]]] 0 0]),(7,iA (length a:Int)),(8,iA z)]) (fun z=>[]) (fun b=>[]) (fun b=>[]) (fun r env st=>zb6 Tryz.prog Tryz.f241 0 (iA r) [] env st) ho (zq []) ?_ ?_ ?_
 ·
  rintro i r h
  replace h:zP a c d i=some r:=h
  unfold zP at h
  refine rg y<|u<|lss ti y y<|zb ?_
  refine zj ?_
  refine zf y (fun e=>?_) (fun e=>?_)
  ·
   replace h:=bT e h
   refine zi ?_
   refine zj ?_
   refine zr ?_
   refine rg y<|u<|mv y<|u<|asg y<|zb ?_
   obtain ⟨j,g,h⟩:=bs h
   obtain ⟨m,l,h⟩:=bs h
   refine rg y<|u<|mv y<|u<|mv y<|u<|mv y<|u<|ixI ti y ti y y y g<|u<|ldI ti y (zp g).2.2 y<|u<|pc (zkA j c d l) y y y<|zb ?_
   refine zf y (fun f=>?_) (fun f=>?_)
   ·
    replace h:=bT f h
    refine rg y<|u<|mv y<|u<|asg y<|zb ?_
    refine zg ?_
    obtain rfl:=sm h
    exact ⟨_,y,_,y,zB []⟩
   ·
    replace h:=bF f h
    refine zi ?_
    refine rl y<|u<|add ti y y<|u<|mv y<|zb ?_
    obtain rfl:=sm h
    exact ⟨_,y,zq []⟩
  ·
   replace h:=bF e h
   refine zQ ?_
   obtain rfl:=sm h
   exact ⟨y,_,y,zq []⟩
 ·
  rintro ⟨⟩ rfl
  replace h:zaJ=some r:=h
  unfold zaJ at h
  refine zD ?_
  refine rg y<|u<|asg y<|zb ?_
  refine zg ?_
  obtain rfl:=sm h
  exact ⟨_,y,zB []⟩
 ·
  rintro r' rfl env st hp
  obtain rfl:=sm h
  exact hp
def z6(a:List zh)(b:List za)(c:T2):Option (Bool):=
  (za2 a b c).bind fun d=>some (decide (0≤d))
theorem zdQ(a:List zh)(b:List za)(c:T2){r:Bool}(h:z6 a b c=some r):zu Tryz.prog 176 [.isl 3 (map zN a),.fn (.func 217) [] [.ipt 1 [[.fn (.func 216) [] [.ipt 1 [[.ipt 2 [[.isl 6 (map zd b),.imp (map (rKV (fun x=>iA x)) c)]] 0 0]] 0 0]]] 0 0]] (bA r):=by
 refine zl Tryz.func176 y kz y y ?_
 unfold z6 at h
 refine rg y<|u<|asg y<|zb ?_
 obtain ⟨e,d,h⟩:=bs h
 refine rg y<|u<|mv y<|u<|mv y<|u<|pc (zec a b c d) y y y<|u<|geq ti y y<|u<|asg y<|zb ?_
 refine zg ?_
 obtain rfl:=sm h
 exact ⟨_,y,zB []⟩
def zfq(a:zV)(b:List za)(c:T2):Option (Bool):=
  (zcL a.C b c).bind fun d=>some d
theorem zjC(a:zV)(b:List za)(c:T2){r:Bool}(h:zfq a b c=some r):zu Tryz.prog 220 [.agg (zap a),.ipt 1 [[.fn (.func 216) [] [.ipt 1 [[.ipt 2 [[.isl 6 (map zd b),.imp (map (rKV (fun x=>iA x)) c)]] 0 0]] 0 0]]] 0 0] (bA r):=by
 refine zl Tryz.func220 y kz y y ?_
 unfold zfq at h
 refine rg y<|u<|bx 0 4 y y y y<|u<|asg y<|zb ?_
 obtain ⟨e,d,h⟩:=bs h
 refine rg y<|u<|ld ti y y<|u<|fa ti y y y<|u<|ld ti y y<|u<|pc (zdM a.C b c d) y y y<|u<|asg y<|zb ?_
 refine zg ?_
 obtain rfl:=sm h
 exact ⟨_,y,zB []⟩
def zaW:Option (Int):=
  some (-1)
def zU(b:List zV)(c:List za)(d:T2)(a:Int):Option (Sum (Int) (Sum (Unit) (Int))):=
  cond (decide (a<(length b:Int))) ((idx b a).bind fun e=>(zfq e c d).bind fun f=>cond f (some (.inr (.inr a))) (some (.inl (IntKind.i64.wrap (a+1))))) (some (.inr (.inl ())))
def zbd(a:List zV)(c:List za)(d:T2):Option (Int):=
  (zz (fun z=>zU a c d z) 0).bind fun o=>zaq o (fun b=>zaW) some
theorem zew(a:List zV)(c:List za)(d:T2){r:Int}(h:zbd a c d=some r):zu Tryz.prog 263 [.isl 4 (map zap a),.fn (.func 220) [] [.ipt 1 [[.fn (.func 216) [] [.ipt 1 [[.ipt 2 [[.isl 6 (map zd c),.imp (map (rKV (fun x=>iA x)) d)]] 0 0]] 0 0]]] 0 0]] (iA r):=by
 refine zl Tryz.func263 y kz y y ?_
 unfold zbd at h
 refine rg y<|u<|asg y<|zb ?_
 refine zj ?_
 refine rg y<|u<|mv y<|u<|lnI ti y y<|u<|mv y<|zb ?_
 obtain ⟨o,ho,h⟩:=bs h
 refine zaN (X:=Int) (B:=Unit) (R:=Int) (fun z=>[(0,.isl 4 (map zap a)),(1,.fn (.func 220) [] [.ipt 1 [[.fn (.func 216) [] [.ipt 1 [[.ipt 2 [[.isl 6 (map zd c),.imp (map (rKV (fun x=>iA x)) d)]] 0 0]] 0 0]]] 0 0]),(7,iA (length a:Int)),(8,iA z)]) (fun z=>[]) (fun b=>[]) (fun b=>[]) (fun r env st=>zb6 Tryz.prog Tryz.f263 0 (iA r) [] env st) ho (zq []) ?_ ?_ ?_
 ·
  rintro i r h
  replace h:zU a c d i=some r:=h
  unfold zU at h
  refine rg y<|u<|lss ti y y<|zb ?_
  refine zj ?_
  refine zf y (fun e=>?_) (fun e=>?_)
  ·
   replace h:=bT e h
   refine zi ?_
   refine zj ?_
   refine zr ?_
   refine rg y<|u<|mv y<|u<|asg y<|zb ?_
   obtain ⟨j,g,h⟩:=bs h
   obtain ⟨m,l,h⟩:=bs h
   refine rg y<|u<|mv y<|u<|mv y<|u<|mv y<|u<|ixI ti y ti y y y g<|u<|ldI ti y (zp g).2.2 y<|u<|pc (zjC j c d l) y y y<|zb ?_
   refine zf y (fun f=>?_) (fun f=>?_)
   ·
    replace h:=bT f h
    refine rg y<|u<|mv y<|u<|asg y<|zb ?_
    refine zg ?_
    obtain rfl:=sm h
    exact ⟨_,y,_,y,zB []⟩
   ·
    replace h:=bF f h
    refine zi ?_
    refine rl y<|u<|add ti y y<|u<|mv y<|zb ?_
    obtain rfl:=sm h
    exact ⟨_,y,zq []⟩
  ·
   replace h:=bF e h
   refine zQ ?_
   obtain rfl:=sm h
   exact ⟨y,_,y,zq []⟩
 ·
  rintro ⟨⟩ rfl
  replace h:zaW=some r:=h
  unfold zaW at h
  refine zD ?_
  refine rg y<|u<|asg y<|zb ?_
  refine zg ?_
  obtain rfl:=sm h
  exact ⟨_,y,zB []⟩
 ·
  rintro r' rfl env st hp
  obtain rfl:=sm h
  exact hp
def zal(a:List zV)(b:List za)(c:T2):Option (Bool):=
  (zbd a b c).bind fun d=>some (decide (0≤d))
theorem zd4(a:List zV)(b:List za)(c:T2){r:Bool}(h:zal a b c=some r):zu Tryz.prog 219 [.isl 4 (map zap a),.fn (.func 220) [] [.ipt 1 [[.fn (.func 216) [] [.ipt 1 [[.ipt 2 [[.isl 6 (map zd b),.imp (map (rKV (fun x=>iA x)) c)]] 0 0]] 0 0]]] 0 0]] (bA r):=by
 refine zl Tryz.func219 y kz y y ?_
 unfold zal at h
 refine rg y<|u<|asg y<|zb ?_
 obtain ⟨e,d,h⟩:=bs h
 refine rg y<|u<|mv y<|u<|mv y<|u<|pc (zew a b c d) y y y<|u<|geq ti y y<|u<|asg y<|zb ?_
 refine zg ?_
 obtain rfl:=sm h
 exact ⟨_,y,zB []⟩
def zcQ(a:Bool):Option (Bool):=
  some a
def zdg(b:List za)(c:T2)(a:zn)(d:za×Bool)(e:Bool):Option (Bool):=
  cond e ((zei b c a.C a.M).bind fun f=>zcQ (f.2.2&&(!d.1.Interface))) (cond (a.Op == (45:Int)) ((zfG b c a.C a.M).bind fun g=>zcQ g.2.2) (zcQ true))
def zcP(b:List za)(c:T2)(a:zn)(d:za×Bool)(e:Bool):Option (Bool):=
  cond e ((zeY b c a.C a.M).bind fun f=>zcQ f.2.2) (cond (a.Op == (42:Int)) (zdg b c a d (a.Op == (42:Int))) (cond (a.Op == (43:Int)) (zdg b c a d (a.Op == (43:Int))) (zdg b c a d (a.Op == (44:Int)))))
def zgm(b:List za)(c:T2)(a:zn):Option (Bool):=
  (zE b c a.C).bind fun d=>cond (a.Op == (38:Int)) (zcP b c a d (a.Op == (38:Int))) (cond (a.Op == (39:Int)) (zcP b c a d (a.Op == (39:Int))) (cond (a.Op == (40:Int)) (zcP b c a d (a.Op == (40:Int))) (zcP b c a d (a.Op == (41:Int)))))
theorem zlE(b:List za)(c:T2)(a:zn){r:Bool}(h:zgm b c a=some r):zu Tryz.prog 223 [.ipt 2 [[.isl 6 (map zd b),.imp (map (rKV (fun x=>iA x)) c)]] 0 0,.agg (zx a)] (bA r):=by
 refine zl Tryz.func223 y kz y y ?_
 unfold zgm at h
 refine rg y<|u<|bx 0 4 y y y y<|u<|asg y<|zb ?_
 obtain ⟨e,B,h⟩:=bs h
 refine rg y<|u<|mv y<|u<|fa ti y y y<|u<|ld ti y y<|u<|pc (zG b c a.C B) y y y<|u<|mv y<|u<|ex y y<|u<|ex y y<|u<|al 1 ti y<|u<|sto ti y y y<|u<|asg y<|zb ?_
 refine rg y<|u<|asg y<|zb ?_
 refine zdk (X:=Bool) (fun z=>[(7,bA z)]) (fun z=>[]) (fun z=>zcQ z=some r) ?_ ?_
 ·
  refine rg y<|u<|fa ti y y y<|u<|ld ti y y<|zb ?_
  refine zr ?_
  refine zdk (X:=Bool) (fun z=>[(0,.ipt 2 [[.isl 6 (map zd b),.imp (map (rKV (fun x=>iA x)) c)]] 0 0),(3,.mpt 0 0 0),(5,.mpt 1 0 0),(7,bA true),(16,iA a.Op),(17,bA z)]) (fun z=>[some (4,[(zx a)]),some (6,[(zd e.1)])]) (fun z=>zcP b c a e z=some r) ?_ ?_
  ·
   refine rg y<|u<|eql ti y y<|u<|asg y<|zb ?_
   refine zf y (fun i=>?_) (fun i=>?_)
   ·
    replace h:=bT i h
    refine zi ?_
    exact ⟨(a.Op == (38:Int)),h,zq [.old 0,.old 1]⟩
   ·
    replace h:=bF i h
    refine rg y<|u<|eql ti y y<|u<|asg y<|zb ?_
    refine zf y (fun l=>?_) (fun l=>?_)
    ·
     replace h:=bT l h
     refine zi ?_
     exact ⟨(a.Op == (39:Int)),h,zq [.old 0,.old 1]⟩
    ·
     replace h:=bF l h
     refine rg y<|u<|eql ti y y<|u<|asg y<|zb ?_
     refine zf y (fun m=>?_) (fun m=>?_)
     ·
      replace h:=bT m h
      refine zi ?_
      exact ⟨(a.Op == (40:Int)),h,zq [.old 0,.old 1]⟩
     ·
      replace h:=bF m h
      exact rl y<|u<|eql ti y y<|u<|asg y<|zb (⟨(a.Op == (41:Int)),h,zq [.old 0,.old 1]⟩)
  ·
   rintro D h
   replace h:zcP b c a e D=some r:=h
   unfold zcP at h
   refine zf y (fun n=>?_) (fun n=>?_)
   ·
    replace h:=bT n h
    obtain ⟨E,F,h⟩:=bs h
    exact rl y<|u<|mv y<|u<|fa ti y y y<|u<|ld ti y y<|u<|fa ti y y y<|u<|ld ti y y<|u<|pc (zgB b c a.C a.M F) y y y<|u<|mv y<|u<|ex y y<|u<|ex y y<|u<|ex y y<|u<|asg y<|zb (⟨E.2.2,h,zq []⟩)
   ·
    replace h:=bF n h
    refine zdk (X:=Bool) (fun z=>[(0,.ipt 2 [[.isl 6 (map zd b),.imp (map (rKV (fun x=>iA x)) c)]] 0 0),(3,.mpt 0 0 0),(5,.mpt 1 0 0),(7,bA true),(16,iA a.Op),(32,bA z)]) (fun z=>[some (4,[(zx a)]),some (6,[(zd e.1)])]) (fun z=>zdg b c a e z=some r) ?_ ?_
    ·
     refine rg y<|u<|eql ti y y<|u<|asg y<|zb ?_
     refine zf y (fun o=>?_) (fun o=>?_)
     ·
      replace h:=bT o h
      refine zi ?_
      exact ⟨(a.Op == (42:Int)),h,zq [.old 0,.old 1]⟩
     ·
      replace h:=bF o h
      refine rg y<|u<|eql ti y y<|u<|asg y<|zb ?_
      refine zf y (fun p=>?_) (fun p=>?_)
      ·
       replace h:=bT p h
       refine zi ?_
       exact ⟨(a.Op == (43:Int)),h,zq [.old 0,.old 1]⟩
      ·
       replace h:=bF p h
       exact rl y<|u<|eql ti y y<|u<|asg y<|zb (⟨(a.Op == (44:Int)),h,zq [.old 0,.old 1]⟩)
    ·
     rintro G h
     replace h:zdg b c a e G=some r:=h
     unfold zdg at h
     refine zf y (fun q=>?_) (fun q=>?_)
     ·
      replace h:=bT q h
      obtain ⟨H,s,h⟩:=bs h
      refine rg y<|u<|mv y<|u<|fa ti y y y<|u<|ld ti y y<|u<|fa ti y y y<|u<|ld ti y y<|u<|pc (zge b c a.C a.M s) y y y<|u<|mv y<|u<|ex y y<|u<|ex y y<|u<|ex y y<|u<|asg y<|zb ?_
      exact rl y<|u<|mv y<|u<|mv y<|zbq (j:=1) 3 y y y y y gpn (fun d=>g y d<|fa ti y y y<|g y d<|ld ti y y<|g y d<|nt y<|zb (egA [48,49,50] 3 d y y y y)) zhn<|u<|asg y<|zb (⟨(H.2.2&&(!e.1.Interface)),h,zq []⟩)
     ·
      replace h:=bF q h
      refine rg y<|u<|eql ti y y<|u<|asg y<|zb ?_
      refine zf y (fun f=>?_) (fun f=>?_)
      ·
       replace h:=bT f h
       obtain ⟨I,v,h⟩:=bs h
       exact rl y<|u<|mv y<|u<|fa ti y y y<|u<|ld ti y y<|u<|fa ti y y y<|u<|ld ti y y<|u<|pc (ziY b c a.C a.M v) y y y<|u<|mv y<|u<|ex y y<|u<|ex y y<|u<|ex y y<|u<|asg y<|zb (⟨I.2.2,h,zq []⟩)
      ·
       replace h:=bF f h
       refine zi ?_
       exact ⟨true,h,zq []⟩
 ·
  rintro A h
  replace h:zcQ A=some r:=h
  unfold zcQ at h
  refine rg y<|u<|mv y<|u<|asg y<|zb ?_
  refine zg ?_
  obtain rfl:=sm h
  exact ⟨_,y,zB []⟩
def zd8(a:zn)(b:List za)(c:T2)(d:List za)(e:T2):Option (Bool):=
  (zcL a.C b c).bind fun f=>(cond f (some true) ((zgm d e a).bind fun g=>some (!g))).bind fun h=>some h
theorem zjD(c:zn)(d:List za)(e:T2)(f:List za)(i:T2){r:Bool}(h:zd8 c d e f i=some r):zu Tryz.prog 222 [.agg (zx c),.ipt 1 [[.fn (.func 216) [] [.ipt 1 [[.ipt 2 [[.isl 6 (map zd d),.imp (map (rKV (fun x=>iA x)) e)]] 0 0]] 0 0]]] 0 0,.ipt 1 [[.ipt 2 [[.isl 6 (map zd f),.imp (map (rKV (fun x=>iA x)) i)]] 0 0]] 0 0] (bA r):=by
 refine zl Tryz.func222 y kz y y ?_
 unfold zd8 at h
 refine rg y<|u<|bx 0 4 y y y y<|u<|asg y<|zb ?_
 obtain ⟨o,l,h⟩:=bs h
 obtain ⟨m,b,h⟩:=bs h
 refine rg y<|u<|ld ti y y<|u<|fa ti y y y<|u<|ld ti y y<|u<|pc (zdM c.C d e l) y y y<|u<|mv y<|ze6 (x:=m) (j:=4) 4 y y y y y gpn (fun a=>by replace b:=bF a b;obtain ⟨p,n,b⟩:=bs b;obtain rfl:=sm b;exact g y a<|ld ti y y<|g y a<|ld ti y y<|g y a<|pc (zlE f i c n) y y y<|g y a<|nt y<|zb (eg [10,11,12,13] 4 y y y y)) (fun hb=>(sm (bT hb b)).symm)<|u<|asg y<|zb ?_
 refine zg ?_
 obtain rfl:=sm h
 exact ⟨_,y,zB []⟩
def za5:Option (Int):=
  some (-1)
def zZ(b:List zn)(e:List za)(f:T2)(g:List za)(h:T2)(a:Int):Option (Sum (Int) (Sum (Unit) (Int))):=
  cond (decide (a<(length b:Int))) ((idx b a).bind fun c=>(zd8 c e f g h).bind fun d=>cond d (some (.inr (.inr a))) (some (.inl (IntKind.i64.wrap (a+1))))) (some (.inr (.inl ())))
def zbz(a:List zn)(c:List za)(d:T2)(e:List za)(f:T2):Option (Int):=
  (zz (fun z=>zZ a c d e f z) 0).bind fun o=>zaq o (fun b=>za5) some
theorem ze3(a:List zn)(c:List za)(d:T2)(e:List za)(f:T2){r:Int}(h:zbz a c d e f=some r):zu Tryz.prog 264 [.isl 4 (map zx a),.fn (.func 222) [] [.ipt 1 [[.fn (.func 216) [] [.ipt 1 [[.ipt 2 [[.isl 6 (map zd c),.imp (map (rKV (fun x=>iA x)) d)]] 0 0]] 0 0]]] 0 0,.ipt 1 [[.ipt 2 [[.isl 6 (map zd e),.imp (map (rKV (fun x=>iA x)) f)]] 0 0]] 0 0]] (iA r):=by
 refine zl Tryz.func264 y kz y y ?_
 unfold zbz at h
 refine rg y<|u<|asg y<|zb ?_
 refine zj ?_
 refine rg y<|u<|mv y<|u<|lnI ti y y<|u<|mv y<|zb ?_
 obtain ⟨o,ho,h⟩:=bs h
 refine zaN (X:=Int) (B:=Unit) (R:=Int) (fun z=>[(0,.isl 4 (map zx a)),(1,.fn (.func 222) [] [.ipt 1 [[.fn (.func 216) [] [.ipt 1 [[.ipt 2 [[.isl 6 (map zd c),.imp (map (rKV (fun x=>iA x)) d)]] 0 0]] 0 0]]] 0 0,.ipt 1 [[.ipt 2 [[.isl 6 (map zd e),.imp (map (rKV (fun x=>iA x)) f)]] 0 0]] 0 0]),(7,iA (length a:Int)),(8,iA z)]) (fun z=>[]) (fun b=>[]) (fun b=>[]) (fun r env st=>zb6 Tryz.prog Tryz.f264 0 (iA r) [] env st) ho (zq []) ?_ ?_ ?_
 ·
  rintro m r h
  replace h:zZ a c d e f m=some r:=h
  unfold zZ at h
  refine rg y<|u<|lss ti y y<|zb ?_
  refine zj ?_
  refine zf y (fun g=>?_) (fun g=>?_)
  ·
   replace h:=bT g h
   refine zi ?_
   refine zj ?_
   refine zr ?_
   refine rg y<|u<|mv y<|u<|asg y<|zb ?_
   obtain ⟨j,l,h⟩:=bs h
   obtain ⟨p,n,h⟩:=bs h
   refine rg y<|u<|mv y<|u<|mv y<|u<|mv y<|u<|ixI ti y ti y y y l<|u<|ldI ti y (zp l).2.2 y<|u<|pc (zjD j c d e f n) y y y<|zb ?_
   refine zf y (fun i=>?_) (fun i=>?_)
   ·
    replace h:=bT i h
    refine rg y<|u<|mv y<|u<|asg y<|zb ?_
    refine zg ?_
    obtain rfl:=sm h
    exact ⟨_,y,_,y,zB []⟩
   ·
    replace h:=bF i h
    refine zi ?_
    refine rl y<|u<|add ti y y<|u<|mv y<|zb ?_
    obtain rfl:=sm h
    exact ⟨_,y,zq []⟩
  ·
   replace h:=bF g h
   refine zQ ?_
   obtain rfl:=sm h
   exact ⟨y,_,y,zq []⟩
 ·
  rintro ⟨⟩ rfl
  replace h:za5=some r:=h
  unfold za5 at h
  refine zD ?_
  refine rg y<|u<|asg y<|zb ?_
  refine zg ?_
  obtain rfl:=sm h
  exact ⟨_,y,zB []⟩
 ·
  rintro r' rfl env st hp
  obtain rfl:=sm h
  exact hp
def zas(a:List zn)(b:List za)(c:T2)(d:List za)(e:T2):Option (Bool):=
  (zbz a b c d e).bind fun f=>some (decide (0≤f))
theorem zeo(a:List zn)(b:List za)(c:T2)(d:List za)(e:T2){r:Bool}(h:zas a b c d e=some r):zu Tryz.prog 221 [.isl 4 (map zx a),.fn (.func 222) [] [.ipt 1 [[.fn (.func 216) [] [.ipt 1 [[.ipt 2 [[.isl 6 (map zd b),.imp (map (rKV (fun x=>iA x)) c)]] 0 0]] 0 0]]] 0 0,.ipt 1 [[.ipt 2 [[.isl 6 (map zd d),.imp (map (rKV (fun x=>iA x)) e)]] 0 0]] 0 0]] (bA r):=by
 refine zl Tryz.func221 y kz y y ?_
 unfold zas at h
 refine rg y<|u<|asg y<|zb ?_
 obtain ⟨g,f,h⟩:=bs h
 refine rg y<|u<|mv y<|u<|mv y<|u<|pc (ze3 a b c d e f) y y y<|u<|geq ti y y<|u<|asg y<|zb ?_
 refine zg ?_
 obtain rfl:=sm h
 exact ⟨_,y,zB []⟩
def zbp:Option (Int):=
  some (-1)
def zae(b:T1)(c:List za)(d:T2)(a:Int):Option (Sum (Int) (Sum (Unit) (Int))):=
  cond (decide (a<(length b:Int))) ((idx b a).bind fun e=>(zcL e c d).bind fun f=>cond f (some (.inr (.inr a))) (some (.inl (IntKind.i64.wrap (a+1))))) (some (.inr (.inl ())))
def zbU(a:T1)(c:List za)(d:T2):Option (Int):=
  (zz (fun z=>zae a c d z) 0).bind fun o=>zaq o (fun b=>zbp) some
theorem zfn(a:T1)(c:List za)(d:T2){r:Int}(h:zbU a c d=some r):zu Tryz.prog 110 [.isl 1 (map zm a),.fn (.func 216) [] [.ipt 1 [[.ipt 2 [[.isl 6 (map zd c),.imp (map (rKV (fun x=>iA x)) d)]] 0 0]] 0 0]] (iA r):=by
 refine zl Tryz.func110 y kz y y ?_
 unfold zbU at h
 refine rg y<|u<|asg y<|zb ?_
 refine zj ?_
 refine rg y<|u<|mv y<|u<|lnI ti y y<|u<|mv y<|zb ?_
 obtain ⟨o,ho,h⟩:=bs h
 refine zaN (X:=Int) (B:=Unit) (R:=Int) (fun z=>[(0,.isl 1 (map zm a)),(1,.fn (.func 216) [] [.ipt 1 [[.ipt 2 [[.isl 6 (map zd c),.imp (map (rKV (fun x=>iA x)) d)]] 0 0]] 0 0]),(7,iA (length a:Int)),(8,iA z)]) (fun z=>[]) (fun b=>[]) (fun b=>[]) (fun r env st=>zb6 Tryz.prog Tryz.f110 0 (iA r) [] env st) ho (zq []) ?_ ?_ ?_
 ·
  rintro i r h
  replace h:zae a c d i=some r:=h
  unfold zae at h
  refine rg y<|u<|lss ti y y<|zb ?_
  refine zj ?_
  refine zf y (fun e=>?_) (fun e=>?_)
  ·
   replace h:=bT e h
   refine zi ?_
   refine zj ?_
   refine zr ?_
   refine rg y<|u<|mv y<|u<|asg y<|zb ?_
   obtain ⟨j,g,h⟩:=bs h
   obtain ⟨m,l,h⟩:=bs h
   refine rg y<|u<|mv y<|u<|mv y<|u<|mv y<|u<|ixI ti y ti y y y g<|u<|ldI ti y (zp g).2.2 y<|u<|pc (zdM j c d l) y y y<|zb ?_
   refine zf y (fun f=>?_) (fun f=>?_)
   ·
    replace h:=bT f h
    refine rg y<|u<|mv y<|u<|asg y<|zb ?_
    refine zg ?_
    obtain rfl:=sm h
    exact ⟨_,y,_,y,zB []⟩
   ·
    replace h:=bF f h
    refine zi ?_
    refine rl y<|u<|add ti y y<|u<|mv y<|zb ?_
    obtain rfl:=sm h
    exact ⟨_,y,zq []⟩
  ·
   replace h:=bF e h
   refine zQ ?_
   obtain rfl:=sm h
   exact ⟨y,_,y,zq []⟩
 ·
  rintro ⟨⟩ rfl
  replace h:zbp=some r:=h
  unfold zbp at h
  refine zD ?_
  refine rg y<|u<|asg y<|zb ?_
  refine zg ?_
  obtain rfl:=sm h
  exact ⟨_,y,zB []⟩
 ·
  rintro r' rfl env st hp
  obtain rfl:=sm h
  exact hp
def zaE(a:T1)(b:List za)(c:T2):Option (Bool):=
  (zbU a b c).bind fun d=>some (decide (0≤d))
theorem zeO(a:T1)(b:List za)(c:T2){r:Bool}(h:zaE a b c=some r):zu Tryz.prog 56 [.isl 1 (map zm a),.fn (.func 216) [] [.ipt 1 [[.ipt 2 [[.isl 6 (map zd b),.imp (map (rKV (fun x=>iA x)) c)]] 0 0]] 0 0]] (bA r):=by
 refine zl Tryz.func56 y kz y y ?_
 unfold zaE at h
 refine rg y<|u<|asg y<|zb ?_
 obtain ⟨e,d,h⟩:=bs h
 refine rg y<|u<|mv y<|u<|mv y<|u<|pc (zfn a b c d) y y y<|u<|geq ti y y<|u<|asg y<|zb ?_
 refine zg ?_
 obtain rfl:=sm h
 exact ⟨_,y,zB []⟩
def zfd(a:zc)(b:List za)(c:T2)(e:List za)(f:T2):Option (Bool):=
  (zal a.Traps b c).bind fun g=>(zas a.Code b c e f).bind fun h=>(zcL a.Ret b c).bind fun i=>(cond i (some true) ((zaE a.Params b c).bind fun j=>some j)).bind fun d=>some ((d||g)||h)
theorem zkB(b:zc)(c:List za)(d:T2)(l:List za)(m:T2){r:Bool}(h:zfd b c d l m=some r):zu Tryz.prog 218 [.agg (ze b),.ipt 1 [[.fn (.func 216) [] [.ipt 1 [[.ipt 2 [[.isl 6 (map zd c),.imp (map (rKV (fun x=>iA x)) d)]] 0 0]] 0 0]]] 0 0,.ipt 1 [[.ipt 2 [[.isl 6 (map zd l),.imp (map (rKV (fun x=>iA x)) m)]] 0 0]] 0 0] (bA r):=by
 refine zl Tryz.func218 y kz y y ?_
 unfold zfd at h
 refine rg y<|u<|bx 0 10 y y y y<|u<|asg y<|zb ?_
 obtain ⟨v,o,h⟩:=bs h
 refine rg y<|u<|fa ti y y y<|u<|ld ti y y<|u<|mf y y<|u<|pc (zd4 b.Traps c d o) y y y<|u<|asg y<|zb ?_
 obtain ⟨z,p,h⟩:=bs h
 refine rg y<|u<|fa ti y y y<|u<|ld ti y y<|u<|mf y y<|u<|pc (zeo b.Code c d l m p) y y y<|u<|asg y<|zb ?_
 obtain ⟨A,q,h⟩:=bs h
 obtain ⟨n,e,h⟩:=bs h
 refine rg y<|u<|ld ti y y<|u<|fa ti y y y<|u<|ld ti y y<|u<|pc (zdM b.Ret c d q) y y y<|u<|mv y<|ze6 (x:=n) (j:=4) 4 y y y y y gpn (fun a=>by replace e:=bF a e;obtain ⟨B,s,e⟩:=bs e;obtain rfl:=sm e;exact g y a<|fa ti y y y<|g y a<|ld ti y y<|g y a<|ld ti y y<|g y a<|pc (zeO b.Params c d s) y y y<|zb (eg [20,21,22,23] 4 y y y y)) (fun hb=>(sm (bT hb e)).symm)<|u<|mv y<|ze6 (j:=10) 1 y y y y y gpn (fun f=>g y f<|mv y<|zb (egO [26] 1 f y y y y)) orT<|u<|mv y<|ze6 (j:=13) 1 y y y y y gpn (fun i=>g y i<|mv y<|zb (egO [29] 1 i y y y y)) orT<|u<|asg y<|zb ?_
 refine zg ?_
 obtain rfl:=sm h
 exact ⟨_,y,zB []⟩
def zaw:Option (Int):=
  some (-1)
def zI(b:List zc)(e:List za)(f:T2)(g:List za)(h:T2)(a:Int):Option (Sum (Int) (Sum (Unit) (Int))):=
  cond (decide (a<(length b:Int))) ((idx b a).bind fun c=>(zfd c e f g h).bind fun d=>cond d (some (.inr (.inr a))) (some (.inl (IntKind.i64.wrap (a+1))))) (some (.inr (.inl ())))
def zaS(a:List zc)(c:List za)(d:T2)(e:List za)(f:T2):Option (Int):=
  (zz (fun z=>zI a c d e f z) 0).bind fun o=>zaq o (fun b=>zaw) some
theorem zdT(a:List zc)(c:List za)(d:T2)(e:List za)(f:T2){r:Int}(h:zaS a c d e f=some r):zu Tryz.prog 244 [.isl 10 (map ze a),.fn (.func 218) [] [.ipt 1 [[.fn (.func 216) [] [.ipt 1 [[.ipt 2 [[.isl 6 (map zd c),.imp (map (rKV (fun x=>iA x)) d)]] 0 0]] 0 0]]] 0 0,.ipt 1 [[.ipt 2 [[.isl 6 (map zd e),.imp (map (rKV (fun x=>iA x)) f)]] 0 0]] 0 0]] (iA r):=by
 refine zl Tryz.func244 y kz y y ?_
 unfold zaS at h
 refine rg y<|u<|asg y<|zb ?_
 refine zj ?_
 refine rg y<|u<|mv y<|u<|lnI ti y y<|u<|mv y<|zb ?_
 obtain ⟨o,ho,h⟩:=bs h
 refine zaN (X:=Int) (B:=Unit) (R:=Int) (fun z=>[(0,.isl 10 (map ze a)),(1,.fn (.func 218) [] [.ipt 1 [[.fn (.func 216) [] [.ipt 1 [[.ipt 2 [[.isl 6 (map zd c),.imp (map (rKV (fun x=>iA x)) d)]] 0 0]] 0 0]]] 0 0,.ipt 1 [[.ipt 2 [[.isl 6 (map zd e),.imp (map (rKV (fun x=>iA x)) f)]] 0 0]] 0 0]),(7,iA (length a:Int)),(8,iA z)]) (fun z=>[]) (fun b=>[]) (fun b=>[]) (fun r env st=>zb6 Tryz.prog Tryz.f244 0 (iA r) [] env st) ho (zq []) ?_ ?_ ?_
 ·
  rintro m r h
  replace h:zI a c d e f m=some r:=h
  unfold zI at h
  refine rg y<|u<|lss ti y y<|zb ?_
  refine zj ?_
  refine zf y (fun g=>?_) (fun g=>?_)
  ·
   replace h:=bT g h
   refine zi ?_
   refine zj ?_
   refine zr ?_
   refine rg y<|u<|mv y<|u<|asg y<|zb ?_
   obtain ⟨j,l,h⟩:=bs h
   obtain ⟨p,n,h⟩:=bs h
   refine rg y<|u<|mv y<|u<|mv y<|u<|mv y<|u<|ixI ti y ti y y y l<|u<|ldI ti y (zp l).2.2 y<|u<|pc (zkB j c d e f n) y y y<|zb ?_
   refine zf y (fun i=>?_) (fun i=>?_)
   ·
    replace h:=bT i h
    refine rg y<|u<|mv y<|u<|asg y<|zb ?_
    refine zg ?_
    obtain rfl:=sm h
    exact ⟨_,y,_,y,zB []⟩
   ·
    replace h:=bF i h
    refine zi ?_
    refine rl y<|u<|add ti y y<|u<|mv y<|zb ?_
    obtain rfl:=sm h
    exact ⟨_,y,zq []⟩
  ·
   replace h:=bF g h
   refine zQ ?_
   obtain rfl:=sm h
   exact ⟨y,_,y,zq []⟩
 ·
  rintro ⟨⟩ rfl
  replace h:zaw=some r:=h
  unfold zaw at h
  refine zD ?_
  refine rg y<|u<|asg y<|zb ?_
  refine zg ?_
  obtain rfl:=sm h
  exact ⟨_,y,zB []⟩
 ·
  rintro r' rfl env st hp
  obtain rfl:=sm h
  exact hp
def zX(a:List zc)(b:List za)(c:T2)(d:List za)(e:T2):Option (Bool):=
  (zaS a b c d e).bind fun f=>some (decide (0≤f))
theorem zdC(a:List zc)(b:List za)(c:T2)(d:List za)(e:T2){r:Bool}(h:zX a b c d e=some r):zu Tryz.prog 181 [.isl 10 (map ze a),.fn (.func 218) [] [.ipt 1 [[.fn (.func 216) [] [.ipt 1 [[.ipt 2 [[.isl 6 (map zd b),.imp (map (rKV (fun x=>iA x)) c)]] 0 0]] 0 0]]] 0 0,.ipt 1 [[.ipt 2 [[.isl 6 (map zd d),.imp (map (rKV (fun x=>iA x)) e)]] 0 0]] 0 0]] (bA r):=by
 refine zl Tryz.func181 y kz y y ?_
 unfold zX at h
 refine rg y<|u<|asg y<|zb ?_
 obtain ⟨g,f,h⟩:=bs h
 refine rg y<|u<|mv y<|u<|mv y<|u<|pc (zdT a b c d e f) y y y<|u<|geq ti y y<|u<|asg y<|zb ?_
 refine zg ?_
 obtain rfl:=sm h
 exact ⟨_,y,zB []⟩
def zgn(a:List za)(b:T2)(c:za):Option (Bool):=
  (z6 c.Fields a b).bind fun d=>(zX c.Methods a b a b).bind fun e=>some ((!d)&&(!e))
theorem zlF(a:List za)(b:T2)(d:za){r:Bool}(h:zgn a b d=some r):zu Tryz.prog 154 [.ipt 2 [[.isl 6 (map zd a),.imp (map (rKV (fun x=>iA x)) b)]] 0 0,.agg (zd d)] (bA r):=by
 refine zl Tryz.func154 y kz y y ?_
 unfold zgn at h
 refine rg y<|u<|bx 0 1 y y y y<|u<|bx 1 6 y y y y<|u<|asg y<|zb ?_
 refine rg y<|u<|mf y y<|u<|al 2 ti y<|u<|sto ti y y y<|zb ?_
 obtain ⟨i,e,h⟩:=bs h
 refine rg y<|u<|fa ti y y y<|u<|ld ti y y<|u<|mf y y<|u<|pcs (zdQ d.Fields a b e) y y (.cons (si y) (.cons (zd0 t ⟨(zcb y ⟨(zd0 t ⟨(zcb y ⟨(si y),t⟩),t⟩),t⟩),t⟩) .nil)) zdb<|u<|asg y<|zb ?_
 obtain ⟨l,f,h⟩:=bs h
 refine rg y<|u<|fa ti y y y<|u<|ld ti y y<|u<|mf y y<|u<|pcs (zdC d.Methods a b a b f) y y (.cons (si y) (.cons (zd0 t ⟨(zcb y ⟨(zd0 t ⟨(zcb y ⟨(si y),t⟩),t⟩),t⟩),(zcb y ⟨(si y),t⟩),t⟩) .nil)) zdb<|u<|asg y<|zb ?_
 refine rg y<|u<|mv y<|u<|nt y<|u<|mv y<|zbq (j:=2) 2 y y y y y gpn (fun c=>g y c<|mv y<|g y c<|nt y<|zb (egA [20,21] 2 c y y y y)) zhn<|u<|asg y<|zb ?_
 refine zg ?_
 obtain rfl:=sm h
 exact ⟨_,y,zB []⟩
def zc3:Option (Bool):=
  some true
def zaX(b:T1)(c:T1)(a:Int):Option (Sum (Int) (Sum (Unit) (Bool))):=
  cond (decide (a<(length b:Int))) ((idx b a).bind fun d=>(idx c a).bind fun e=>cond (!(d == e)) (some (.inr (.inr false))) (some (.inl (IntKind.i64.wrap (a+1))))) (some (.inr (.inl ())))
def zca(a:T1)(c:T1):Option (Bool):=
  cond (!((length a:Int) == (length c:Int))) (some false) ((zz (fun z=>zaX a c z) 0).bind fun o=>zaq o (fun b=>zc3) some)
theorem zgC(a:T1)(c:T1){r:Bool}(h:zca a c=some r):zu Tryz.prog 237 [.isl 1 (map zm a),.isl 1 (map zm c)] (bA r):=by
 refine zl Tryz.func237 y kz y y ?_
 unfold zca at h
 refine rg y<|u<|asg y<|zb ?_
 refine zj ?_
 refine rg y<|u<|mv y<|u<|lnI ti y y<|u<|mv y<|u<|lnI ti y y<|u<|neq ti y y<|zb ?_
 refine zf y (fun e=>?_) (fun e=>?_)
 ·
  replace h:=bT e h
  refine rg y<|u<|asg y<|zb ?_
  refine zg ?_
  obtain rfl:=sm h
  exact ⟨_,y,zB []⟩
 ·
  replace h:=bF e h
  refine zi ?_
  refine zj ?_
  refine rg y<|u<|mv y<|u<|lnI ti y y<|u<|mv y<|zb ?_
  obtain ⟨o,ho,h⟩:=bs h
  refine zaN (X:=Int) (B:=Unit) (R:=Bool) (fun z=>[(0,.isl 1 (map zm a)),(1,.isl 1 (map zm c)),(12,iA (length a:Int)),(13,iA z)]) (fun z=>[]) (fun b=>[]) (fun b=>[]) (fun r env st=>zb6 Tryz.prog Tryz.f237 0 (bA r) [] env st) ho (zq []) ?_ ?_ ?_
  ·
   rintro d r h
   replace h:zaX a c d=some r:=h
   unfold zaX at h
   refine rg y<|u<|lss ti y y<|zb ?_
   refine zj ?_
   refine zf y (fun f=>?_) (fun f=>?_)
   ·
    replace h:=bT f h
    refine zi ?_
    refine zj ?_
    refine zr ?_
    refine rg y<|u<|mv y<|u<|asg y<|zb ?_
    obtain ⟨i,l,h⟩:=bs h
    obtain ⟨j,m,h⟩:=bs h
    refine rdA [(0,.isl 1 (map zm a)),(1,.isl 1 (map zm c)),(12,iA (length a:Int)),(13,iA d),(24,bA (!(i == j)))] [] [] [8,7,6,5,4,3,2,1,0] [(24,bA (!(i == j))),(23,sA j),(22,.ipt 1 (map zm c) (Int.toNat d) 0),(21,iA d),(20,.isl 1 (map zm c)),(19,sA i),(18,.ipt 1 (map zm a) (Int.toNat d) 0),(17,iA d),(16,.isl 1 (map zm a))] 0 (zjh ⟨pe,(pb y (ldI ti y (zp m).2.2 y w)),(pb y (ixI ti y ti y y y m w)),pe,pe,(pb y (ldI ti y (zp l).2.2 y w)),(pb y (ixI ti y ti y y y l w)),pe,pe,t⟩ (zq [])) ?_
    refine zf y (fun g=>?_) (fun g=>?_)
    ·
     replace h:=bT g h
     refine rg y<|u<|asg y<|zb ?_
     refine zg ?_
     obtain rfl:=sm h
     exact ⟨_,y,_,y,zB []⟩
    ·
     replace h:=bF g h
     refine zi ?_
     refine rl y<|u<|add ti y y<|u<|mv y<|zb ?_
     obtain rfl:=sm h
     exact ⟨_,y,zq []⟩
   ·
    replace h:=bF f h
    refine zQ ?_
    obtain rfl:=sm h
    exact ⟨y,_,y,zq []⟩
  ·
   rintro ⟨⟩ rfl
   replace h:zc3=some r:=h
   unfold zc3 at h
   refine zD ?_
   refine rg y<|u<|asg y<|zb ?_
   refine zg ?_
   obtain rfl:=sm h
   exact ⟨_,y,zB []⟩
  ·
   rintro r' rfl env st hp
   obtain rfl:=sm h
   exact hp
def zgc(a:zc)(b:zc):Option (Bool):=
  (zca a.Params b.Params).bind fun c=>some (c&&(a.Ret == b.Ret))
theorem zik(b:zc)(c:zc){r:Bool}(h:zgc b c=some r):zu Tryz.prog 166 [.agg (ze b),.agg (ze c)] (bA r):=by
 refine zl Tryz.func166 y kz y y ?_
 unfold zgc at h
 refine rg y<|u<|bx 0 10 y y y y<|u<|bx 1 10 y y y y<|u<|asg y<|zb ?_
 obtain ⟨e,d,h⟩:=bs h
 refine rg y<|u<|fa ti y y y<|u<|ld ti y y<|u<|fa ti y y y<|u<|ld ti y y<|u<|pc (zgC b.Params c.Params d) y y y<|u<|mv y<|zbq (j:=5) 5 y y y y y gpn (fun a=>g y a<|fa ti y y y<|g y a<|ld ti y y<|g y a<|fa ti y y y<|g y a<|ld ti y y<|g y a<|seq ti y y<|zb (egA [11,12,13,14,15] 5 a y y y y)) zhn<|u<|asg y<|zb ?_
 refine zg ?_
 obtain rfl:=sm h
 exact ⟨_,y,zB []⟩
def zdu(a:zc)(b:T0)(h:T1)(i:T0)(c:Bool)(j:Bool)(l:Int)(m:Int)(n:List zn)(d:List zaA)(e:List zV):Option (Bool):=
  (cond ((a.Name == b)&&(!(b == [36,105,110,105,116]))) ((zgc (zc.mk b h i c j l m n d e) a).bind fun f=>some (((!f)||c)||a.Static)) (some false)).bind fun g=>some g
theorem ziQ(l:zc)(m:T0)(n:T1)(o:T0)(p:Bool)(q:Bool)(s:Int)(v:Int)(z:List zn)(d:List zaA)(e:List zV){r:Bool}(h:zdu l m n o p q s v z d e=some r):zu Tryz.prog 224 [.agg (ze l),.ipt 10 [[sA m,.isl 1 (map zm n),sA o,bA p,bA q,iA s,iA v,.isl 4 (map zx z),.isl 3 (map zaG d),.isl 4 (map zap e)]] 0 0] (bA r):=by
 refine zl Tryz.func224 y kz y y ?_
 unfold zdu at h
 refine rg y<|u<|bx 0 10 y y y y<|u<|asg y<|zb ?_
 obtain ⟨A,c,h⟩:=bs h
 refine rg y<|u<|fa ti y y y<|u<|ld ti y y<|u<|fa ti y y y<|u<|ld ti y y<|u<|seq ti y y<|u<|mv y<|zbq (j:=5) 3 y y y y y gpn (fun b=>g y b<|fa ti y y y<|g y b<|ld ti y y<|g y b<|sne ti y y<|zb (egA [10,11,12] 3 b y y y y)) zhn<|u<|mv y<|zbq (x:=A) (j:=10) 12 y y y y y gpn (fun a=>by replace c:=bT a c;obtain ⟨C,B,c⟩:=bs c;obtain rfl:=sm c;exact g y a<|ld ti y y<|g y a<|ld ti y y<|g y a<|pc (zik (zc.mk m n o p q s v z d e) l B) y y y<|g y a<|nt y<|g y a<|mv y<|ze6 (j:=15) 2 y y y y y (gps y y a) (fun f=>g y f<|fa ti y y y<|g y f<|ld ti y y<|zb (egO [20,21] 2 f y y y y)) orT<|g y a<|mv y<|ze6 (j:=19) 2 y y y y y (gps y y a) (fun i=>g y i<|fa ti y y y<|g y i<|ld ti y y<|zb (egO [24,25] 2 i y y y y)) orT<|zb (eg [15,16,17,18,19,20,21,22,23,24,25,26] 8 y y y y)) (fun hb=>(sm (bF hb c)).symm)<|u<|asg y<|zb ?_
 refine zg ?_
 obtain rfl:=sm h
 exact ⟨_,y,zB []⟩
def zax:Option (Int):=
  some (-1)
def zJ(b:List zc)(g:T0)(h:T1)(i:T0)(j:Bool)(l:Bool)(m:Int)(n:Int)(o:List zn)(c:List zaA)(d:List zV)(a:Int):Option (Sum (Int) (Sum (Unit) (Int))):=
  cond (decide (a<(length b:Int))) ((idx b a).bind fun e=>(zdu e g h i j l m n o c d).bind fun f=>cond f (some (.inr (.inr a))) (some (.inl (IntKind.i64.wrap (a+1))))) (some (.inr (.inl ())))
def zaT(d:List zc)(e:T0)(f:T1)(g:T0)(h:Bool)(i:Bool)(j:Int)(l:Int)(m:List zn)(a:List zaA)(c:List zV):Option (Int):=
  (zz (fun z=>zJ d e f g h i j l m a c z) 0).bind fun o=>zaq o (fun b=>zax) some
theorem zdU(d:List zc)(e:T0)(f:T1)(g:T0)(i:Bool)(j:Bool)(l:Int)(m:Int)(n:List zn)(a:List zaA)(c:List zV){r:Int}(h:zaT d e f g i j l m n a c=some r):zu Tryz.prog 244 [.isl 10 (map ze d),.fn (.func 224) [] [.ipt 10 [[sA e,.isl 1 (map zm f),sA g,bA i,bA j,iA l,iA m,.isl 4 (map zx n),.isl 3 (map zaG a),.isl 4 (map zap c)]] 0 0]] (iA r):=by
 refine zl Tryz.func244 y kz y y ?_
 unfold zaT at h
 refine rg y<|u<|asg y<|zb ?_
 refine zj ?_
 refine rg y<|u<|mv y<|u<|lnI ti y y<|u<|mv y<|zb ?_
 obtain ⟨o,ho,h⟩:=bs h
 refine zaN (X:=Int) (B:=Unit) (R:=Int) (fun z=>[(0,.isl 10 (map ze d)),(1,.fn (.func 224) [] [.ipt 10 [[sA e,.isl 1 (map zm f),sA g,bA i,bA j,iA l,iA m,.isl 4 (map zx n),.isl 3 (map zaG a),.isl 4 (map zap c)]] 0 0]),(7,iA (length d:Int)),(8,iA z)]) (fun z=>[]) (fun b=>[]) (fun b=>[]) (fun r env st=>zb6 Tryz.prog Tryz.f244 0 (iA r) [] env st) ho (zq []) ?_ ?_ ?_
 ·
  rintro s r h
  replace h:zJ d e f g i j l m n a c s=some r:=h
  unfold zJ at h
  refine rg y<|u<|lss ti y y<|zb ?_
  refine zj ?_
  refine zf y (fun p=>?_) (fun p=>?_)
  ·
   replace h:=bT p h
   refine zi ?_
   refine zj ?_
   refine zr ?_
   refine rg y<|u<|mv y<|u<|asg y<|zb ?_
   obtain ⟨v,x,h⟩:=bs h
   obtain ⟨C,A,h⟩:=bs h
   refine rg y<|u<|mv y<|u<|mv y<|u<|mv y<|u<|ixI ti y ti y y y x<|u<|ldI ti y (zp x).2.2 y<|u<|pc (ziQ v e f g i j l m n a c A) y y y<|zb ?_
   refine zf y (fun q=>?_) (fun q=>?_)
   ·
    replace h:=bT q h
    refine rg y<|u<|mv y<|u<|asg y<|zb ?_
    refine zg ?_
    obtain rfl:=sm h
    exact ⟨_,y,_,y,zB []⟩
   ·
    replace h:=bF q h
    refine zi ?_
    refine rl y<|u<|add ti y y<|u<|mv y<|zb ?_
    obtain rfl:=sm h
    exact ⟨_,y,zq []⟩
  ·
   replace h:=bF p h
   refine zQ ?_
   obtain rfl:=sm h
   exact ⟨y,_,y,zq []⟩
 ·
  rintro ⟨⟩ rfl
  replace h:zax=some r:=h
  unfold zax at h
  refine zD ?_
  refine rg y<|u<|asg y<|zb ?_
  refine zg ?_
  obtain rfl:=sm h
  exact ⟨_,y,zB []⟩
 ·
  rintro r' rfl env st hp
  obtain rfl:=sm h
  exact hp
def zY(d:List zc)(e:T0)(f:T1)(g:T0)(h:Bool)(i:Bool)(j:Int)(l:Int)(m:List zn)(a:List zaA)(b:List zV):Option (Bool):=
  (zaT d e f g h i j l m a b).bind fun c=>some (decide (0≤c))
theorem zdD(c:List zc)(d:T0)(e:T1)(f:T0)(g:Bool)(i:Bool)(j:Int)(l:Int)(m:List zn)(a:List zaA)(b:List zV){r:Bool}(h:zY c d e f g i j l m a b=some r):zu Tryz.prog 181 [.isl 10 (map ze c),.fn (.func 224) [] [.ipt 10 [[sA d,.isl 1 (map zm e),sA f,bA g,bA i,iA j,iA l,.isl 4 (map zx m),.isl 3 (map zaG a),.isl 4 (map zap b)]] 0 0]] (bA r):=by
 refine zl Tryz.func181 y kz y y ?_
 unfold zY at h
 refine rg y<|u<|asg y<|zb ?_
 obtain ⟨o,n,h⟩:=bs h
 refine rg y<|u<|mv y<|u<|mv y<|u<|pc (zdU c d e f g i j l m a b n) y y y<|u<|geq ti y y<|u<|asg y<|zb ?_
 refine zg ?_
 obtain rfl:=sm h
 exact ⟨_,y,zB []⟩
def zfw:Option (Bool):=
  some true
def zd2(a:Int):Option (Sum (Int) (Sum (Unit) (Bool))):=
  some (.inl (IntKind.i64.wrap (a+1)))
def zb0(g:List za)(h:T2)(a:zc)(c:T1)(b:Int):Option (Sum (Int) (Sum (Unit) (Bool))):=
  cond (decide (b<(length c:Int))) ((idx c b).bind fun d=>(zE g h d).bind fun e=>(zY e.1.Methods a.Name a.Params a.Ret a.Static a.Abstract a.Locals a.Stack a.Code a.Maps a.Traps).bind fun f=>cond f (some (.inr (.inr false))) (some (.inl (IntKind.i64.wrap (b+1))))) (some (.inr (.inl ())))
def zb1(e:List za)(f:T2)(d:za)(a:Int):Option (Sum (Int) (Sum (Unit) (Bool))):=
  cond (decide (a<(length d.Methods:Int))) ((idx d.Methods a).bind fun g=>(zai e f d.Name).bind fun c=>(zj3 c 1 (length c:Int)).bind fun h=>(zz (fun z=>zb0 e f g h z) 0).bind fun o=>zaq o (fun b=>zd2 a) (fun r=>some (.inr (.inr r)))) (some (.inr (.inl ())))
def zd7(a:List za)(c:T2)(d:za):Option (Bool):=
  (zz (fun z=>zb1 a c d z) 0).bind fun o=>zaq o (fun b=>zfw) some
theorem zjB(e:List za)(f:T2)(d:za){r:Bool}(h:zd7 e f d=some r):zu Tryz.prog 155 [.ipt 2 [[.isl 6 (map zd e),.imp (map (rKV (fun x=>iA x)) f)]] 0 0,.agg (zd d)] (bA r):=by
 refine zl Tryz.func155 y kz y y ?_
 unfold zd7 at h
 refine rg y<|u<|bx 0 6 y y y y<|u<|asg y<|zb ?_
 refine zj ?_
 refine rg y<|u<|fa ti y y y<|u<|ld ti y y<|u<|lnI ti y y<|u<|mv y<|zb ?_
 obtain ⟨o,ho,h⟩:=bs h
 refine zaN (X:=Int) (B:=Unit) (R:=Bool) (fun z=>[(0,.ipt 2 [[.isl 6 (map zd e),.imp (map (rKV (fun x=>iA x)) f)]] 0 0),(3,.mpt 0 0 0),(12,.isl 10 (map ze d.Methods)),(13,iA (length d.Methods:Int)),(14,iA z)]) (fun z=>[some (6,[(zd d)])]) (fun b=>[]) (fun b=>[]) (fun r env st=>zb6 Tryz.prog Tryz.f155 0 (bA r) [] env st) ho (zq [.old 0]) ?_ ?_ ?_
 ·
  rintro g r h
  replace h:zb1 e f d g=some r:=h
  unfold zb1 at h
  refine rg y<|u<|lss ti y y<|zb ?_
  refine zj ?_
  refine zf y (fun i=>?_) (fun i=>?_)
  ·
   replace h:=bT i h
   refine zi ?_
   refine zj ?_
   refine zr ?_
   obtain ⟨c,p,h⟩:=bs h
   refine rg y<|u<|ixI ti y ti y y y p<|u<|ldI ti y (zp p).2.2 y<|u<|al 1 ti y<|u<|sto ti y y y<|zb ?_
   obtain ⟨m,v,h⟩:=bs h
   obtain ⟨n,q,h⟩:=bs h
   refine rg y<|u<|mv y<|u<|fa ti y y y<|u<|ld ti y y<|u<|sx [] (za7 e f d.Name v)<|zK (env0:=[(0,.ipt 2 [[.isl 6 (map zd e),.imp (map (rKV (fun x=>iA x)) f)]] 0 0),(3,.mpt 0 0 0),(6,.mpt 1 0 0),(12,.isl 10 (map ze d.Methods)),(13,iA (length d.Methods:Int)),(14,iA g),(21,.msl 2 0 (length m))]) (st0:=[some (6,[(zd d)]),some (10,[(ze c)]),some (1,map zm m)]) (zq [.old 0,.old 1,.old 2])<|zK (env0:=[(0,.ipt 2 [[.isl 6 (map zd e),.imp (map (rKV (fun x=>iA x)) f)]] 0 0),(3,.mpt 0 0 0),(6,.mpt 1 0 0),(12,.isl 10 (map ze d.Methods)),(13,iA (length d.Methods:Int)),(14,iA g),(21,.isl 1 (map zm m))]) (st0:=[some (6,[(zd d)]),some (10,[(ze c)])]) (zq [.old 0,.old 1])<|u<|slI (a:=1) (b:=(length m:Int)) ti y ti y y (zrh y q) y q<|u<|lnI ti y y<|u<|mv y<|zb ?_
   obtain ⟨o,ho,h⟩:=bs h
   refine zaN (X:=Int) (B:=Unit) (R:=Bool) (fun z=>[(0,.ipt 2 [[.isl 6 (map zd e),.imp (map (rKV (fun x=>iA x)) f)]] 0 0),(3,.mpt 0 0 0),(6,.mpt 1 0 0),(12,.isl 10 (map ze d.Methods)),(13,iA (length d.Methods:Int)),(14,iA g),(22,.isl 1 (map zm n)),(23,iA (length n:Int)),(24,iA z)]) (fun z=>[some (6,[(zd d)]),some (10,[(ze c)])]) (fun b=>[(0,.ipt 2 [[.isl 6 (map zd e),.imp (map (rKV (fun x=>iA x)) f)]] 0 0),(3,.mpt 0 0 0),(12,.isl 10 (map ze d.Methods)),(13,iA (length d.Methods:Int)),(14,iA g)]) (fun b=>[some (6,[(zd d)])]) (fun r env st=>zb6 Tryz.prog Tryz.f155 0 (bA r) [] env st) ho (zq [.old 0,.old 1]) ?_ ?_ ?_
   ·
    rintro A r h
    replace h:zb0 e f c n A=some r:=h
    unfold zb0 at h
    refine rg y<|u<|lss ti y y<|zb ?_
    refine zj ?_
    refine zf y (fun j=>?_) (fun j=>?_)
    ·
     replace h:=bT j h
     refine zi ?_
     refine zj ?_
     refine zr ?_
     obtain ⟨C,s,h⟩:=bs h
     refine rg y<|u<|ixI ti y ti y y y s<|u<|ldI ti y (zp s).2.2 y<|u<|asg y<|zb ?_
     obtain ⟨D,E,h⟩:=bs h
     refine rg y<|u<|mv y<|u<|mv y<|u<|pc (zG e f C E) y y y<|u<|mv y<|u<|ex y y<|u<|ex y y<|u<|al 2 ti y<|u<|sto ti y y y<|u<|asg y<|zb ?_
     obtain ⟨G,F,h⟩:=bs h
     refine rg y<|u<|fa ti y y y<|u<|ld ti y y<|u<|mf y y<|u<|pcs (zdD D.1.Methods c.Name c.Params c.Ret c.Static c.Abstract c.Locals c.Stack c.Code c.Maps c.Traps F) y y (.cons (si y) (.cons (zd0 t ⟨(zcb y ⟨(si y),(si y),(si y),(si y),(si y),(si y),(si y),(si y),(si y),(si y),t⟩),t⟩) .nil)) zdb<|zb ?_
     refine zf y (fun l=>?_) (fun l=>?_)
     ·
      replace h:=bT l h
      refine rg y<|u<|asg y<|zb ?_
      refine zg ?_
      obtain rfl:=sm h
      exact ⟨_,y,_,y,zB []⟩
     ·
      replace h:=bF l h
      refine zi ?_
      refine rl y<|u<|add ti y y<|u<|mv y<|zb ?_
      obtain rfl:=sm h
      exact ⟨_,y,zq [.old 0,.old 1]⟩
    ·
     replace h:=bF j h
     refine zQ ?_
     obtain rfl:=sm h
     exact ⟨y,_,y,zq [.old 0]⟩
   ·
    rintro ⟨⟩ rfl
    replace h:zd2 g=some r:=h
    unfold zd2 at h
    refine zD ?_
    refine rl y<|u<|add ti y y<|u<|mv y<|zb ?_
    obtain rfl:=sm h
    exact ⟨_,y,zq [.old 0]⟩
   ·
    rintro r' rfl env st hp
    obtain rfl:=sm h
    exact ⟨_,y,hp⟩
  ·
   replace h:=bF i h
   refine zQ ?_
   obtain rfl:=sm h
   exact ⟨y,_,y,zq []⟩
 ·
  rintro ⟨⟩ rfl
  replace h:zfw=some r:=h
  unfold zfw at h
  refine zD ?_
  refine rg y<|u<|asg y<|zb ?_
  refine zg ?_
  obtain rfl:=sm h
  exact ⟨_,y,zB []⟩
 ·
  rintro r' rfl env st hp
  obtain rfl:=sm h
  exact hp
def zhz(a:zc)(b:T0)(g:T1)(h:T0)(i:Bool)(j:Bool)(l:Int)(m:Int)(n:List zn)(c:List zaA)(d:List zV):Option (Bool):=
  (cond (a.Name == b) ((zgc (zc.mk b g h i j l m n c d) a).bind fun e=>some (!e)) (some false)).bind fun f=>some f
theorem zkx(e:zc)(f:T0)(i:T1)(l:T0)(m:Bool)(n:Bool)(o:Int)(p:Int)(q:List zn)(c:List zaA)(d:List zV){r:Bool}(h:zhz e f i l m n o p q c d=some r):zu Tryz.prog 225 [.agg (ze e),.ipt 10 [[sA f,.isl 1 (map zm i),sA l,bA m,bA n,iA o,iA p,.isl 4 (map zx q),.isl 3 (map zaG c),.isl 4 (map zap d)]] 0 0] (bA r):=by
 refine zl Tryz.func225 y kz y y ?_
 unfold zhz at h
 refine rg y<|u<|bx 0 10 y y y y<|u<|asg y<|zb ?_
 obtain ⟨s,b,h⟩:=bs h
 refine rg y<|u<|fa ti y y y<|u<|ld ti y y<|u<|fa ti y y y<|u<|ld ti y y<|u<|seq ti y y<|u<|mv y<|zbq (x:=s) (j:=5) 4 y y y y y gpn (fun a=>by replace b:=bT a b;obtain ⟨z,v,b⟩:=bs b;obtain rfl:=sm b;exact g y a<|ld ti y y<|g y a<|ld ti y y<|g y a<|pc (zik (zc.mk f i l m n o p q c d) e v) y y y<|g y a<|nt y<|zb (eg [10,11,12,13] 4 y y y y)) (fun hb=>(sm (bF hb b)).symm)<|u<|asg y<|zb ?_
 refine zg ?_
 obtain rfl:=sm h
 exact ⟨_,y,zB []⟩
def zbt:Option (Int):=
  some (-1)
def zbu(b:List zc)(g:T0)(h:T1)(i:T0)(j:Bool)(l:Bool)(m:Int)(n:Int)(o:List zn)(c:List zaA)(d:List zV)(a:Int):Option (Sum (Int) (Sum (Unit) (Int))):=
  cond (decide (a<(length b:Int))) ((idx b a).bind fun e=>(zhz e g h i j l m n o c d).bind fun f=>cond f (some (.inr (.inr a))) (some (.inl (IntKind.i64.wrap (a+1))))) (some (.inr (.inl ())))
def zbI(d:List zc)(e:T0)(f:T1)(g:T0)(h:Bool)(i:Bool)(j:Int)(l:Int)(m:List zn)(a:List zaA)(c:List zV):Option (Int):=
  (zz (fun z=>zbu d e f g h i j l m a c z) 0).bind fun o=>zaq o (fun b=>zbt) some
theorem zdV(d:List zc)(e:T0)(f:T1)(g:T0)(i:Bool)(j:Bool)(l:Int)(m:Int)(n:List zn)(a:List zaA)(c:List zV){r:Int}(h:zbI d e f g i j l m n a c=some r):zu Tryz.prog 244 [.isl 10 (map ze d),.fn (.func 225) [] [.ipt 10 [[sA e,.isl 1 (map zm f),sA g,bA i,bA j,iA l,iA m,.isl 4 (map zx n),.isl 3 (map zaG a),.isl 4 (map zap c)]] 0 0]] (iA r):=by
 refine zl Tryz.func244 y kz y y ?_
 unfold zbI at h
 refine rg y<|u<|asg y<|zb ?_
 refine zj ?_
 refine rg y<|u<|mv y<|u<|lnI ti y y<|u<|mv y<|zb ?_
 obtain ⟨o,ho,h⟩:=bs h
 refine zaN (X:=Int) (B:=Unit) (R:=Int) (fun z=>[(0,.isl 10 (map ze d)),(1,.fn (.func 225) [] [.ipt 10 [[sA e,.isl 1 (map zm f),sA g,bA i,bA j,iA l,iA m,.isl 4 (map zx n),.isl 3 (map zaG a),.isl 4 (map zap c)]] 0 0]),(7,iA (length d:Int)),(8,iA z)]) (fun z=>[]) (fun b=>[]) (fun b=>[]) (fun r env st=>zb6 Tryz.prog Tryz.f244 0 (iA r) [] env st) ho (zq []) ?_ ?_ ?_
 ·
  rintro s r h
  replace h:zbu d e f g i j l m n a c s=some r:=h
  unfold zbu at h
  refine rg y<|u<|lss ti y y<|zb ?_
  refine zj ?_
  refine zf y (fun p=>?_) (fun p=>?_)
  ·
   replace h:=bT p h
   refine zi ?_
   refine zj ?_
   refine zr ?_
   refine rg y<|u<|mv y<|u<|asg y<|zb ?_
   obtain ⟨v,x,h⟩:=bs h
   obtain ⟨C,A,h⟩:=bs h
   refine rg y<|u<|mv y<|u<|mv y<|u<|mv y<|u<|ixI ti y ti y y y x<|u<|ldI ti y (zp x).2.2 y<|u<|pc (zkx v e f g i j l m n a c A) y y y<|zb ?_
   refine zf y (fun q=>?_) (fun q=>?_)
   ·
    replace h:=bT q h
    refine rg y<|u<|mv y<|u<|asg y<|zb ?_
    refine zg ?_
    obtain rfl:=sm h
    exact ⟨_,y,_,y,zB []⟩
   ·
    replace h:=bF q h
    refine zi ?_
    refine rl y<|u<|add ti y y<|u<|mv y<|zb ?_
    obtain rfl:=sm h
    exact ⟨_,y,zq []⟩
  ·
   replace h:=bF p h
   refine zQ ?_
   obtain rfl:=sm h
   exact ⟨y,_,y,zq []⟩
 ·
  rintro ⟨⟩ rfl
  replace h:zbt=some r:=h
  unfold zbt at h
  refine zD ?_
  refine rg y<|u<|asg y<|zb ?_
  refine zg ?_
  obtain rfl:=sm h
  exact ⟨_,y,zB []⟩
 ·
  rintro r' rfl env st hp
  obtain rfl:=sm h
  exact hp
def zbr(d:List zc)(e:T0)(f:T1)(g:T0)(h:Bool)(i:Bool)(j:Int)(l:Int)(m:List zn)(a:List zaA)(b:List zV):Option (Bool):=
  (zbI d e f g h i j l m a b).bind fun c=>some (decide (0≤c))
theorem zdE(c:List zc)(d:T0)(e:T1)(f:T0)(g:Bool)(i:Bool)(j:Int)(l:Int)(m:List zn)(a:List zaA)(b:List zV){r:Bool}(h:zbr c d e f g i j l m a b=some r):zu Tryz.prog 181 [.isl 10 (map ze c),.fn (.func 225) [] [.ipt 10 [[sA d,.isl 1 (map zm e),sA f,bA g,bA i,iA j,iA l,.isl 4 (map zx m),.isl 3 (map zaG a),.isl 4 (map zap b)]] 0 0]] (bA r):=by
 refine zl Tryz.func181 y kz y y ?_
 unfold zbr at h
 refine rg y<|u<|asg y<|zb ?_
 obtain ⟨o,n,h⟩:=bs h
 refine rg y<|u<|mv y<|u<|mv y<|u<|pc (zdV c d e f g i j l m a b n) y y y<|u<|geq ti y y<|u<|asg y<|zb ?_
 refine zg ?_
 obtain rfl:=sm h
 exact ⟨_,y,zB []⟩
def zil(a:zc):Bool:=
  ((!a.Static)&&(!a.Abstract))
theorem zld(b:zc){r:Bool}(h:zil b=r):zu Tryz.prog 235 [.agg (ze b)] (bA r):=by
 refine zl Tryz.func235 y kz y y ?_
 unfold zil at h
 refine rg y<|u<|bx 0 10 y y y y<|u<|asg y<|zb ?_
 refine rg y<|u<|fa ti y y y<|u<|ld ti y y<|u<|nt y<|u<|mv y<|zbq (j:=3) 3 y y y y y gpn (fun a=>g y a<|fa ti y y y<|g y a<|ld ti y y<|g y a<|nt y<|zb (egA [7,8,9] 3 a y y y y)) zhn<|u<|asg y<|zb ?_
 refine zg ?_
 obtain rfl:=h
 exact ⟨_,y,zB []⟩
def zg6:Option (T0×zc×Bool):=
  some ([],(zc.mk [] [] [] false false 0 0 [] [] []),false)
def zg7(i:List za)(j:T2)(e:T1)(l:T0)(a:Int):Option (Sum (Int) (Sum (Unit) (T0×zc×Bool))):=
  cond (decide (a<(length e:Int))) ((idx e a).bind fun d=>(zE i j d).bind fun b=>(zdp b.1 l).bind fun c=>(cond (decide (0≤c)) ((idx b.1.Methods c).bind fun f=>some (zil f)) (some false)).bind fun g=>cond g ((idx b.1.Methods c).bind fun h=>some (.inr (.inr (d,h,true)))) (some (.inl (IntKind.i64.wrap (a+1))))) (some (.inr (.inl ())))
def ziZ(a:List za)(c:T2)(d:T1)(e:T0):Option (T0×zc×Bool):=
  (zz (fun z=>zg7 a c d e z) 0).bind fun o=>zaq o (fun b=>zg6) some
theorem zlV(i:List za)(l:T2)(m:T1)(n:T0){r:T0×zc×Bool}(h:ziZ i l m n=some r):zu Tryz.prog 160 [.ipt 2 [[.isl 6 (map zd i),.imp (map (rKV (fun x=>iA x)) l)]] 0 0,.isl 1 (map zm m),sA n,.fn (.func 235) [] []] (.tup [sA r.1,.agg (ze r.2.1),bA r.2.2]):=by
 refine zl Tryz.func160 y kz y y ?_
 unfold ziZ at h
 refine rg y<|u<|asg y<|u<|al 0 ti y<|u<|asg y<|zb ?_
 refine zj ?_
 refine rg y<|u<|mv y<|u<|lnI ti y y<|u<|mv y<|zb ?_
 obtain ⟨o,ho,h⟩:=bs h
 refine zaN (X:=Int) (B:=Unit) (R:=T0×zc×Bool) (fun z=>[(0,.ipt 2 [[.isl 6 (map zd i),.imp (map (rKV (fun x=>iA x)) l)]] 0 0),(2,sA n),(3,.fn (.func 235) [] []),(9,.mpt 0 0 0),(16,.isl 1 (map zm m)),(17,iA (length m:Int)),(18,iA z)]) (fun z=>[some (10,[[sA [],.lit (.slice none 0 0),sA [],bA false,bA false,iA 0,iA 0,.lit (.slice none 0 0),.lit (.slice none 0 0),.lit (.slice none 0 0)]])]) (fun b=>[(9,.mpt 0 0 0)]) (fun b=>[some (10,[[sA [],.lit (.slice none 0 0),sA [],bA false,bA false,iA 0,iA 0,.lit (.slice none 0 0),.lit (.slice none 0 0),.lit (.slice none 0 0)]])]) (fun r env st=>zb6 Tryz.prog Tryz.f160 0 (.tup [sA r.1,.agg (ze r.2.1),bA r.2.2]) [] env st) ho (zq [.old 0]) ?_ ?_ ?_
 ·
  rintro D r h
  replace h:zg7 i l m n D=some r:=h
  unfold zg7 at h
  refine rg y<|u<|lss ti y y<|zb ?_
  refine zj ?_
  refine zf y (fun d=>?_) (fun d=>?_)
  ·
   replace h:=bT d h
   refine zi ?_
   refine zj ?_
   refine zr ?_
   obtain ⟨f,q,h⟩:=bs h
   refine rg y<|u<|ixI ti y ti y y y q<|u<|ldI ti y (zp q).2.2 y<|u<|asg y<|zb ?_
   obtain ⟨p,E,h⟩:=bs h
   refine rg y<|u<|mv y<|u<|mv y<|u<|pc (zG i l f E) y y y<|u<|mv y<|u<|ex y y<|u<|ex y y<|u<|al 1 ti y<|u<|sto ti y y y<|u<|asg y<|zb ?_
   obtain ⟨s,F,h⟩:=bs h
   refine rg y<|u<|ld ti y y<|u<|mv y<|u<|pc (zfK p.1 n F) y y y<|u<|asg y<|zb ?_
   obtain ⟨G,c,h⟩:=bs h
   refine rg y<|u<|mv y<|u<|geq ti y y<|u<|mv y<|zbq (x:=G) (j:=2) 7 y y y y y gpn (fun a=>by replace c:=bT a c;obtain ⟨H,v,c⟩:=bs c;obtain rfl:=sm c;exact g y a<|mv y<|g y a<|fa ti y y y<|g y a<|ld ti y y<|g y a<|mv y<|g y a<|ixI ti y ti y y y v<|g y a<|ldI ti y (zp v).2.2 y<|g y a<|pc (zld H y) y y y<|zb (eg [34,35,36,37,38,39,40] 7 y y y y)) (fun hb=>(sm (bF hb c)).symm)<|zb ?_
   refine zf y (fun e=>?_) (fun e=>?_)
   ·
    replace h:=bT e h
    obtain ⟨A,C,h⟩:=bs h
    refine rdA [(8,sA f),(9,.mpt 0 0 0),(10,bA true)] [some (10,[(ze A)])] [7] [6,5,4,3,2,1,0] [(8,sA f),(47,.agg (ze A)),(46,.ipt 10 (map ze p.1.Methods) (Int.toNat s) 0),(45,iA s),(44,.isl 10 (map ze p.1.Methods)),(43,.mpt 1 0 5),(42,sA f)] 1 (ziH ⟨pe,(pb y (ldI ti y (zp C).2.2 y w)),(pb y (ixI ti y ti y y y C w)),pe,pe,pe,pe,t⟩ ⟨(fun _ _=>⟨_,y,y,sto ti y y y<|⟨.any,[8],[(10,bA true)],y,y,kz,t,zlb (zq [.old 0])⟩⟩),t⟩) ?_
    refine zg ?_
    obtain rfl:=sm h
    exact ⟨_,y,_,y,zB []⟩
   ·
    replace h:=bF e h
    refine zi ?_
    refine rl y<|u<|add ti y y<|u<|mv y<|zb ?_
    obtain rfl:=sm h
    exact ⟨_,y,zq [.old 0]⟩
  ·
   replace h:=bF d h
   refine zQ ?_
   obtain rfl:=sm h
   exact ⟨y,_,y,zq [.old 0]⟩
 ·
  rintro ⟨⟩ rfl
  replace h:zg6=some r:=h
  unfold zg6 at h
  refine zD ?_
  refine rg y<|u<|bd ti y y y<|u<|asg y<|u<|sto ti y y y<|u<|asg y<|zb ?_
  refine zg ?_
  obtain rfl:=sm h
  exact ⟨_,y,zB []⟩
 ·
  rintro r' rfl env st hp
  obtain rfl:=sm h
  exact hp
def zhC(a:List za)(b:T2)(d:T0)(e:T0):Option (T0×Bool):=
  (zai a b d).bind fun f=>(ziZ a b f e).bind fun c=>some (c.1,c.2.2)
theorem zkL(a:List za)(b:T2)(e:T0)(c:T0){r:T0×Bool}(h:zhC a b e c=some r):zu Tryz.prog 164 [.ipt 2 [[.isl 6 (map zd a),.imp (map (rKV (fun x=>iA x)) b)]] 0 0,sA e,sA c] (.tup [sA r.1,bA r.2]):=by
 refine zl Tryz.func164 y kz y y ?_
 unfold zhC at h
 refine rg y<|u<|asg y<|u<|asg y<|zb ?_
 obtain ⟨d,f,h⟩:=bs h
 obtain ⟨i,g,h⟩:=bs h
 refine rg y<|u<|mv y<|u<|mv y<|u<|mv y<|u<|sx [] (za7 a b e f)<|zK (env0:=[(2,sA c),(12,.ipt 2 [[.isl 6 (map zd a),.imp (map (rKV (fun x=>iA x)) b)]] 0 0),(15,.msl 0 0 (length d))]) (st0:=[some (1,map zm d)]) (zq [.old 0])<|u<|mv y<|zK (env0:=[(12,.ipt 2 [[.isl 6 (map zd a),.imp (map (rKV (fun x=>iA x)) b)]] 0 0),(15,.isl 1 (map zm d)),(16,sA c)]) (st0:=[]) (zq [])<|u<|pc (zlV a b d c g) y y y<|u<|mv y<|u<|ex y y<|u<|ex y y<|u<|ex y y<|u<|al 0 ti y<|u<|asg y<|u<|sto ti y y y<|u<|asg y<|zb ?_
 refine rg y<|u<|mv y<|u<|mv y<|u<|asg y<|u<|asg y<|zb ?_
 refine zg ?_
 obtain rfl:=sm h
 exact ⟨_,y,zB []⟩
def ziP(a:zc)(b:T0)(g:T1)(h:T0)(i:Bool)(j:Bool)(l:Int)(m:Int)(n:List zn)(c:List zaA)(d:List zV):Option (Bool):=
  (cond (a.Name == b) ((zgc (zc.mk b g h i j l m n c d) a).bind fun e=>some e) (some false)).bind fun f=>some f
theorem zlD(e:zc)(f:T0)(i:T1)(l:T0)(m:Bool)(n:Bool)(o:Int)(p:Int)(q:List zn)(c:List zaA)(d:List zV){r:Bool}(h:ziP e f i l m n o p q c d=some r):zu Tryz.prog 265 [.agg (ze e),.ipt 10 [[sA f,.isl 1 (map zm i),sA l,bA m,bA n,iA o,iA p,.isl 4 (map zx q),.isl 3 (map zaG c),.isl 4 (map zap d)]] 0 0] (bA r):=by
 refine zl Tryz.func265 y kz y y ?_
 unfold ziP at h
 refine rg y<|u<|bx 0 10 y y y y<|u<|asg y<|zb ?_
 obtain ⟨s,b,h⟩:=bs h
 refine rg y<|u<|fa ti y y y<|u<|ld ti y y<|u<|fa ti y y y<|u<|ld ti y y<|u<|seq ti y y<|u<|mv y<|zbq (x:=s) (j:=5) 3 y y y y y gpn (fun a=>by replace b:=bT a b;obtain ⟨z,v,b⟩:=bs b;obtain rfl:=sm b;exact g y a<|ld ti y y<|g y a<|ld ti y y<|g y a<|pc (zik (zc.mk f i l m n o p q c d) e v) y y y<|zb (eg [10,11,12] 3 y y y y)) (fun hb=>(sm (bF hb b)).symm)<|u<|asg y<|zb ?_
 refine zg ?_
 obtain rfl:=sm h
 exact ⟨_,y,zB []⟩
def zbw:Option (Int):=
  some (-1)
def zbx(b:List zc)(g:T0)(h:T1)(i:T0)(j:Bool)(l:Bool)(m:Int)(n:Int)(o:List zn)(c:List zaA)(d:List zV)(a:Int):Option (Sum (Int) (Sum (Unit) (Int))):=
  cond (decide (a<(length b:Int))) ((idx b a).bind fun e=>(ziP e g h i j l m n o c d).bind fun f=>cond f (some (.inr (.inr a))) (some (.inl (IntKind.i64.wrap (a+1))))) (some (.inr (.inl ())))
def zbJ(d:List zc)(e:T0)(f:T1)(g:T0)(h:Bool)(i:Bool)(j:Int)(l:Int)(m:List zn)(a:List zaA)(c:List zV):Option (Int):=
  (zz (fun z=>zbx d e f g h i j l m a c z) 0).bind fun o=>zaq o (fun b=>zbw) some
theorem zdX(d:List zc)(e:T0)(f:T1)(g:T0)(i:Bool)(j:Bool)(l:Int)(m:Int)(n:List zn)(a:List zaA)(c:List zV){r:Int}(h:zbJ d e f g i j l m n a c=some r):zu Tryz.prog 244 [.isl 10 (map ze d),.fn (.func 265) [] [.ipt 10 [[sA e,.isl 1 (map zm f),sA g,bA i,bA j,iA l,iA m,.isl 4 (map zx n),.isl 3 (map zaG a),.isl 4 (map zap c)]] 0 0]] (iA r):=by
 refine zl Tryz.func244 y kz y y ?_
 unfold zbJ at h
 refine rg y<|u<|asg y<|zb ?_
 refine zj ?_
 refine rg y<|u<|mv y<|u<|lnI ti y y<|u<|mv y<|zb ?_
 obtain ⟨o,ho,h⟩:=bs h
 refine zaN (X:=Int) (B:=Unit) (R:=Int) (fun z=>[(0,.isl 10 (map ze d)),(1,.fn (.func 265) [] [.ipt 10 [[sA e,.isl 1 (map zm f),sA g,bA i,bA j,iA l,iA m,.isl 4 (map zx n),.isl 3 (map zaG a),.isl 4 (map zap c)]] 0 0]),(7,iA (length d:Int)),(8,iA z)]) (fun z=>[]) (fun b=>[]) (fun b=>[]) (fun r env st=>zb6 Tryz.prog Tryz.f244 0 (iA r) [] env st) ho (zq []) ?_ ?_ ?_
 ·
  rintro s r h
  replace h:zbx d e f g i j l m n a c s=some r:=h
  unfold zbx at h
  refine rg y<|u<|lss ti y y<|zb ?_
  refine zj ?_
  refine zf y (fun p=>?_) (fun p=>?_)
  ·
   replace h:=bT p h
   refine zi ?_
   refine zj ?_
   refine zr ?_
   refine rg y<|u<|mv y<|u<|asg y<|zb ?_
   obtain ⟨v,x,h⟩:=bs h
   obtain ⟨C,A,h⟩:=bs h
   refine rg y<|u<|mv y<|u<|mv y<|u<|mv y<|u<|ixI ti y ti y y y x<|u<|ldI ti y (zp x).2.2 y<|u<|pc (zlD v e f g i j l m n a c A) y y y<|zb ?_
   refine zf y (fun q=>?_) (fun q=>?_)
   ·
    replace h:=bT q h
    refine rg y<|u<|mv y<|u<|asg y<|zb ?_
    refine zg ?_
    obtain rfl:=sm h
    exact ⟨_,y,_,y,zB []⟩
   ·
    replace h:=bF q h
    refine zi ?_
    refine rl y<|u<|add ti y y<|u<|mv y<|zb ?_
    obtain rfl:=sm h
    exact ⟨_,y,zq []⟩
  ·
   replace h:=bF p h
   refine zQ ?_
   obtain rfl:=sm h
   exact ⟨y,_,y,zq []⟩
 ·
  rintro ⟨⟩ rfl
  replace h:zbw=some r:=h
  unfold zbw at h
  refine zD ?_
  refine rg y<|u<|asg y<|zb ?_
  refine zg ?_
  obtain rfl:=sm h
  exact ⟨_,y,zB []⟩
 ·
  rintro r' rfl env st hp
  obtain rfl:=sm h
  exact hp
def zbs(d:List zc)(e:T0)(f:T1)(g:T0)(h:Bool)(i:Bool)(j:Int)(l:Int)(m:List zn)(a:List zaA)(b:List zV):Option (Bool):=
  (zbJ d e f g h i j l m a b).bind fun c=>some (decide (0≤c))
theorem zdG(c:List zc)(d:T0)(e:T1)(f:T0)(g:Bool)(i:Bool)(j:Int)(l:Int)(m:List zn)(a:List zaA)(b:List zV){r:Bool}(h:zbs c d e f g i j l m a b=some r):zu Tryz.prog 181 [.isl 10 (map ze c),.fn (.func 265) [] [.ipt 10 [[sA d,.isl 1 (map zm e),sA f,bA g,bA i,iA j,iA l,.isl 4 (map zx m),.isl 3 (map zaG a),.isl 4 (map zap b)]] 0 0]] (bA r):=by
 refine zl Tryz.func181 y kz y y ?_
 unfold zbs at h
 refine rg y<|u<|asg y<|zb ?_
 obtain ⟨o,n,h⟩:=bs h
 refine rg y<|u<|mv y<|u<|mv y<|u<|pc (zdX c d e f g i j l m a b n) y y y<|u<|geq ti y y<|u<|asg y<|zb ?_
 refine zg ?_
 obtain rfl:=sm h
 exact ⟨_,y,zB []⟩
def zkz(b:List za)(c:T2)(e:T0)(a:zc):Option (Bool):=
  (zhC b c e a.Name).bind fun d=>cond (!d.2) (some false) ((zE b c d.1).bind fun f=>(zbs f.1.Methods a.Name a.Params a.Ret a.Static a.Abstract a.Locals a.Stack a.Code a.Maps a.Traps).bind fun g=>some g)
theorem znj(c:List za)(d:T2)(e:T0)(a:zc){r:Bool}(h:zkz c d e a=some r):zu Tryz.prog 227 [.ipt 2 [[.isl 6 (map zd c),.imp (map (rKV (fun x=>iA x)) d)]] 0 0,sA e,.agg (ze a)] (bA r):=by
 refine zl Tryz.func227 y kz y y ?_
 unfold zkz at h
 refine rg y<|u<|bx 0 10 y y y y<|u<|asg y<|zb ?_
 obtain ⟨f,g,h⟩:=bs h
 refine rg y<|u<|mv y<|u<|mv y<|u<|fa ti y y y<|u<|ld ti y y<|u<|pc (zkL c d e a.Name g) y y y<|u<|mv y<|u<|ex y y<|u<|ex y y<|u<|asg y<|u<|asg y<|zb ?_
 refine zj ?_
 refine rg y<|u<|mv y<|u<|nt y<|zb ?_
 refine zf y (fun b=>?_) (fun b=>?_)
 ·
  replace h:=bT b h
  refine rg y<|u<|asg y<|zb ?_
  refine zg ?_
  obtain rfl:=sm h
  exact ⟨_,y,zB []⟩
 ·
  replace h:=bF b h
  refine zi ?_
  obtain ⟨i,j,h⟩:=bs h
  refine rg y<|u<|mv y<|u<|mv y<|u<|pc (zG c d f.1 j) y y y<|u<|mv y<|u<|ex y y<|u<|ex y y<|u<|al 1 ti y<|u<|sto ti y y y<|u<|asg y<|zb ?_
  obtain ⟨m,l,h⟩:=bs h
  refine rg y<|u<|fa ti y y y<|u<|ld ti y y<|u<|mf y y<|u<|pcs (zdG i.1.Methods a.Name a.Params a.Ret a.Static a.Abstract a.Locals a.Stack a.Code a.Maps a.Traps l) y y (.cons (si y) (.cons (zd0 t ⟨(zcb y ⟨(si y),(si y),(si y),(si y),(si y),(si y),(si y),(si y),(si y),(si y),t⟩),t⟩) .nil)) zdb<|u<|asg y<|zb ?_
  refine zg ?_
  obtain rfl:=sm h
  exact ⟨_,y,zB []⟩
def zhA(b:zc)(c:List za)(d:T2)(e:T0)(f:T0)(g:Bool)(h:T1)(i:List zh)(j:List zc):Option (Bool):=
  (zkz c d e b).bind fun a=>some (!a)
theorem zky(a:zc)(b:List za)(c:T2)(d:T0)(e:T0)(f:Bool)(g:T1)(i:List zh)(j:List zc){r:Bool}(h:zhA a b c d e f g i j=some r):zu Tryz.prog 226 [.agg (ze a),.ipt 1 [[.ipt 2 [[.isl 6 (map zd b),.imp (map (rKV (fun x=>iA x)) c)]] 0 0]] 0 0,.ipt 6 [[sA d,sA e,bA f,.isl 1 (map zm g),.isl 3 (map zN i),.isl 10 (map ze j)]] 0 0] (bA r):=by
 refine zl Tryz.func226 y kz y y ?_
 unfold zhA at h
 refine rg y<|u<|bx 0 10 y y y y<|u<|asg y<|zb ?_
 obtain ⟨m,l,h⟩:=bs h
 refine rg y<|u<|ld ti y y<|u<|fa ti y y y<|u<|ld ti y y<|u<|ld ti y y<|u<|pc (znj b c d a l) y y y<|u<|nt y<|u<|asg y<|zb ?_
 refine zg ?_
 obtain rfl:=sm h
 exact ⟨_,y,zB []⟩
def zbv:Option (Int):=
  some (-1)
def zay(b:List zc)(e:List za)(f:T2)(g:T0)(h:T0)(i:Bool)(j:T1)(l:List zh)(m:List zc)(a:Int):Option (Sum (Int) (Sum (Unit) (Int))):=
  cond (decide (a<(length b:Int))) ((idx b a).bind fun c=>(zhA c e f g h i j l m).bind fun d=>cond d (some (.inr (.inr a))) (some (.inl (IntKind.i64.wrap (a+1))))) (some (.inr (.inl ())))
def zaU(a:List zc)(c:List za)(d:T2)(e:T0)(f:T0)(g:Bool)(h:T1)(i:List zh)(j:List zc):Option (Int):=
  (zz (fun z=>zay a c d e f g h i j z) 0).bind fun o=>zaq o (fun b=>zbv) some
theorem zdW(a:List zc)(c:List za)(d:T2)(e:T0)(f:T0)(g:Bool)(i:T1)(j:List zh)(l:List zc){r:Int}(h:zaU a c d e f g i j l=some r):zu Tryz.prog 244 [.isl 10 (map ze a),.fn (.func 226) [] [.ipt 1 [[.ipt 2 [[.isl 6 (map zd c),.imp (map (rKV (fun x=>iA x)) d)]] 0 0]] 0 0,.ipt 6 [[sA e,sA f,bA g,.isl 1 (map zm i),.isl 3 (map zN j),.isl 10 (map ze l)]] 0 0]] (iA r):=by
 refine zl Tryz.func244 y kz y y ?_
 unfold zaU at h
 refine rg y<|u<|asg y<|zb ?_
 refine zj ?_
 refine rg y<|u<|mv y<|u<|lnI ti y y<|u<|mv y<|zb ?_
 obtain ⟨o,ho,h⟩:=bs h
 refine zaN (X:=Int) (B:=Unit) (R:=Int) (fun z=>[(0,.isl 10 (map ze a)),(1,.fn (.func 226) [] [.ipt 1 [[.ipt 2 [[.isl 6 (map zd c),.imp (map (rKV (fun x=>iA x)) d)]] 0 0]] 0 0,.ipt 6 [[sA e,sA f,bA g,.isl 1 (map zm i),.isl 3 (map zN j),.isl 10 (map ze l)]] 0 0]),(7,iA (length a:Int)),(8,iA z)]) (fun z=>[]) (fun b=>[]) (fun b=>[]) (fun r env st=>zb6 Tryz.prog Tryz.f244 0 (iA r) [] env st) ho (zq []) ?_ ?_ ?_
 ·
  rintro p r h
  replace h:zay a c d e f g i j l p=some r:=h
  unfold zay at h
  refine rg y<|u<|lss ti y y<|zb ?_
  refine zj ?_
  refine zf y (fun m=>?_) (fun m=>?_)
  ·
   replace h:=bT m h
   refine zi ?_
   refine zj ?_
   refine zr ?_
   refine rg y<|u<|mv y<|u<|asg y<|zb ?_
   obtain ⟨q,s,h⟩:=bs h
   obtain ⟨A,v,h⟩:=bs h
   refine rg y<|u<|mv y<|u<|mv y<|u<|mv y<|u<|ixI ti y ti y y y s<|u<|ldI ti y (zp s).2.2 y<|u<|pc (zky q c d e f g i j l v) y y y<|zb ?_
   refine zf y (fun n=>?_) (fun n=>?_)
   ·
    replace h:=bT n h
    refine rg y<|u<|mv y<|u<|asg y<|zb ?_
    refine zg ?_
    obtain rfl:=sm h
    exact ⟨_,y,_,y,zB []⟩
   ·
    replace h:=bF n h
    refine zi ?_
    refine rl y<|u<|add ti y y<|u<|mv y<|zb ?_
    obtain rfl:=sm h
    exact ⟨_,y,zq []⟩
  ·
   replace h:=bF m h
   refine zQ ?_
   obtain rfl:=sm h
   exact ⟨y,_,y,zq []⟩
 ·
  rintro ⟨⟩ rfl
  replace h:zbv=some r:=h
  unfold zbv at h
  refine zD ?_
  refine rg y<|u<|asg y<|zb ?_
  refine zg ?_
  obtain rfl:=sm h
  exact ⟨_,y,zB []⟩
 ·
  rintro r' rfl env st hp
  obtain rfl:=sm h
  exact hp
def zau(b:List zc)(c:List za)(d:T2)(e:T0)(f:T0)(g:Bool)(h:T1)(i:List zh)(j:List zc):Option (Bool):=
  (zaU b c d e f g h i j).bind fun a=>some (decide (0≤a))
theorem zdF(a:List zc)(b:List za)(c:T2)(d:T0)(e:T0)(f:Bool)(g:T1)(i:List zh)(j:List zc){r:Bool}(h:zau a b c d e f g i j=some r):zu Tryz.prog 181 [.isl 10 (map ze a),.fn (.func 226) [] [.ipt 1 [[.ipt 2 [[.isl 6 (map zd b),.imp (map (rKV (fun x=>iA x)) c)]] 0 0]] 0 0,.ipt 6 [[sA d,sA e,bA f,.isl 1 (map zm g),.isl 3 (map zN i),.isl 10 (map ze j)]] 0 0]] (bA r):=by
 refine zl Tryz.func181 y kz y y ?_
 unfold zau at h
 refine rg y<|u<|asg y<|zb ?_
 obtain ⟨m,l,h⟩:=bs h
 refine rg y<|u<|mv y<|u<|mv y<|u<|pc (zdW a b c d e f g i j l) y y y<|u<|geq ti y y<|u<|asg y<|zb ?_
 refine zg ?_
 obtain rfl:=sm h
 exact ⟨_,y,zB []⟩
def zfP(d:List za)(e:T2)(a:za)(b:List zc):Option (Bool):=
  cond a.Interface (some true) ((zau b d e a.Name a.Super a.Interface a.Impl a.Fields a.Methods).bind fun c=>some (!c))
def zgX(a:Int)(b:List zc):Option (Sum ((List zc)×Int) (Sum ((List zc)) (Bool))):=
  some (.inl (b,(IntKind.i64.wrap (a+1))))
def zgY(d:za×Bool)(b:List zc)(c:Int):Option (Sum ((List zc)×Int) (Sum ((List zc)) (Bool))):=
  cond (decide (c<(length d.1.Methods:Int))) ((idx d.1.Methods c).bind fun a=>(zbr b a.Name a.Params a.Ret a.Static a.Abstract a.Locals a.Stack a.Code a.Maps a.Traps).bind fun e=>cond e (some (.inr (.inr false))) ((ziA 152 b [a]).bind fun f=>some (.inl (f,(IntKind.i64.wrap (c+1)))))) (some (.inr (.inl b)))
def zfQ(g:List za)(h:T2)(d:T1)(c:List zc)(a:Int):Option (Sum ((List zc)×Int) (Sum ((List zc)) (Bool))):=
  cond (decide (a<((length d):Int))) ((idx d a).bind fun e=>(zE g h e).bind fun f=>(zz (fun z=>zgY f z.1 z.2) (c,0)).bind fun o=>zaq o (fun b=>zgX a b) (fun r=>some (.inr (.inr r)))) (some (.inr (.inl c)))
def zgl(a:List za)(c:T2)(d:za):Option (Bool):=
  (zcs a c d.Name).bind fun e=>(zz (fun z=>zfQ a c e z.1 z.2) ([],0)).bind fun o=>zaq o (fun b=>zfP a c d b) some
theorem zlC(d:List za)(e:T2)(c:za){r:Bool}(h:zgl d e c=some r):zu Tryz.prog 156 [.ipt 2 [[.isl 6 (map zd d),.imp (map (rKV (fun x=>iA x)) e)]] 0 0,.agg (zd c)] (bA r):=by
 refine zl Tryz.func156 y kz y y ?_
 unfold zgl at h
 refine rg y<|u<|bx 0 1 y y y y<|u<|bx 1 6 y y y y<|u<|asg y<|zb ?_
 refine rg y<|u<|asg y<|zb ?_
 refine zj ?_
 obtain ⟨g,K,h⟩:=bs h
 refine rg y<|u<|ld ti y y<|u<|fa ti y y y<|u<|ld ti y y<|u<|sx [] (zeB d e c.Name K)<|zK (env0:=[(2,.mpt 0 0 0),(3,.mpt 1 0 0),(5,.lit (.slice none 0 0)),(15,.msl 2 0 (length g))]) (st0:=[some (1,[[.ipt 2 [[.isl 6 (map zd d),.imp (map (rKV (fun x=>iA x)) e)]] 0 0]]),some (6,[(zd c)]),some (1,map zm g)]) (zq [.old 0,.old 1,.old 2])<|u<|lnM ti y y y<|u<|mv y<|zb ?_
 obtain ⟨o,ho,h⟩:=bs h
 refine zaN (X:=(List zc)×Int) (B:=(List zc)) (R:=Bool) (fun z=>[(2,.mpt 0 0 0),(3,.mpt 1 0 0),(5,.msl 2 0 (length z.1)),(15,.msl 3 0 (length g)),(16,iA ((length g):Int)),(17,iA z.2)]) (fun z=>[some (1,[[.ipt 2 [[.isl 6 (map zd d),.imp (map (rKV (fun x=>iA x)) e)]] 0 0]]),some (6,[(zd c)]),some (10,map ze z.1),some (1,map zm g)]) (fun b=>[(2,.mpt 0 0 0),(3,.mpt 1 0 0),(5,.msl 2 0 (length b))]) (fun b=>[some (1,[[.ipt 2 [[.isl 6 (map zd d),.imp (map (rKV (fun x=>iA x)) e)]] 0 0]]),some (6,[(zd c)]),some (10,map ze b)]) (fun r env st=>zb6 Tryz.prog Tryz.f156 0 (bA r) [] env st) ho ⟨[.old 0,.old 1,.fresh 10,.old 2],cv y (.mpt y)<|cv y (.mpt y)<|cv y (.nilown y)<|cv y (.msl y)<|ce y y<|ce y y<|cn,y,⟨⟨_,y,zl8 ⟨ci y,t⟩⟩,⟨_,y,zl8 (ciL y)⟩,w,⟨_,y,zmG (fun _=>y)⟩,t⟩,y,k⟩ ?_ ?_ ?_
 ·
  rintro ⟨C,n⟩ r h
  replace h:zfQ d e g C n=some r:=h
  unfold zfQ at h
  refine rg y<|u<|lss ti y y<|zb ?_
  refine zj ?_
  refine zf y (fun i=>?_) (fun i=>?_)
  ·
   replace h:=bT i h
   refine zi ?_
   refine zj ?_
   refine zr ?_
   obtain ⟨D,q,h⟩:=bs h
   refine rg y<|u<|ixM ti y ti y y y y q<|u<|ldM ti y y (zp q).2.2 y<|u<|asg y<|zb ?_
   obtain ⟨p,E,h⟩:=bs h
   refine rg y<|u<|ld ti y y<|u<|mv y<|u<|pc (zG d e D E) y y y<|u<|mv y<|u<|ex y y<|u<|ex y y<|u<|al 4 ti y<|u<|sto ti y y y<|u<|asg y<|zb ?_
   refine rg y<|u<|fa ti y y y<|u<|ld ti y y<|u<|lnI ti y y<|u<|mv y<|zb ?_
   obtain ⟨o,ho,h⟩:=bs h
   refine zaN (X:=(List zc)×Int) (B:=(List zc)) (R:=Bool) (fun z=>[(2,.mpt 0 0 0),(3,.mpt 1 0 0),(5,.msl 2 0 (length z.1)),(15,.msl 3 0 (length g)),(16,iA ((length g):Int)),(17,iA n),(28,.isl 10 (map ze p.1.Methods)),(29,iA (length p.1.Methods:Int)),(30,iA z.2)]) (fun z=>[some (1,[[.ipt 2 [[.isl 6 (map zd d),.imp (map (rKV (fun x=>iA x)) e)]] 0 0]]),some (6,[(zd c)]),some (10,map ze z.1),some (1,map zm g)]) (fun b=>[(2,.mpt 0 0 0),(3,.mpt 1 0 0),(5,.msl 2 0 (length b)),(15,.msl 3 0 (length g)),(16,iA ((length g):Int)),(17,iA n)]) (fun b=>[some (1,[[.ipt 2 [[.isl 6 (map zd d),.imp (map (rKV (fun x=>iA x)) e)]] 0 0]]),some (6,[(zd c)]),some (10,map ze b),some (1,map zm g)]) (fun r env st=>zb6 Tryz.prog Tryz.f156 0 (bA r) [] env st) ho (zq [.old 0,.old 1,.old 2,.old 3]) ?_ ?_ ?_
   ·
    rintro ⟨s,F⟩ r h
    replace h:zgY p s F=some r:=h
    unfold zgY at h
    refine rg y<|u<|lss ti y y<|zb ?_
    refine zj ?_
    refine zf y (fun j=>?_) (fun j=>?_)
    ·
     replace h:=bT j h
     refine zi ?_
     refine zj ?_
     refine zr ?_
     obtain ⟨a,v,h⟩:=bs h
     refine rg y<|u<|ixI ti y ti y y y v<|u<|ldI ti y (zp v).2.2 y<|u<|al 4 ti y<|u<|sto ti y y y<|zb ?_
     refine zj ?_
     obtain ⟨L,G,h⟩:=bs h
     refine rg y<|u<|mv y<|u<|mf y y<|u<|pcs (zdE s a.Name a.Params a.Ret a.Static a.Abstract a.Locals a.Stack a.Code a.Maps a.Traps G) y y (.cons (zki y (fun _=>y)) (.cons (zd0 t ⟨(zcb y ⟨(si y),(si y),(si y),(si y),(si y),(si y),(si y),(si y),(si y),(si y),t⟩),t⟩) .nil)) zdb<|zb ?_
     refine zf y (fun l=>?_) (fun l=>?_)
     ·
      replace h:=bT l h
      refine rg y<|u<|asg y<|zb ?_
      refine zg ?_
      obtain rfl:=sm h
      exact ⟨_,y,_,y,zB []⟩
     ·
      replace h:=bF l h
      refine zi ?_
      obtain ⟨M,H,h⟩:=bs h
      refine rl y<|u<|mv y<|u<|ld ti y y<|u<|bl 5 ti y ti y (by decide) (by decide) y y y<|u<|apM 6 ti y ti y y (by decide) ti y y y y (roX (f:=ze) (z:=[a]) y y) (fun _=>y) y H<|u<|asg y<|zb ?_
      refine rl y<|u<|add ti y y<|u<|mv y<|zb ?_
      obtain rfl:=sm h
      exact ⟨_,y,zq [.old 0,.old 1,.old 6,.old 3]⟩
    ·
     replace h:=bF j h
     refine zQ ?_
     obtain rfl:=sm h
     exact ⟨y,_,y,zq [.old 0,.old 1,.old 2,.old 3]⟩
   ·
    rintro I rfl
    replace h:zgX n I=some r:=h
    unfold zgX at h
    refine zD ?_
    refine rl y<|u<|add ti y y<|u<|mv y<|zb ?_
    obtain rfl:=sm h
    exact ⟨_,y,zq [.old 0,.old 1,.old 2,.old 3]⟩
   ·
    rintro r' rfl env st hp
    obtain rfl:=sm h
    exact ⟨_,y,hp⟩
  ·
   replace h:=bF i h
   refine zQ ?_
   obtain rfl:=sm h
   exact ⟨y,_,y,zq [.old 0,.old 1,.old 2]⟩
 ·
  rintro A rfl
  replace h:zfP d e c A=some r:=h
  unfold zfP at h
  refine zD ?_
  refine zj ?_
  refine rg y<|u<|fa ti y y y<|u<|ld ti y y<|zb ?_
  refine zf y (fun m=>?_) (fun m=>?_)
  ·
   replace h:=bT m h
   refine rg y<|u<|asg y<|zb ?_
   refine zg ?_
   obtain rfl:=sm h
   exact ⟨_,y,zB []⟩
  ·
   replace h:=bF m h
   refine zi ?_
   obtain ⟨N,J,h⟩:=bs h
   refine rg y<|u<|mv y<|u<|mf y y<|u<|pcs (zdF A d e c.Name c.Super c.Interface c.Impl c.Fields c.Methods J) y y (.cons (zki y (fun _=>y)) (.cons (zd0 t ⟨(zcb y ⟨(si y),t⟩),(zcb y ⟨(si y),(si y),(si y),(si y),(si y),(si y),t⟩),t⟩) .nil)) zdb<|u<|nt y<|u<|asg y<|zb ?_
   refine zg ?_
   obtain rfl:=sm h
   exact ⟨_,y,zB []⟩
 ·
  rintro r' rfl env st hp
  obtain rfl:=sm h
  exact hp
def zgy:Option (Int):=
  some 0
def zcx(a:zy)(c:T1)(b:Int):Option (Sum (Int) (Sum (Unit) (Int))):=
  cond (decide (b<((length c):Int))) ((idx c b).bind fun e=>(zE a.l a.at_ e).bind fun d=>(zd7 a.l a.at_ d.1).bind fun f=>(cond (!f) (some true) ((zgl a.l a.at_ d.1).bind fun g=>some (!g))).bind fun h=>cond h (some (.inr (.inr 1))) (some (.inl (IntKind.i64.wrap (b+1))))) (some (.inr (.inl ())))
def zfp(a:zy):Option (Int):=
  (zcX a.l a.at_).bind fun c=>(zz (fun z=>zcx a c z) 0).bind fun o=>zaq o (fun b=>zgy) some
def zcw(a:zy)(c:T1)(b:Int):Option (Sum (Int) (Sum (Unit) (Int))):=
  cond (decide (b<((length c):Int))) ((idx c b).bind fun f=>(zE a.l a.at_ f).bind fun d=>(zgn a.l a.at_ d.1).bind fun e=>cond (!e) (some (.inr (.inr 4))) (some (.inl (IntKind.i64.wrap (b+1))))) (some (.inr (.inl ())))
def zeT(c:Option zy):Option (Int):=
  zsh c (none) (fun a=>(zcX a.l a.at_).bind fun d=>(zz (fun z=>zcw a d z) 0).bind fun o=>zaq o (fun b=>zfp a) some)
theorem ziw(v:Option zy){r:Int}(h:zeT v=some r):zu Tryz.prog 92 [zjm 2 zcf v] (iA r):=by
 refine zl Tryz.func92 y kz y y ?_
 unfold zeT at h
 rcases v with _ |a
 ·
  replace h:=oeN h
  cases h
 ·
  replace h:=oeS h
  refine rg y<|u<|asg y<|zb ?_
  refine zj ?_
  obtain ⟨n,L,h⟩:=bs h
  refine rg y<|u<|mv y<|u<|sx [] (zgp a.l a.at_ L)<|zK (env0:=[(0,.ipt 2 [[.isl 6 (map zd a.l),.imp (map (rKV (fun x=>iA x)) a.at_)]] 0 0),(12,.msl 0 0 (length n))]) (st0:=[some (1,map zm n)]) (zq [.old 0])<|u<|lnM ti y y y<|u<|mv y<|zb ?_
  obtain ⟨o,ho,h⟩:=bs h
  refine zaN (X:=Int) (B:=Unit) (R:=Int) (fun z=>[(0,.ipt 2 [[.isl 6 (map zd a.l),.imp (map (rKV (fun x=>iA x)) a.at_)]] 0 0),(12,.msl 0 0 (length n)),(13,iA ((length n):Int)),(14,iA z)]) (fun z=>[some (1,map zm n)]) (fun b=>[(0,.ipt 2 [[.isl 6 (map zd a.l),.imp (map (rKV (fun x=>iA x)) a.at_)]] 0 0)]) (fun b=>[]) (fun r env st=>zb6 Tryz.prog Tryz.f92 0 (iA r) [] env st) ho (zq [.old 0]) ?_ ?_ ?_
  ·
   rintro M r h
   replace h:zcw a n M=some r:=h
   unfold zcw at h
   refine rg y<|u<|lss ti y y<|zb ?_
   refine zj ?_
   refine zf y (fun p=>?_) (fun p=>?_)
   ·
    replace h:=bT p h
    refine zi ?_
    refine zj ?_
    refine zr ?_
    obtain ⟨N,A,h⟩:=bs h
    refine rg y<|u<|ixM ti y ti y y y y A<|u<|ldM ti y y (zp A).2.2 y<|u<|asg y<|zb ?_
    obtain ⟨C,O,h⟩:=bs h
    refine rg y<|u<|mv y<|u<|mv y<|u<|pc (zG a.l a.at_ N O) y y y<|u<|mv y<|u<|ex y y<|u<|ex y y<|u<|al 1 ti y<|u<|sto ti y y y<|u<|asg y<|zb ?_
    obtain ⟨P,D,h⟩:=bs h
    refine rg y<|u<|mv y<|u<|ld ti y y<|u<|pc (zlF a.l a.at_ C.1 D) y y y<|u<|nt y<|zb ?_
    refine zf y (fun f=>?_) (fun f=>?_)
    ·
     replace h:=bT f h
     refine rg y<|u<|asg y<|zb ?_
     refine zg ?_
     obtain rfl:=sm h
     exact ⟨_,y,_,y,zB []⟩
    ·
     replace h:=bF f h
     refine zi ?_
     refine rl y<|u<|add ti y y<|u<|mv y<|zb ?_
     obtain rfl:=sm h
     exact ⟨_,y,zq [.old 0]⟩
   ·
    replace h:=bF p h
    refine zQ ?_
    obtain rfl:=sm h
    exact ⟨y,_,y,zq []⟩
  ·
   rintro ⟨⟩ rfl
   replace h:zfp a=some r:=h
   unfold zfp at h
   refine zD ?_
   refine zj ?_
   obtain ⟨d,E,h⟩:=bs h
   refine rg y<|u<|mv y<|u<|sx [] (zgp a.l a.at_ E)<|zK (env0:=[(0,.ipt 2 [[.isl 6 (map zd a.l),.imp (map (rKV (fun x=>iA x)) a.at_)]] 0 0),(30,.msl 0 0 (length d))]) (st0:=[some (1,map zm d)]) (zq [.old 0])<|u<|lnM ti y y y<|u<|mv y<|zb ?_
   obtain ⟨o,ho,h⟩:=bs h
   refine zaN (X:=Int) (B:=Unit) (R:=Int) (fun z=>[(0,.ipt 2 [[.isl 6 (map zd a.l),.imp (map (rKV (fun x=>iA x)) a.at_)]] 0 0),(30,.msl 0 0 (length d)),(31,iA ((length d):Int)),(32,iA z)]) (fun z=>[some (1,map zm d)]) (fun b=>[]) (fun b=>[]) (fun r env st=>zb6 Tryz.prog Tryz.f92 0 (iA r) [] env st) ho (zq [.old 0]) ?_ ?_ ?_
   ·
    rintro F r h
    replace h:zcx a d F=some r:=h
    unfold zcx at h
    refine rg y<|u<|lss ti y y<|zb ?_
    refine zj ?_
    refine zf y (fun i=>?_) (fun i=>?_)
    ·
     replace h:=bT i h
     refine zi ?_
     refine zj ?_
     refine zr ?_
     obtain ⟨G,q,h⟩:=bs h
     refine rg y<|u<|ixM ti y ti y y y y q<|u<|ldM ti y y (zp q).2.2 y<|u<|asg y<|zb ?_
     obtain ⟨s,H,h⟩:=bs h
     refine rg y<|u<|mv y<|u<|mv y<|u<|pc (zG a.l a.at_ G H) y y y<|u<|mv y<|u<|ex y y<|u<|ex y y<|u<|al 1 ti y<|u<|sto ti y y y<|u<|asg y<|zb ?_
     obtain ⟨Q,I,h⟩:=bs h
     obtain ⟨J,e,h⟩:=bs h
     refine rg y<|u<|mv y<|u<|ld ti y y<|u<|pc (zjB a.l a.at_ s.1 I) y y y<|u<|nt y<|u<|mv y<|ze6 (x:=J) (j:=4) 4 y y y y y gpn (fun c=>by replace e:=bF c e;obtain ⟨S,K,e⟩:=bs e;obtain rfl:=sm e;exact g y c<|mv y<|g y c<|ld ti y y<|g y c<|pc (zlC a.l a.at_ s.1 K) y y y<|g y c<|nt y<|zb (eg [47,48,49,50] 4 y y y y)) (fun hb=>(sm (bT hb e)).symm)<|zb ?_
     refine zf y (fun m=>?_) (fun m=>?_)
     ·
      replace h:=bT m h
      refine rg y<|u<|asg y<|zb ?_
      refine zg ?_
      obtain rfl:=sm h
      exact ⟨_,y,_,y,zB []⟩
     ·
      replace h:=bF m h
      refine zi ?_
      refine rl y<|u<|add ti y y<|u<|mv y<|zb ?_
      obtain rfl:=sm h
      exact ⟨_,y,zq [.old 0]⟩
    ·
     replace h:=bF i h
     refine zQ ?_
     obtain rfl:=sm h
     exact ⟨y,_,y,zq []⟩
   ·
    rintro ⟨⟩ rfl
    replace h:zgy=some r:=h
    unfold zgy at h
    refine zD ?_
    refine rg y<|u<|asg y<|zb ?_
    refine zg ?_
    obtain rfl:=sm h
    exact ⟨_,y,zB []⟩
   ·
    rintro r' rfl env st hp
    obtain rfl:=sm h
    exact hp
  ·
   rintro r' rfl env st hp
   obtain rfl:=sm h
   exact hp
def zfs(a:T0):Bool:=
  false
theorem zg1(a:T0){r:Bool}(h:zfs a=r):zu Tryz.prog 59 [.lit (.pointer none),sA a] (bA r):=by
 refine zl Tryz.func59 y kz y y ?_
 unfold zfs at h
 refine rg y<|u<|asg y<|zb ?_
 refine zj ?_
 refine rg y<|u<|mv y<|u<|eqp ti y y y y y y<|zb ?_
 refine zf y (fun _=>?_) (fun hx=>by cases hx)
 refine rg y<|u<|asg y<|zb ?_
 refine zg ?_
 obtain rfl:=h
 exact ⟨_,y,zB []⟩
def zfx:Option (T1):=
  some []
def zfy(a:T0):Option (Sum (Unit) (Sum (Unit) (T1))):=
  cond (zfs a) ((ziA 16 ([]:T1) [a]).bind fun b=>none) (some (.inr (.inl ())))
def zgz(a:T0):Option (T1):=
  (zz (fun z=>zfy a) ()).bind fun o=>zaq o (fun b=>zfx) some
theorem zjG(a:T0){r:T1}(h:zgz a=some r):zu Tryz.prog 66 [.lit (.pointer none),sA a] (.isl 1 (map zm r)):=by
 refine zl Tryz.func66 y kz y y ?_
 unfold zgz at h
 refine rg y<|u<|asg y<|zb ?_
 refine rg y<|u<|asg y<|zb ?_
 obtain ⟨o,ho,h⟩:=bs h
 refine zvz (X:=Unit) (B:=Unit) (R:=T1) (fun z=>[(0,.lit (.pointer none)),(1,sA a),(5,.lit (.slice none 0 0))]) (fun z=>[]) (fun b=>[(5,.lit (.slice none 0 0))]) (fun b=>[]) (fun r env st=>zb6 Tryz.prog Tryz.f66 0 (.isl 1 (map zm r)) [] env st) ho (zq []) ?_ ?_ ?_
 ·
  rintro ⟨⟩ r h
  replace h:zfy a=some r:=h
  unfold zfy at h
  refine zj ?_
  refine rg y<|u<|mv y<|u<|mv y<|u<|pc (zg1 a y) y y y<|zb ?_
  refine zf y (fun c=>?_) (fun c=>?_)
  ·
   replace h:=bT c h
   refine zi ?_
   refine zr ?_
   obtain ⟨e,d,h⟩:=bs h
   refine rg y<|u<|mv y<|u<|mv y<|u<|bl 0 ti y ti y (by decide) (by decide) y y y<|u<|apN (f:=zm) 1 ti y ti y y (by decide) ti y y y (roX (f:=zm) (z:=[a]) y y) (fun _=>y) y d<|u<|asg y<|zb ?_
   cases h
  ·
   replace h:=bF c h
   refine zQ ?_
   obtain rfl:=sm h
   exact ⟨y,_,y,zq []⟩
 ·
  rintro ⟨⟩ rfl
  replace h:zfx=some r:=h
  unfold zfx at h
  refine rg y<|u<|mv y<|u<|asg y<|zb ?_
  refine zg ?_
  obtain rfl:=sm h
  exact ⟨_,y,zB []⟩
 ·
  rintro r' rfl env st hp
  obtain rfl:=sm h
  exact hp
def zfR(a:T0):Option (za×Bool):=
  cond (!(zfs a)) (some ((za.mk [] [] false [] [] []),false)) (none)
theorem ziT(b:T0){r:za×Bool}(h:zfR b=some r):zu Tryz.prog 63 [.lit (.pointer none),sA b] (.tup [.agg (zd r.1),bA r.2]):=by
 refine zl Tryz.func63 y kz y y ?_
 unfold zfR at h
 refine rg y<|u<|al 0 ti y<|u<|asg y<|zb ?_
 refine zj ?_
 refine rg y<|u<|mv y<|u<|mv y<|u<|pc (zg1 b y) y y y<|u<|nt y<|zb ?_
 refine zf y (fun a=>?_) (fun a=>?_)
 ·
  replace h:=bT a h
  refine rg y<|u<|bd ti y y y<|u<|sto ti y y y<|u<|asg y<|zb ?_
  refine zg ?_
  obtain rfl:=sm h
  exact ⟨_,y,zB []⟩
 ·
  replace h:=bF a h
  refine zi ?_
  cases h
def zg8:Option (T0×zc×Bool):=
  some ([],(zc.mk [] [] [] false false 0 0 [] [] []),false)
def zg9(e:T1)(i:T0)(a:Int):Option (Sum (Int) (Sum (Unit) (T0×zc×Bool))):=
  cond (decide (a<(length e:Int))) ((idx e a).bind fun d=>(zfR d).bind fun b=>(zdp b.1 i).bind fun c=>(cond (decide (0≤c)) ((idx b.1.Methods c).bind fun f=>some (zdx f)) (some false)).bind fun g=>cond g ((idx b.1.Methods c).bind fun h=>some (.inr (.inr (d,h,true)))) (some (.inl (IntKind.i64.wrap (a+1))))) (some (.inr (.inl ())))
def zi0(a:T1)(c:T0):Option (T0×zc×Bool):=
  (zz (fun z=>zg9 a c z) 0).bind fun o=>zaq o (fun b=>zg8) some
theorem zlW(i:T1)(l:T0){r:T0×zc×Bool}(h:zi0 i l=some r):zu Tryz.prog 160 [.lit (.pointer none),.isl 1 (map zm i),sA l,.fn (.func 161) [] []] (.tup [sA r.1,.agg (ze r.2.1),bA r.2.2]):=by
 refine zl Tryz.func160 y kz y y ?_
 unfold zi0 at h
 refine rg y<|u<|asg y<|u<|al 0 ti y<|u<|asg y<|zb ?_
 refine zj ?_
 refine rg y<|u<|mv y<|u<|lnI ti y y<|u<|mv y<|zb ?_
 obtain ⟨o,ho,h⟩:=bs h
 refine zaN (X:=Int) (B:=Unit) (R:=T0×zc×Bool) (fun z=>[(0,.lit (.pointer none)),(2,sA l),(3,.fn (.func 161) [] []),(9,.mpt 0 0 0),(16,.isl 1 (map zm i)),(17,iA (length i:Int)),(18,iA z)]) (fun z=>[some (10,[[sA [],.lit (.slice none 0 0),sA [],bA false,bA false,iA 0,iA 0,.lit (.slice none 0 0),.lit (.slice none 0 0),.lit (.slice none 0 0)]])]) (fun b=>[(9,.mpt 0 0 0)]) (fun b=>[some (10,[[sA [],.lit (.slice none 0 0),sA [],bA false,bA false,iA 0,iA 0,.lit (.slice none 0 0),.lit (.slice none 0 0),.lit (.slice none 0 0)]])]) (fun r env st=>zb6 Tryz.prog Tryz.f160 0 (.tup [sA r.1,.agg (ze r.2.1),bA r.2.2]) [] env st) ho (zq [.old 0]) ?_ ?_ ?_
 ·
  rintro A r h
  replace h:zg9 i l A=some r:=h
  unfold zg9 at h
  refine rg y<|u<|lss ti y y<|zb ?_
  refine zj ?_
  refine zf y (fun d=>?_) (fun d=>?_)
  ·
   replace h:=bT d h
   refine zi ?_
   refine zj ?_
   refine zr ?_
   obtain ⟨f,n,h⟩:=bs h
   refine rg y<|u<|ixI ti y ti y y y n<|u<|ldI ti y (zp n).2.2 y<|u<|asg y<|zb ?_
   obtain ⟨m,C,h⟩:=bs h
   refine rg y<|u<|mv y<|u<|mv y<|u<|pc (ziT f C) y y y<|u<|mv y<|u<|ex y y<|u<|ex y y<|u<|al 1 ti y<|u<|sto ti y y y<|u<|asg y<|zb ?_
   obtain ⟨p,D,h⟩:=bs h
   refine rg y<|u<|ld ti y y<|u<|mv y<|u<|pc (zfK m.1 l D) y y y<|u<|asg y<|zb ?_
   obtain ⟨E,c,h⟩:=bs h
   refine rg y<|u<|mv y<|u<|geq ti y y<|u<|mv y<|zbq (x:=E) (j:=2) 7 y y y y y gpn (fun a=>by replace c:=bT a c;obtain ⟨F,q,c⟩:=bs c;obtain rfl:=sm c;exact g y a<|mv y<|g y a<|fa ti y y y<|g y a<|ld ti y y<|g y a<|mv y<|g y a<|ixI ti y ti y y y q<|g y a<|ldI ti y (zp q).2.2 y<|g y a<|pc (zix F y) y y y<|zb (eg [34,35,36,37,38,39,40] 7 y y y y)) (fun hb=>(sm (bF hb c)).symm)<|zb ?_
   refine zf y (fun e=>?_) (fun e=>?_)
   ·
    replace h:=bT e h
    obtain ⟨s,v,h⟩:=bs h
    refine rdA [(8,sA f),(9,.mpt 0 0 0),(10,bA true)] [some (10,[(ze s)])] [7] [6,5,4,3,2,1,0] [(8,sA f),(47,.agg (ze s)),(46,.ipt 10 (map ze m.1.Methods) (Int.toNat p) 0),(45,iA p),(44,.isl 10 (map ze m.1.Methods)),(43,.mpt 1 0 5),(42,sA f)] 1 (ziH ⟨pe,(pb y (ldI ti y (zp v).2.2 y w)),(pb y (ixI ti y ti y y y v w)),pe,pe,pe,pe,t⟩ ⟨(fun _ _=>⟨_,y,y,sto ti y y y<|⟨.any,[8],[(10,bA true)],y,y,kz,t,zlb (zq [.old 0])⟩⟩),t⟩) ?_
    refine zg ?_
    obtain rfl:=sm h
    exact ⟨_,y,_,y,zB []⟩
   ·
    replace h:=bF e h
    refine zi ?_
    refine rl y<|u<|add ti y y<|u<|mv y<|zb ?_
    obtain rfl:=sm h
    exact ⟨_,y,zq [.old 0]⟩
  ·
   replace h:=bF d h
   refine zQ ?_
   obtain rfl:=sm h
   exact ⟨y,_,y,zq [.old 0]⟩
 ·
  rintro ⟨⟩ rfl
  replace h:zg8=some r:=h
  unfold zg8 at h
  refine zD ?_
  refine rg y<|u<|bd ti y y y<|u<|asg y<|u<|sto ti y y y<|u<|asg y<|zb ?_
  refine zg ?_
  obtain rfl:=sm h
  exact ⟨_,y,zB []⟩
 ·
  rintro r' rfl env st hp
  obtain rfl:=sm h
  exact hp
def zim(f:Option zy)(d:T0)(e:T0):Option (T0×zc×Bool):=
  zsh f ((zgz d).bind fun g=>(zi0 g e).bind fun b=>some (b.1,b.2.1,b.2.2)) (fun a=>(zai a.l a.at_ d).bind fun h=>(zeH a.l a.at_ h e).bind fun c=>some (c.1,c.2.1,c.2.2))
theorem zmB(e:Option zy)(c:T0)(b:T0){r:T0×zc×Bool}(h:zim e c b=some r):zu Tryz.prog 95 [zjm 2 zcf e,sA c,sA b] (.tup [sA r.1,.agg (ze r.2.1),bA r.2.2]):=by
 refine zl Tryz.func95 y kz y y ?_
 unfold zim at h
 rcases e with _ |a
 ·
  replace h:=oeN h
  refine rg y<|u<|asg y<|u<|al 0 ti y<|u<|asg y<|zb ?_
  obtain ⟨f,g,h⟩:=bs h
  obtain ⟨n,i,h⟩:=bs h
  refine rg y<|u<|mv y<|u<|mv y<|u<|mv y<|u<|pc (zjG c g) y y y<|u<|mv y<|u<|pc (zlW f b i) y y y<|u<|ex y y<|u<|ex y y<|u<|ex y y<|u<|asg y<|u<|sto ti y y y<|u<|asg y<|zb ?_
  refine zg ?_
  obtain rfl:=sm h
  exact ⟨_,y,zB []⟩
 ·
  replace h:=oeS h
  refine rg y<|u<|asg y<|u<|al 0 ti y<|u<|asg y<|zb ?_
  obtain ⟨d,j,h⟩:=bs h
  obtain ⟨o,m,h⟩:=bs h
  refine rg y<|u<|mv y<|u<|mv y<|u<|mv y<|u<|sx [] (za7 a.l a.at_ c j)<|zK (env0:=[(2,sA b),(7,.mpt 0 0 0),(9,.ipt 2 [[.isl 6 (map zd a.l),.imp (map (rKV (fun x=>iA x)) a.at_)]] 0 0),(12,.msl 1 0 (length d))]) (st0:=[some (10,[[sA [],.lit (.slice none 0 0),sA [],bA false,bA false,iA 0,iA 0,.lit (.slice none 0 0),.lit (.slice none 0 0),.lit (.slice none 0 0)]]),some (1,map zm d)]) (zq [.old 0,.old 1])<|u<|mv y<|zK (env0:=[(7,.mpt 0 0 0),(9,.ipt 2 [[.isl 6 (map zd a.l),.imp (map (rKV (fun x=>iA x)) a.at_)]] 0 0),(12,.isl 1 (map zm d)),(13,sA b)]) (st0:=[some (10,[[sA [],.lit (.slice none 0 0),sA [],bA false,bA false,iA 0,iA 0,.lit (.slice none 0 0),.lit (.slice none 0 0),.lit (.slice none 0 0)]])]) (zq [.old 0])<|u<|pc (zi1 a.l a.at_ d b m) y y y<|u<|ex y y<|u<|ex y y<|u<|ex y y<|u<|asg y<|u<|sto ti y y y<|u<|asg y<|zb ?_
  refine zg ?_
  obtain rfl:=sm h
  exact ⟨_,y,zB []⟩
def zgW(a:(Option zy)×Int):Option ((Option zy)×Int):=
  some (a.1,0)
def zfN(a:Int):Option (Sum (Int) (Sum (Unit) ((Option zy)×Int))):=
  some (.inl (IntKind.i64.wrap (a+1)))
def zcN(f:(Option zy)×Int)(b:za)(a:Int):Option (Sum (Int) (Sum (Unit) ((Option zy)×Int))):=
  cond (decide (a<(length b.Methods:Int))) ((idx b.Methods a).bind fun c=>(cond (!c.Abstract) ((za3 f.1 b.Name a).bind fun d=>some (!d)) (some false)).bind fun e=>cond e (some (.inr (.inr (none,5)))) (some (.inl (IntKind.i64.wrap (a+1))))) (some (.inr (.inl ())))
def zcO(c:List za)(e:(Option zy)×Int)(a:Int):Option (Sum (Int) (Sum (Unit) ((Option zy)×Int))):=
  cond (decide (a<(length c:Int))) ((idx c a).bind fun d=>(zz (fun z=>zcN e d z) 0).bind fun o=>zaq o (fun b=>zfN a) (fun r=>some (.inr (.inr r)))) (some (.inr (.inl ())))
def zdt(d:List za)(e:zeS):Option ((Option zy)×Int):=
  (zft d).bind fun a=>cond (!(a.2 == (0:Int))) (some (none,a.2)) ((zeT a.1).bind fun f=>cond (!(f == (0:Int))) (some (none,f)) ((zim a.1 e.C e.M).bind fun c=>cond ((((!c.2.2)||(!c.2.1.Static))||(decide (0<(length c.2.1.Params:Int))))||(!(c.2.1.Ret == [86]))) (some (none,4)) ((zz (fun z=>zcO d a z) 0).bind fun o=>zaq o (fun b=>zgW a) some)))
theorem zfO(c:List za)(E:zeS){r:(Option zy)×Int}(h:zdt c E=some r):zu Tryz.prog 49 [.isl 6 (map zd c),.agg (zsm E)] (.tup [zjm 2 zcf r.1,iA r.2]):=by
 refine zl Tryz.func49 y kz y (zub (zqy (zok (fun _=>y)) (y))) ?_
 unfold zdt at h
 refine rg y<|u<|bx 0 2 y y y y<|u<|asg y<|u<|asg y<|zb ?_
 obtain ⟨d,K,h⟩:=bs h
 refine rg y<|u<|mv y<|u<|pc (zic c K) y y y<|u<|mv y<|u<|ex y y<|u<|ex y y<|u<|asg y<|u<|asg y<|zb ?_
 refine zj ?_
 refine rg y<|u<|mv y<|u<|neq ti y y<|zb ?_
 refine zf y (fun v=>?_) (fun v=>?_)
 ·
  replace h:=bT v h
  refine rg y<|u<|mv y<|u<|asg y<|u<|asg y<|zb ?_
  refine zg ?_
  obtain rfl:=sm h
  exact ⟨_,y,zB []⟩
 ·
  replace h:=bF v h
  refine zi ?_
  refine zj ?_
  obtain ⟨Q,L,h⟩:=bs h
  refine rg y<|u<|mv y<|u<|pc (ziw d.1 L) y y (zqy (zok (fun _=>y)) (y))<|u<|asg y<|zb ?_
  refine rg y<|u<|mv y<|u<|neq ti y y<|zb ?_
  refine zf y (fun A=>?_) (fun A=>?_)
  ·
   replace h:=bT A h
   refine rg y<|u<|mv y<|u<|asg y<|u<|asg y<|zb ?_
   refine zg ?_
   obtain rfl:=sm h
   exact ⟨_,y,zB []⟩
  ·
   replace h:=bF A h
   refine zi ?_
   refine zj ?_
   obtain ⟨S,N,h⟩:=bs h
   refine rg y<|u<|mv y<|u<|fa ti y y y<|u<|ld ti y y<|u<|fa ti y y y<|u<|ld ti y y<|u<|pc (zmB d.1 E.C E.M N) y y (zqy (zok (fun _=>y)) (y))<|u<|mv y<|u<|ex y y<|u<|ex y y<|u<|ex y y<|u<|al 1 ti y<|u<|asg y<|u<|sto ti y y y<|u<|asg y<|zb ?_
   refine rg y<|u<|mv y<|u<|nt y<|u<|mv y<|ze6 (j:=2) 3 y y y y y gpn (fun p=>g y p<|fa ti y y y<|g y p<|ld ti y y<|g y p<|nt y<|zb (egO [42,43,44] 3 p y y y y)) orT<|u<|mv y<|ze6 (j:=7) 4 y y y y y gpn (fun f=>g y f<|fa ti y y y<|g y f<|ld ti y y<|g y f<|lnI ti y y<|g y f<|gtr ti y y<|zb (egO [47,48,49,50] 4 f y y y y)) orT<|u<|mv y<|ze6 (j:=13) 3 y y y y y gpn (fun q=>g y q<|fa ti y y y<|g y q<|ld ti y y<|g y q<|sne ti y y<|zb (egO [53,54,55] 3 q y y y y)) orT<|zb ?_
   refine zf y (fun D=>?_) (fun D=>?_)
   ·
    replace h:=bT D h
    refine rg y<|u<|asg y<|u<|asg y<|zb ?_
    refine zg ?_
    obtain rfl:=sm h
    exact ⟨_,y,zB []⟩
   ·
    replace h:=bF D h
    refine zi ?_
    refine zj ?_
    refine rg y<|u<|mv y<|u<|lnI ti y y<|u<|mv y<|zb ?_
    obtain ⟨o,ho,h⟩:=bs h
    refine zaN (X:=Int) (B:=Unit) (R:=(Option zy)×Int) (fun z=>[(6,zjm 2 zcf d.1),(57,.isl 6 (map zd c)),(58,iA (length c:Int)),(59,iA z)]) (fun z=>[]) (fun b=>[(6,zjm 2 zcf d.1)]) (fun b=>[]) (fun r env st=>zb6 Tryz.prog Tryz.f49 0 (.tup [zjm 2 zcf r.1,iA r.2]) [] env st) ho (zq []) ?_ ?_ ?_
    ·
     rintro s r h
     replace h:zcO c d s=some r:=h
     unfold zcO at h
     refine rg y<|u<|lss ti y y<|zb ?_
     refine zj ?_
     refine zf y (fun l=>?_) (fun l=>?_)
     ·
      replace h:=bT l h
      refine zi ?_
      refine zj ?_
      refine zr ?_
      obtain ⟨i,F,h⟩:=bs h
      refine rg y<|u<|ixI ti y ti y y y F<|u<|ldI ti y (zp F).2.2 y<|u<|al 0 ti y<|u<|sto ti y y y<|zb ?_
      refine rg y<|u<|fa ti y y y<|u<|ld ti y y<|u<|lnI ti y y<|u<|mv y<|zb ?_
      obtain ⟨o,ho,h⟩:=bs h
      refine zaN (X:=Int) (B:=Unit) (R:=(Option zy)×Int) (fun z=>[(6,zjm 2 zcf d.1),(13,.mpt 0 0 0),(57,.isl 6 (map zd c)),(58,iA (length c:Int)),(59,iA s),(64,.isl 10 (map ze i.Methods)),(65,iA (length i.Methods:Int)),(66,iA z)]) (fun z=>[some (6,[(zd i)])]) (fun b=>[(6,zjm 2 zcf d.1),(57,.isl 6 (map zd c)),(58,iA (length c:Int)),(59,iA s)]) (fun b=>[]) (fun r env st=>zb6 Tryz.prog Tryz.f49 0 (.tup [zjm 2 zcf r.1,iA r.2]) [] env st) ho (zq [.old 0]) ?_ ?_ ?_
      ·
       rintro G r h
       replace h:zcN d i G=some r:=h
       unfold zcN at h
       refine rg y<|u<|lss ti y y<|zb ?_
       refine zj ?_
       refine zf y (fun m=>?_) (fun m=>?_)
       ·
        replace h:=bT m h
        refine zi ?_
        refine zj ?_
        refine zr ?_
        obtain ⟨O,H,h⟩:=bs h
        refine rg y<|u<|mv y<|u<|ixI ti y ti y y y H<|u<|ldI ti y (zp H).2.2 y<|u<|al 1 ti y<|u<|asg y<|u<|sto ti y y y<|zb ?_
        obtain ⟨I,e,h⟩:=bs h
        refine rg y<|u<|fa ti y y y<|u<|ld ti y y<|u<|nt y<|u<|mv y<|zbq (x:=I) (j:=3) 6 y y y y y gpn (fun a=>by replace e:=bT a e;obtain ⟨P,J,e⟩:=bs e;obtain rfl:=sm e;exact g y a<|mv y<|g y a<|fa ti y y y<|g y a<|ld ti y y<|g y a<|mv y<|g y a<|pc (zcz d.1 i.Name G J) y y (zqy (zok (fun _=>y)) (y))<|g y a<|nt y<|zb (eg [75,76,77,78,79,80] 6 y y y y)) (fun hb=>(sm (bF hb e)).symm)<|zb ?_
        refine zf y (fun n=>?_) (fun n=>?_)
        ·
         replace h:=bT n h
         refine rg y<|u<|asg y<|u<|asg y<|zb ?_
         refine zg ?_
         obtain rfl:=sm h
         exact ⟨_,y,_,y,zB []⟩
        ·
         replace h:=bF n h
         refine zi ?_
         refine rl y<|u<|add ti y y<|u<|mv y<|zb ?_
         obtain rfl:=sm h
         exact ⟨_,y,zq [.old 0]⟩
       ·
        replace h:=bF m h
        refine zQ ?_
        obtain rfl:=sm h
        exact ⟨y,_,y,zq []⟩
      ·
       rintro ⟨⟩ rfl
       replace h:zfN s=some r:=h
       unfold zfN at h
       refine zD ?_
       refine rl y<|u<|add ti y y<|u<|mv y<|zb ?_
       obtain rfl:=sm h
       exact ⟨_,y,zq []⟩
      ·
       rintro r' rfl env st hp
       obtain rfl:=sm h
       exact ⟨_,y,hp⟩
     ·
      replace h:=bF l h
      refine zQ ?_
      obtain rfl:=sm h
      exact ⟨y,_,y,zq []⟩
    ·
     rintro ⟨⟩ rfl
     replace h:zgW d=some r:=h
     unfold zgW at h
     refine zD ?_
     refine rg y<|u<|mv y<|u<|asg y<|u<|asg y<|zb ?_
     refine zg ?_
     obtain rfl:=sm h
     exact ⟨_,y,zB []⟩
    ·
     rintro r' rfl env st hp
     obtain rfl:=sm h
     exact hp
def zjL:Option (Bool):=
  (zg5).bind fun a=>some a
theorem zmv{r:Bool}(h:zjL=some r):zu Tryz.prog 91 [] (bA r):=by
 refine zl Tryz.func91 y kz y y ?_
 unfold zjL at h
 refine rg y<|u<|asg y<|zb ?_
 obtain ⟨b,a,h⟩:=bs h
 refine rg y<|u<|pc (zjt a) y y y<|u<|asg y<|zb ?_
 refine zg ?_
 obtain rfl:=sm h
 exact ⟨_,y,zB []⟩
def zij:Option (Bool):=
  (zdt ([(za.mk [70,97,99,101] [79,98,106,101,99,116] true [] [] ([(zc.mk [102] [] [73] false true 0 0 [] [] [])])),(za.mk [65,97] [79,98,106,101,99,116] false ([[70,97,99,101]]) ([(zh.mk [120] [73] false),(zh.mk [115] [73] true)]) ([(zc.mk [102] [] [73] false false 1 1 ([(zn.mk 1 5 [] []),(zn.mk 47 0 [] [])]) [] [])])),(za.mk [66,98] [65,97] false [] ([(zh.mk [121] [91,65,97] false)]) ([(zc.mk [109,97,105,110] [] [86] true false 0 0 ([(zn.mk 46 0 [] [])]) [] [])]))]) (zeS.mk [66,98] [109,97,105,110])).bind fun a=>(zdt ([(za.mk [70,97,99,101] [79,98,106,101,99,116] true [] [] ([(zc.mk [102] [] [73] false true 0 0 [] [] [])])),(za.mk [65,97] [79,98,106,101,99,116] false ([[70,97,99,101]]) ([(zh.mk [120] [73] false),(zh.mk [115] [73] true)]) ([(zc.mk [102] [] [73] false false 1 1 ([(zn.mk 1 5 [] []),(zn.mk 47 0 [] [])]) [] [])])),(za.mk [66,98] [65,97] false [] ([(zh.mk [121] [91,65,97] false)]) ([(zc.mk [109,97,105,110] [] [86] true false 0 0 ([(zn.mk 46 0 [] [])]) [] [])]))]) (zeS.mk [66,98] [102])).bind fun b=>(zdt ([(za.mk [70,97,99,101] [79,98,106,101,99,116] true [] [] ([(zc.mk [102] [] [73] false true 0 0 [] [] [])])),(za.mk [65,97] [79,98,106,101,99,116] false ([[70,97,99,101]]) ([(zh.mk [120] [73] false),(zh.mk [115] [73] true)]) []),(za.mk [66,98] [65,97] false [] ([(zh.mk [121] [91,65,97] false)]) ([(zc.mk [109,97,105,110] [] [86] true false 0 0 ([(zn.mk 46 0 [] [])]) [] [])]))]) (zeS.mk [66,98] [109,97,105,110])).bind fun c=>(zjL).bind fun d=>(cond ((((d&&(a.2 == (0:Int)))&&(!Option.isNone a.1))&&(b.2 == (4:Int)))&&(c.2 == (1:Int))) ((zeT a.1).bind fun e=>some (e == (0:Int))) (some false)).bind fun f=>some f
theorem zmw{r:Bool}(h:zij=some r):zu Tryz.prog 44 [] (bA r):=by
 refine zl Tryz.func44 y kz y y ?_
 unfold zij at h
 refine rg y<|u<|asg y<|zb ?_
 obtain ⟨b,n,h⟩:=bs h
 refine rg y<|u<|sx [] (zgb y)<|zK (env0:=[(9,.msl 0 0 3)]) (st0:=[some (6,[[sA [70,97,99,101],sA [79,98,106,101,99,116],bA true,.lit (.slice none 0 0),.lit (.slice none 0 0),.msl 1 0 1],[sA [65,97],sA [79,98,106,101,99,116],bA false,.msl 2 0 1,.msl 3 0 2,.msl 4 0 1],[sA [66,98],sA [65,97],bA false,.lit (.slice none 0 0),.msl 6 0 1,.msl 7 0 1]]),some (10,[[sA [102],.lit (.slice none 0 0),sA [73],bA false,bA true,iA 0,iA 0,.lit (.slice none 0 0),.lit (.slice none 0 0),.lit (.slice none 0 0)]]),some (1,[[sA [70,97,99,101]]]),some (3,[[sA [120],sA [73],bA false],[sA [115],sA [73],bA true]]),some (10,[[sA [102],.lit (.slice none 0 0),sA [73],bA false,bA false,iA 1,iA 1,.msl 5 0 2,.lit (.slice none 0 0),.lit (.slice none 0 0)]]),some (4,[[iA 1,iA 5,sA [],sA []],[iA 47,iA 0,sA [],sA []]]),some (3,[[sA [121],sA [91,65,97],bA false]]),some (10,[[sA [109,97,105,110],.lit (.slice none 0 0),sA [86],bA true,bA false,iA 0,iA 0,.msl 8 0 1,.lit (.slice none 0 0),.lit (.slice none 0 0)]]),some (4,[[iA 46,iA 0,sA [],sA []]])]) (zq [.old 0,.old 1,.old 2,.old 3,.old 4,.old 5,.old 6,.old 7,.old 8])<|u<|bd ti y y y<|zK (env0:=[(9,.isl 6 (map zd ([(za.mk [70,97,99,101] [79,98,106,101,99,116] true [] [] ([(zc.mk [102] [] [73] false true 0 0 [] [] [])])),(za.mk [65,97] [79,98,106,101,99,116] false ([[70,97,99,101]]) ([(zh.mk [120] [73] false),(zh.mk [115] [73] true)]) ([(zc.mk [102] [] [73] false false 1 1 ([(zn.mk 1 5 [] []),(zn.mk 47 0 [] [])]) [] [])])),(za.mk [66,98] [65,97] false [] ([(zh.mk [121] [91,65,97] false)]) ([(zc.mk [109,97,105,110] [] [86] true false 0 0 ([(zn.mk 46 0 [] [])]) [] [])]))]))),(10,.agg [sA [66,98],sA [109,97,105,110]])]) (st0:=[]) (zq [])<|u<|pc (zfO ([(za.mk [70,97,99,101] [79,98,106,101,99,116] true [] [] ([(zc.mk [102] [] [73] false true 0 0 [] [] [])])),(za.mk [65,97] [79,98,106,101,99,116] false ([[70,97,99,101]]) ([(zh.mk [120] [73] false),(zh.mk [115] [73] true)]) ([(zc.mk [102] [] [73] false false 1 1 ([(zn.mk 1 5 [] []),(zn.mk 47 0 [] [])]) [] [])])),(za.mk [66,98] [65,97] false [] ([(zh.mk [121] [91,65,97] false)]) ([(zc.mk [109,97,105,110] [] [86] true false 0 0 ([(zn.mk 46 0 [] [])]) [] [])]))]) (zeS.mk [66,98] [109,97,105,110]) n) y y y<|u<|mv y<|u<|ex y y<|u<|ex y y<|u<|asg y<|u<|asg y<|zb ?_
 obtain ⟨l,o,h⟩:=bs h
 refine rg y<|u<|sx [] (zgb y)<|zK (env0:=[(1,zjm 2 zcf b.1),(2,iA b.2),(15,.msl 0 0 3)]) (st0:=[some (6,[[sA [70,97,99,101],sA [79,98,106,101,99,116],bA true,.lit (.slice none 0 0),.lit (.slice none 0 0),.msl 1 0 1],[sA [65,97],sA [79,98,106,101,99,116],bA false,.msl 2 0 1,.msl 3 0 2,.msl 4 0 1],[sA [66,98],sA [65,97],bA false,.lit (.slice none 0 0),.msl 6 0 1,.msl 7 0 1]]),some (10,[[sA [102],.lit (.slice none 0 0),sA [73],bA false,bA true,iA 0,iA 0,.lit (.slice none 0 0),.lit (.slice none 0 0),.lit (.slice none 0 0)]]),some (1,[[sA [70,97,99,101]]]),some (3,[[sA [120],sA [73],bA false],[sA [115],sA [73],bA true]]),some (10,[[sA [102],.lit (.slice none 0 0),sA [73],bA false,bA false,iA 1,iA 1,.msl 5 0 2,.lit (.slice none 0 0),.lit (.slice none 0 0)]]),some (4,[[iA 1,iA 5,sA [],sA []],[iA 47,iA 0,sA [],sA []]]),some (3,[[sA [121],sA [91,65,97],bA false]]),some (10,[[sA [109,97,105,110],.lit (.slice none 0 0),sA [86],bA true,bA false,iA 0,iA 0,.msl 8 0 1,.lit (.slice none 0 0),.lit (.slice none 0 0)]]),some (4,[[iA 46,iA 0,sA [],sA []]])]) (zq [.old 0,.old 1,.old 2,.old 3,.old 4,.old 5,.old 6,.old 7,.old 8])<|u<|bd ti y y y<|zK (env0:=[(1,zjm 2 zcf b.1),(2,iA b.2),(15,.isl 6 (map zd ([(za.mk [70,97,99,101] [79,98,106,101,99,116] true [] [] ([(zc.mk [102] [] [73] false true 0 0 [] [] [])])),(za.mk [65,97] [79,98,106,101,99,116] false ([[70,97,99,101]]) ([(zh.mk [120] [73] false),(zh.mk [115] [73] true)]) ([(zc.mk [102] [] [73] false false 1 1 ([(zn.mk 1 5 [] []),(zn.mk 47 0 [] [])]) [] [])])),(za.mk [66,98] [65,97] false [] ([(zh.mk [121] [91,65,97] false)]) ([(zc.mk [109,97,105,110] [] [86] true false 0 0 ([(zn.mk 46 0 [] [])]) [] [])]))]))),(16,.agg [sA [66,98],sA [102]])]) (st0:=[]) (zq [])<|u<|pc (zfO ([(za.mk [70,97,99,101] [79,98,106,101,99,116] true [] [] ([(zc.mk [102] [] [73] false true 0 0 [] [] [])])),(za.mk [65,97] [79,98,106,101,99,116] false ([[70,97,99,101]]) ([(zh.mk [120] [73] false),(zh.mk [115] [73] true)]) ([(zc.mk [102] [] [73] false false 1 1 ([(zn.mk 1 5 [] []),(zn.mk 47 0 [] [])]) [] [])])),(za.mk [66,98] [65,97] false [] ([(zh.mk [121] [91,65,97] false)]) ([(zc.mk [109,97,105,110] [] [86] true false 0 0 ([(zn.mk 46 0 [] [])]) [] [])]))]) (zeS.mk [66,98] [102]) o) y y y<|u<|mv y<|u<|ex y y<|u<|ex y y<|u<|asg y<|u<|asg y<|zb ?_
 refine rg y<|u<|sx [] (zgb y)<|zK (env0:=[(1,zjm 2 zcf b.1),(2,iA b.2),(4,iA l.2),(20,.msl 0 0 3)]) (st0:=[some (6,[[sA [70,97,99,101],sA [79,98,106,101,99,116],bA true,.lit (.slice none 0 0),.lit (.slice none 0 0),.msl 1 0 1],[sA [65,97],sA [79,98,106,101,99,116],bA false,.msl 2 0 1,.msl 3 0 2,.msl 4 0 1],[sA [66,98],sA [65,97],bA false,.lit (.slice none 0 0),.msl 6 0 1,.msl 7 0 1]]),some (10,[[sA [102],.lit (.slice none 0 0),sA [73],bA false,bA true,iA 0,iA 0,.lit (.slice none 0 0),.lit (.slice none 0 0),.lit (.slice none 0 0)]]),some (1,[[sA [70,97,99,101]]]),some (3,[[sA [120],sA [73],bA false],[sA [115],sA [73],bA true]]),some (10,[[sA [102],.lit (.slice none 0 0),sA [73],bA false,bA false,iA 1,iA 1,.msl 5 0 2,.lit (.slice none 0 0),.lit (.slice none 0 0)]]),some (4,[[iA 1,iA 5,sA [],sA []],[iA 47,iA 0,sA [],sA []]]),some (3,[[sA [121],sA [91,65,97],bA false]]),some (10,[[sA [109,97,105,110],.lit (.slice none 0 0),sA [86],bA true,bA false,iA 0,iA 0,.msl 8 0 1,.lit (.slice none 0 0),.lit (.slice none 0 0)]]),some (4,[[iA 46,iA 0,sA [],sA []]])]) (zq [.old 0,.old 1,.old 2,.old 3,.old 4,.old 5,.old 6,.old 7,.old 8])<|u<|asg y<|zb ?_
 refine rg y<|u<|mv y<|u<|ixX ti y ti y y y<|u<|fa ti y y y<|u<|sto ti y y y<|zb ?_
 obtain ⟨v,p,h⟩:=bs h
 refine rg y<|u<|mv y<|u<|bd ti y y y<|zK (env0:=[(1,zjm 2 zcf b.1),(2,iA b.2),(4,iA l.2),(25,.isl 6 (map zd ([(za.mk [70,97,99,101] [79,98,106,101,99,116] true [] [] ([(zc.mk [102] [] [73] false true 0 0 [] [] [])])),(za.mk [65,97] [79,98,106,101,99,116] false ([[70,97,99,101]]) ([(zh.mk [120] [73] false),(zh.mk [115] [73] true)]) []),(za.mk [66,98] [65,97] false [] ([(zh.mk [121] [91,65,97] false)]) ([(zc.mk [109,97,105,110] [] [86] true false 0 0 ([(zn.mk 46 0 [] [])]) [] [])]))]))),(26,.agg [sA [66,98],sA [109,97,105,110]])]) (st0:=[]) (zq [])<|u<|pc (zfO ([(za.mk [70,97,99,101] [79,98,106,101,99,116] true [] [] ([(zc.mk [102] [] [73] false true 0 0 [] [] [])])),(za.mk [65,97] [79,98,106,101,99,116] false ([[70,97,99,101]]) ([(zh.mk [120] [73] false),(zh.mk [115] [73] true)]) []),(za.mk [66,98] [65,97] false [] ([(zh.mk [121] [91,65,97] false)]) ([(zc.mk [109,97,105,110] [] [86] true false 0 0 ([(zn.mk 46 0 [] [])]) [] [])]))]) (zeS.mk [66,98] [109,97,105,110]) p) y y y<|u<|mv y<|u<|ex y y<|u<|ex y y<|u<|asg y<|u<|asg y<|zb ?_
 obtain ⟨z,q,h⟩:=bs h
 obtain ⟨s,a,h⟩:=bs h
 refine rg y<|u<|pc (zmv q) y y y<|u<|mv y<|zbq (j:=1) 2 y y y y y gpn (fun d=>g y d<|mv y<|g y d<|eql ti y y<|zb (egA [32,33] 2 d y y y y)) zhn<|u<|mv y<|zbq (j:=5) 2 y y y y y gpn (fun e=>g y e<|mv y<|g y e<|zxQ ti y y y<|zb (egA [36,37] 2 e y y y y)) zhn<|u<|mv y<|zbq (j:=9) 2 y y y y y gpn (fun f=>g y f<|mv y<|g y f<|eql ti y y<|zb (egA [40,41] 2 f y y y y)) zhn<|u<|mv y<|zbq (j:=13) 2 y y y y y gpn (fun i=>g y i<|mv y<|g y i<|eql ti y y<|zb (egA [44,45] 2 i y y y y)) zhn<|u<|mv y<|zbq (x:=s) (j:=17) 3 y y y y y gpn (fun c=>by replace a:=bT c a;obtain ⟨A,m,a⟩:=bs a;obtain rfl:=sm a;exact g y c<|mv y<|g y c<|pc (ziw b.1 m) y y (zqy (zok (fun _=>y)) (y))<|g y c<|eql ti y y<|zb (eg [48,49,50] 3 y y y y)) (fun hb=>(sm (bF hb a)).symm)<|u<|asg y<|zb ?_
 refine zg ?_
 obtain rfl:=sm h
 exact ⟨_,y,zB []⟩

end
end Go.Proofs.YtjbdfkapnffjnaaGreat
