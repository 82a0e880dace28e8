/- ClosedAll: for every input the law returns true, and each argument reads as it read before. No further condition. Part 5 of 7. -/
import Derived.Test.YtjbdfkapnffjnaaGreatVh4
namespace Go.Proofs.YtjbdfkapnffjnaaGreat
noncomputable section
open List (length map)
set_option linter.unusedSimpArgs false
set_option linter.unusedVariables false
set_option maxRecDepth 100000
set_option maxHeartbeats 4000000
def zbT(b:List za)(c:T0)(d:zb)(e:T1)(f:T1)(i:Bool):Option (T0×T1×Bool):=
  (zap b c d e f i).bind fun a=>some (a.1,a.2.1,(a.2.2||(!(!(a.1 == [73])))))
theorem zco(b:List za)(c:T0)(d:zb)(e:T1)(f:T1)(i:Bool){r:T0×T1×Bool}(h:zbT b c d e f i=some r):SC Tryz.prog 256 [.mpt 0 0 0] (tR b c d e f i []) (sA r.1) (tR b c d e r.2.1 r.2.2 []):=by
 refine ⟨⟨t,t⟩,zX Tryz.func256 y kz y ?_⟩
 refine A ?_
 obtain ⟨a,j,h⟩:=bs h
 refine rg y<|u<|mv y<|u<|sx [0] (zaJ b c d e f i j)<|zv (env0:=[(0,.mpt 0 0 0),(5,sA a.1)]) (st0:=(sR b c d e a.2.1 a.2.2 [])) (zo [.old 0])<|A ?_
 refine A ?_
 refine u<|sx [0] (zm b c d e a.2.1 a.2.2 (!(a.1 == [73])) y)<|zv (env0:=[(3,sA a.1)]) (st0:=(sR b c d e a.2.1 (a.2.2||(!(!(a.1 == [73])))) [])) (zo [.old 0])<|zx ?_
 refine A ?_
 exact RT1
def zbw(e:List za)(f:T0)(i:zb)(b:T1)(j:zp)(a:T1)(c:Bool):Option (T1×Bool):=
  (zdu e f i b a c j.A b a).bind fun d=>some (a,d)
def zdv(a:List za)(b:T0)(c:zb)(d:T1)(f:T1)(i:Bool)(e:zp):Option (T1×Bool):=
  cond (decide (e.Op≤26)) ((zW a b c d f i ([[73]])).bind fun n=>zbw a b c d e n.1 n.2) (cond (decide (e.Op≤32)) ((zW a b c d f i ([[73],[73]])).bind fun o=>zbw a b c d e o.1 o.2) (cond (decide (e.Op≤34)) ((zbT a b c d f i).bind fun j=>zbw a b c d e j.2.1 j.2.2) ((zbT a b c d f i).bind fun l=>(zbT a b c d l.2.1 l.2.2).bind fun m=>zbw a b c d e m.2.1 m.2.2)))
theorem znI(b:List za)(c:T0)(d:zb)(a:T1)(f:T1)(i:Bool)(e:zp){r:T1×Bool}(h:zdv b c d a f i e=some r):SC Tryz.prog 205 [.mpt 0 0 0,.agg (zt e)] (tR b c d a f i []) (.tup []) (tR b c d a r.1 r.2 []):=by
 refine ⟨⟨t,t⟩,zX Tryz.func205 y kz y ?_⟩
 refine A ?_
 refine zal (X:=T1×Bool) (fun z=>[(0,.mpt 0 0 0),(3,.mpt 1 0 0)]) (fun z=>(sR b c d a z.1 z.2 [some (4,[(zt e)])])) (fun z=>zbw b c d a e z.1 z.2=some r) ?_ ?_
 ·refine zi<|A ?_
  refine zeh h y (fun q h=>?_) fun q h=>?_
  ·obtain ⟨o,C,h⟩:=bs h
   refine A ?_
   exact zv (env0:=[(0,.mpt 0 0 0),(3,.mpt 1 0 0),(12,.mpt 0 0 0),(13,.isl 1 (map zw ([[73]])))]) (st0:=(sR b c d a f i [some (4,[(zt e)])])) (zo [.old 0,.old 1])<|u<|sx [0] (zZ b c d a f i ([[73]]) C)<|zv (env0:=[(0,.mpt 0 0 0),(3,.mpt 1 0 0)]) (st0:=(sR b c d a o.1 o.2 [some (4,[(zt e)])])) (zo [.old 0,.old 1])<|zx (⟨⟨o.1,o.2⟩,h,zo [.old 0,.old 1]⟩)
  ·refine A ?_
   refine zeh h y (fun s h=>?_) fun s h=>?_
   ·obtain ⟨p,D,h⟩:=bs h
    refine A ?_
    exact zv (env0:=[(0,.mpt 0 0 0),(3,.mpt 1 0 0),(19,.mpt 0 0 0),(20,.isl 1 (map zw ([[73],[73]])))]) (st0:=(sR b c d a f i [some (4,[(zt e)])])) (zo [.old 0,.old 1])<|u<|sx [0] (zZ b c d a f i ([[73],[73]]) D)<|zv (env0:=[(0,.mpt 0 0 0),(3,.mpt 1 0 0)]) (st0:=(sR b c d a p.1 p.2 [some (4,[(zt e)])])) (zo [.old 0,.old 1])<|zx (⟨⟨p.1,p.2⟩,h,zo [.old 0,.old 1]⟩)
   ·refine A ?_
    refine zeh h y (fun v h=>?_) fun v h=>?_
    ·obtain ⟨j,E,h⟩:=bs h
     exact rl y<|u<|mv y<|u<|sx [0] (zco b c d a f i E)<|zv (env0:=[(0,.mpt 0 0 0),(3,.mpt 1 0 0)]) (st0:=(sR b c d a j.2.1 j.2.2 [some (4,[(zt e)])])) (zo [.old 0,.old 1])<|zx (⟨⟨j.2.1,j.2.2⟩,h,zo [.old 0,.old 1]⟩)
    ·obtain ⟨l,F,h⟩:=bs h
     refine rg y<|u<|mv y<|u<|sx [0] (zco b c d a f i F)<|zv (env0:=[(0,.mpt 0 0 0),(3,.mpt 1 0 0)]) (st0:=(sR b c d a l.2.1 l.2.2 [some (4,[(zt e)])])) (zo [.old 0,.old 1])<|zx ?_
     obtain ⟨m,G,h⟩:=bs h
     exact rl y<|u<|mv y<|u<|sx [0] (zco b c d a l.2.1 l.2.2 G)<|zv (env0:=[(0,.mpt 0 0 0),(3,.mpt 1 0 0)]) (st0:=(sR b c d a m.2.1 m.2.2 [some (4,[(zt e)])])) (zo [.old 0,.old 1])<|zx (⟨⟨m.2.1,m.2.2⟩,h,zo [.old 0,.old 1]⟩)
 ·rintro ⟨n,x⟩ h
  obtain ⟨B,H,h⟩:=bs h
  refine zjQ [] (sR b c d a n B []) [13] [0,1,2,3,4,5,6,7,8,9,10,11,12] [(40,_),(39,_),(38,_),(37,_),(36,_),(35,_),(34,_),(33,_),(32,_),(31,_),(30,_),(29,_),(28,_)] 1 (zcq (z:=by exact ⟨(fun _ _=>⟨_,y,y,sx [0] (zfB b c d a n x e.A a n H)<|⟨(.tup []),[],[(41,_)],y,y,y,y,zcw (z:=zaf [.old 0])⟩⟩),t⟩)) ?_
  obtain rfl:=sm h
  exact ⟨_,y,zad [.old 0]⟩
def zpa:Option (T0×zk×Bool):=
  some ([],(zk.mk [] [] false),false)
def zd2(e:List za)(m:T0)(d:T1)(a:Int):Option (Sum (Int) (Sum (Unit) (T0×zk×Bool))):=
  cond (decide (a<((length d):Int))) ((idx d a).bind fun f=>(zU e f).bind fun i=>(idx e i).bind fun b=>(zk2 b m).bind fun c=>cond (decide (0≤c)) ((idx d a).bind fun j=>(idx b.Fields c).bind fun l=>some (.inr (.inr (j,l,true)))) (some (.inl (IntKind.i64.wrap (a+1))))) (some (.inr (.inl ())))
def zgS(a:List za)(c:T0)(d:T0):Option (T0×zk×Bool):=
  (zaI a c).bind fun e=>(zl (fun z=>zd2 a d e z) 0).bind fun o=>zD o (fun b=>zpa) some
instance (a:List za)(e:T0)(d:T0):PF Tryz.prog 257 [.ipt 1 [[.isl 6 (map zc a)]] 0 0,sA e,sA d] (zgS a e d) (fun r=>(.tup [sA r.1,.agg (zE r.2.1),bA r.2.2])):=⟨fun r h=>by
 refine zh Tryz.func257 y kz y y<|A ?_
 obtain ⟨c,m,h⟩:=bs h
 refine A ?_
 refine u<|sx [] (zaL a e m)<|zv (env0:=[(0,.ipt 1 [[.isl 6 (map zc a)]] 0 0),(2,sA d),(7,.mpt 0 0 0),(15,.msl 1 0 (length c))]) (st0:=[some (3,[[sA [],sA [],bA false]]),some (1,map zw c)]) (zo [.old 0,.old 1])<|A ?_
 refine zf<|A ?_
 obtain ⟨o,ho,h⟩:=bs h
 refine lpB ho (fun z=>[(0,.ipt 1 [[.isl 6 (map zc a)]] 0 0),(2,sA d),(7,.mpt 0 0 0),(9,.msl 1 0 (length c)),(10,iA z)]) (fun z=>[some (3,[[sA [],sA [],bA false]]),some (1,map zw c)]) (fun b=>[(7,.mpt 0 0 0)]) (fun b=>[some (3,[[sA [],sA [],bA false]])]) (pG Tryz.f257 (fun r=>.tup [sA r.1,.agg (zE r.2.1),bA r.2.2])) (zaf [.old 0,.old 1]) ?_ ?_
 ·rintro n r h
  refine zf<|A ?_
  refine zeh h y (fun f h=>?_) fun f h=>?_
  ·refine ze<|zf<|zi ?_
   obtain ⟨p,q,s,v,j,x,h⟩:=bs3 h
   refine rdA [(0,_),(2,_),(7,_),(9,_),(10,_),(11,_)] [some (3,[[sA [],sA [],bA false]]),some (1,map zw c),some (6,[(zc j)])] [12,13] [0,1,2,3,4,5,6,7,8,9,10,11] [(33,_),(32,_),(31,_),(30,_),(29,_),(28,_),(27,_),(26,_),(25,_),(24,_),(23,_),(22,_)] 2 (zcq (z:=by exact ⟨(fun _ _=>⟨_,y,y,al 2 ti y<|⟨(.mpt 2 0 0),[],[(11,_)],y,y,y,y,zcq (z:=by exact ⟨nv,(fun _ _=>⟨_,y,y,sto ti y y y<|⟨.any,[],[],y,y,y,t,zcw (z:=zaf [.old 0,.old 1,.old 2])⟩⟩),t⟩)⟩⟩),nw,t⟩)) ?_
   obtain ⟨B,C,h⟩:=bs h
   refine A ?_
   refine A ?_
   refine zeh h y (fun i h=>?_) fun i h=>?_
   ·obtain ⟨D,E,l,F,h⟩:=bs2 h
    refine rdA [(6,_),(7,_),(8,_)] [some (3,[(zE l)])] [10] [0,1,2,3,4,5,6,7,8,9] [(6,_),(47,_),(46,_),(45,_),(44,_),(43,_),(42,_),(41,_),(40,_),(39,_)] 1 (zcq (z:=by exact ⟨(fun _ _=>⟨_,y,y,sto ti y y y<|⟨.any,[11],[(8,_)],y,y,y,t,zcw (z:=zaf [.old 0])⟩⟩),t⟩)) ?_
    refine zy ?_
    obtain rfl:=sm h
    exact ⟨_,y,_,y,zad []⟩
   ·refine ze<|A ?_
    obtain rfl:=sm h
    exact ⟨_,y,zo [.old 0,.old 1]⟩
  ·refine zq ?_
   obtain rfl:=sm h
   exact ⟨y,_,y,zo [.old 0]⟩
 ·rintro ⟨⟩ rfl
  refine zn<|A ?_
  exact RT0⟩
def zbP(f:List za)(i:T0)(j:zb)(l:T1)(d:zp)(e:T0×zk×Bool)(a:T1)(b:Bool):Option (T1×Bool):=
  cond ((d.Op == (38:Int))||(d.Op == (40:Int))) ((zT f i j l a b e.2.1.Type_).bind fun c=>some (c.1,c.2)) (some (a,b))
def zaU(f:List za)(i:T0)(j:zb)(l:T1)(a:zp)(b:T0×zk×Bool)(c:T1)(d:Bool):Option (T1×Bool):=
  cond ((a.Op == (38:Int))||(a.Op == (39:Int))) ((zW f i j l c d [a.C]).bind fun e=>zbP f i j l a b e.1 e.2) (zbP f i j l a b c d)
def zcH(c:List za)(f:T0)(i:zb)(j:T1)(d:T1)(e:Bool)(a:zp):Option (T1×Bool):=
  (zU c a.C).bind fun n=>cond (decide (n<0)) (some (d,true)) (cond (a.Op == (37:Int)) ((idx c n).bind fun o=>(zT c f i j d (e||(!(!o.Interface))) a.C).bind fun l=>some (l.1,l.2)) ((zgS c a.C a.M).bind fun b=>cond (e||(!(b.2.2&&(b.2.1.Static == ((a.Op == (40:Int))||(a.Op == (41:Int))))))) (some (d,(e||(!(b.2.2&&(b.2.1.Static == ((a.Op == (40:Int))||(a.Op == (41:Int))))))))) (cond ((a.Op == (39:Int))||(a.Op == (41:Int))) ((zW c f i j d (e||(!(b.2.2&&(b.2.1.Static == ((a.Op == (40:Int))||(a.Op == (41:Int))))))) [b.2.1.Type_]).bind fun m=>zaU c f i j a b m.1 m.2) (zaU c f i j a b d (e||(!(b.2.2&&(b.2.1.Static == ((a.Op == (40:Int))||(a.Op == (41:Int)))))))))))
theorem zm4(c:List za)(d:T0)(e:zb)(f:T1)(i:T1)(j:Bool)(b:zp){r:T1×Bool}(h:zcH c d e f i j b=some r):SC Tryz.prog 206 [.mpt 0 0 0,.agg (zt b)] (tR c d e f i j []) (.tup []) (tR c d e f r.1 r.2 []):=by
 refine ⟨⟨t,t⟩,zX Tryz.func206 y kz y ?_⟩
 refine A ?_
 obtain ⟨M,N,h⟩:=bs h
 refine rdA [(0,_),(3,_),(4,_)] (sR c d e f i j [some (4,[(zt b)])]) [] [0,1,2,3,4,5,6,7] [(4,_),(14,_),(13,_),(12,_),(11,_),(10,_),(9,_),(8,_)] 0 (zcw (z:=zaf [.old 0,.old 1])) ?_
 refine zf<|A ?_
 refine zeh h y (fun D h=>?_) fun D h=>?_
 ·refine A ?_
  exact RT1
 ·refine ze<|zf<|A ?_
  refine zeh h y (fun E h=>?_) fun E h=>?_
  ·obtain ⟨s,O,h⟩:=bs h
   refine A ?_
   refine u<|sx [0] (zm c d e f i j (!s.Interface) y)<|zv (env0:=[(0,.mpt 0 0 0),(3,.mpt 1 0 0)]) (st0:=(sR c d e f i (j||(!(!s.Interface))) [some (4,[(zt b)])])) (zo [.old 0,.old 1])<|zx ?_
   obtain ⟨p,L,h⟩:=bs h
   refine A ?_
   refine u<|sx [0] (zQ c d e f i (j||(!(!s.Interface))) b.C L)<|zv (env0:=[]) (st0:=(sR c d e f p.1 p.2 [])) (zo [.old 0])<|zx ?_
   exact RT1
  ·refine ze ?_
   obtain ⟨a,P,h⟩:=bs h
   refine rdA [(0,_),(3,_),(6,_),(7,_)] (sR c d e f i j [some (4,[(zt b)]),some (3,[(zE a.2.1)])]) [13,15] [0,1,2,3,4,5,6,7,8,9,10,11,12] [(53,_),(52,_),(51,_),(41,_),(50,_),(49,_),(48,_),(47,_),(46,_),(45,_),(44,_),(43,_),(42,_)] 2 (zcq (z:=by exact ⟨(fun _ _=>⟨_,y,y,al 2 ti y<|⟨(.mpt 2 0 0),[14],[(5,_),(6,_)],y,y,y,y,zcq (z:=by exact ⟨nv,(fun _ _=>⟨_,y,y,sto ti y y y<|⟨.any,[16],[(7,_)],y,y,y,t,zcw (z:=zaf [.old 0,.old 1,.old 2])⟩⟩),t⟩)⟩⟩),nw,t⟩)) ?_
   refine A ?_
   refine u<|sx [0] (zm c d e f i j (a.2.2&&(a.2.1.Static == ((b.Op == (40:Int))||(b.Op == (41:Int))))) y)<|zv (env0:=[(0,.mpt 0 0 0),(3,.mpt 1 0 0),(6,.mpt 2 0 0)]) (st0:=(sR c d e f i (j||(!(a.2.2&&(a.2.1.Static == ((b.Op == (40:Int))||(b.Op == (41:Int))))))) [some (4,[(zt b)]),some (3,[(zE a.2.1)])])) (zo [.old 0,.old 1,.old 2])<|zx ?_
   refine zf<|A ?_
   refine zeh h y (fun F h=>?_) fun F h=>?_
   ·exact RT1
   ·refine ze ?_
    refine zal (X:=T1×Bool) (fun z=>[(0,.mpt 0 0 0),(3,.mpt 1 0 0),(6,.mpt 2 0 0)]) (fun z=>(sR c d e f z.1 z.2 [some (4,[(zt b)]),some (3,[(zE a.2.1)])])) (fun z=>zaU c d e f b a z.1 z.2=some r) ?_ ?_
    ·refine A ?_
     refine zeh h y (fun v h=>?_) fun v h=>?_
     ·obtain ⟨l,G,h⟩:=bs h
      refine A ?_
      exact zv (env0:=[(0,.mpt 0 0 0),(3,.mpt 1 0 0),(6,.mpt 2 0 0),(82,.mpt 0 0 0),(85,.isl 1 (map zw [a.2.1.Type_]))]) (st0:=(sR c d e f i (j||(!(a.2.2&&(a.2.1.Static == ((b.Op == (40:Int))||(b.Op == (41:Int))))))) [some (4,[(zt b)]),some (3,[(zE a.2.1)])])) (zo [.old 0,.old 1,.old 2])<|u<|sx [0] (zZ c d e f i (j||(!(a.2.2&&(a.2.1.Static == ((b.Op == (40:Int))||(b.Op == (41:Int))))))) [a.2.1.Type_] G)<|zv (env0:=[(0,.mpt 0 0 0),(3,.mpt 1 0 0),(6,.mpt 2 0 0)]) (st0:=(sR c d e f l.1 l.2 [some (4,[(zt b)]),some (3,[(zE a.2.1)])])) (zo [.old 0,.old 1,.old 2])<|zx (⟨⟨l.1,l.2⟩,h,zo [.old 0,.old 1,.old 2]⟩)
     ·refine ze ?_
      exact ⟨⟨i,(j||(!(a.2.2&&(a.2.1.Static == ((b.Op == (40:Int))||(b.Op == (41:Int)))))))⟩,h,zo [.old 0,.old 1,.old 2]⟩
    ·rintro ⟨n,o⟩ h
     refine zal (X:=T1×Bool) (fun z=>[(0,.mpt 0 0 0),(3,.mpt 1 0 0),(6,.mpt 2 0 0)]) (fun z=>(sR c d e f z.1 z.2 [some (4,[(zt b)]),some (3,[(zE a.2.1)])])) (fun z=>zbP c d e f b a z.1 z.2=some r) ?_ ?_
     ·refine A ?_
      refine zeh h y (fun x h=>?_) fun x h=>?_
      ·obtain ⟨m,H,h⟩:=bs h
       refine A ?_
       exact zv (env0:=[(0,.mpt 0 0 0),(3,.mpt 1 0 0),(6,.mpt 2 0 0),(95,.mpt 0 0 0),(98,.isl 1 (map zw [b.C]))]) (st0:=(sR c d e f n o [some (4,[(zt b)]),some (3,[(zE a.2.1)])])) (zo [.old 0,.old 1,.old 2])<|u<|sx [0] (zZ c d e f n o [b.C] H)<|zv (env0:=[(0,.mpt 0 0 0),(3,.mpt 1 0 0),(6,.mpt 2 0 0)]) (st0:=(sR c d e f m.1 m.2 [some (4,[(zt b)]),some (3,[(zE a.2.1)])])) (zo [.old 0,.old 1,.old 2])<|zx (⟨⟨m.1,m.2⟩,h,zo [.old 0,.old 1,.old 2]⟩)
      ·refine ze ?_
       exact ⟨⟨n,o⟩,h,zo [.old 0,.old 1,.old 2]⟩
     ·rintro ⟨I,J⟩ h
      refine A ?_
      refine zeh h y (fun B h=>?_) fun B h=>?_
      ·obtain ⟨q,K,h⟩:=bs h
       refine A ?_
       refine u<|sx [0] (zQ c d e f I J a.2.1.Type_ K)<|zv (env0:=[]) (st0:=(sR c d e f q.1 q.2 [])) (zo [.old 0])<|zx ?_
       obtain rfl:=sm h
       exact ⟨_,y,zad [.old 0]⟩
      ·refine ze ?_
       obtain rfl:=sm h
       exact ⟨_,y,zad [.old 0]⟩
def zpH:Option (T0×zb×Bool):=
  some ([],(zb.mk [] [] [] false false 0 0 [] [] []),false)
def zeF(e:List za)(m:T0)(d:T1)(a:Int):Option (Sum (Int) (Sum (Unit) (T0×zb×Bool))):=
  cond (decide (a<((length d):Int))) ((idx d a).bind fun f=>(zU e f).bind fun i=>(idx e i).bind fun b=>(zeb b m).bind fun c=>cond (decide (0≤c)) ((idx d a).bind fun j=>(idx b.Methods c).bind fun l=>some (.inr (.inr (j,l,true)))) (some (.inl (IntKind.i64.wrap (a+1))))) (some (.inr (.inl ())))
def zhl(a:List za)(c:T0)(e:T0):Option (T0×zb×Bool):=
  (zU a c).bind fun d=>(cond (decide (d<0)) (some true) ((idx a d).bind fun f=>some (!f.Interface))).bind fun i=>cond i (some ([],(zb.mk [] [] [] false false 0 0 [] [] []),false)) ((zfU a c).bind fun j=>(zh9 16 [c] j).bind fun l=>(zl (fun z=>zeF a e l z) 0).bind fun o=>zD o (fun b=>zpH) some)
instance (a:List za)(c:T0)(d:T0):PF Tryz.prog 258 [.ipt 1 [[.isl 6 (map zc a)]] 0 0,sA c,sA d] (zhl a c d) (fun r=>(.tup [sA r.1,.agg (zd r.2.1),bA r.2.2])):=⟨fun r h=>by
 refine zh Tryz.func258 y kz y y<|A ?_
 obtain ⟨K,L,h⟩:=bs h
 refine A ?_
 refine zf ?_
 obtain ⟨M,N,h⟩:=bs h
 refine A ?_
 refine zeh h y (fun m h=>?_) fun m h=>?_
 ·refine A ?_
  exact RT0
 ·refine ze ?_
  obtain ⟨O,q,e,s,h⟩:=bs2 h
  refine A ?_
  refine u<|sx [] (zh2 a c q)<|u<|apM (l:=[c]) (f:=zw) 3 ti y ti y y (by decide) ti y y y y (roM y) (fun _=>y) y s<|A ?_
  refine zf<|A ?_
  obtain ⟨o,ho,h⟩:=bs h
  refine lpB ho (fun z=>[(0,.ipt 1 [[.isl 6 (map zc a)]] 0 0),(2,sA d),(7,.mpt 0 0 0),(10,.msl 1 0 (length e)),(11,iA z)]) (fun z=>[some (10,[[sA [],.lit (.slice none 0 0),sA [],bA false,bA false,iA 0,iA 0,.lit (.slice none 0 0),.lit (.slice none 0 0),.lit (.slice none 0 0)]]),some (1,map zw e)]) (fun b=>[(7,.mpt 0 0 0)]) (fun b=>[some (10,[[sA [],.lit (.slice none 0 0),sA [],bA false,bA false,iA 0,iA 0,.lit (.slice none 0 0),.lit (.slice none 0 0),.lit (.slice none 0 0)]])]) (pG Tryz.f258 (fun r=>.tup [sA r.1,.agg (zd r.2.1),bA r.2.2])) (zaf [.old 0,.old 3]) ?_ ?_
  ·rintro v r h
   refine zf<|A ?_
   refine zeh h y (fun i h=>?_) fun i h=>?_
   ·refine ze<|zf<|zi ?_
    obtain ⟨x,B,C,D,n,E,h⟩:=bs3 h
    refine rdA [(0,_),(2,_),(7,_),(10,_),(11,_),(12,_)] [some (10,[[sA [],.lit (.slice none 0 0),sA [],bA false,bA false,iA 0,iA 0,.lit (.slice none 0 0),.lit (.slice none 0 0),.lit (.slice none 0 0)]]),some (1,map zw e),some (6,[(zc n)])] [12,13] [0,1,2,3,4,5,6,7,8,9,10,11] [(54,_),(53,_),(52,_),(51,_),(50,_),(49,_),(48,_),(47,_),(46,_),(45,_),(44,_),(43,_)] 2 (zcq (z:=by exact ⟨(fun _ _=>⟨_,y,y,al 2 ti y<|⟨(.mpt 2 0 0),[],[(12,_)],y,y,y,y,zcq (z:=by exact ⟨nv,(fun _ _=>⟨_,y,y,sto ti y y y<|⟨.any,[],[],y,y,y,t,zcw (z:=zaf [.old 0,.old 1,.old 2])⟩⟩),t⟩)⟩⟩),nw,t⟩)) ?_
    obtain ⟨F,G,h⟩:=bs h
    refine A ?_
    refine A ?_
    refine zeh h y (fun j h=>?_) fun j h=>?_
    ·obtain ⟨H,I,p,J,h⟩:=bs2 h
     refine rdA [(6,_),(7,_),(8,_)] [some (10,[(zd p)])] [10] [0,1,2,3,4,5,6,7,8,9] [(6,_),(68,_),(67,_),(66,_),(65,_),(64,_),(63,_),(62,_),(61,_),(60,_)] 1 (zcq (z:=by exact ⟨(fun _ _=>⟨_,y,y,sto ti y y y<|⟨.any,[11],[(8,_)],y,y,y,t,zcw (z:=zaf [.old 0])⟩⟩),t⟩)) ?_
     refine zy ?_
     obtain rfl:=sm h
     exact ⟨_,y,_,y,zad []⟩
    ·refine ze<|A ?_
     obtain rfl:=sm h
     exact ⟨_,y,zo [.old 0,.old 1]⟩
   ·refine zq ?_
    obtain rfl:=sm h
    exact ⟨y,_,y,zo [.old 0]⟩
  ·rintro ⟨⟩ rfl
   refine zn<|A ?_
   exact RT0⟩
def zou:Option (T0×zb×Bool):=
  some ([],(zb.mk [] [] [] false false 0 0 [] [] []),false)
def zdj(e:List za)(f:T0)(d:T1)(a:Int):Option (Sum (Int) (Sum (Unit) (T0×zb×Bool))):=
  cond (decide (a<((length d):Int))) ((idx d a).bind fun i=>(zU e i).bind fun j=>(idx e j).bind fun b=>(zeb b f).bind fun c=>cond ((decide (0≤c))&&(!(f == [36,105,110,105,116]))) ((idx d a).bind fun l=>(idx b.Methods c).bind fun m=>some (.inr (.inr (l,m,true)))) (some (.inl (IntKind.i64.wrap (a+1))))) (some (.inr (.inl ())))
def ze4(a:List za)(c:T0)(d:T0):Option (T0×zb×Bool):=
  (zaI a c).bind fun e=>(zl (fun z=>zdj a d e z) 0).bind fun o=>zD o (fun b=>zou) some
instance (a:List za)(e:T0)(d:T0):PF Tryz.prog 157 [.ipt 1 [[.isl 6 (map zc a)]] 0 0,sA e,sA d] (ze4 a e d) (fun r=>(.tup [sA r.1,.agg (zd r.2.1),bA r.2.2])):=⟨fun r h=>by
 refine zh Tryz.func157 y kz y y<|A ?_
 obtain ⟨c,m,h⟩:=bs h
 refine A ?_
 refine u<|sx [] (zaL a e m)<|zv (env0:=[(0,.ipt 1 [[.isl 6 (map zc a)]] 0 0),(2,sA d),(7,.mpt 0 0 0),(15,.msl 1 0 (length c))]) (st0:=[some (10,[[sA [],.lit (.slice none 0 0),sA [],bA false,bA false,iA 0,iA 0,.lit (.slice none 0 0),.lit (.slice none 0 0),.lit (.slice none 0 0)]]),some (1,map zw c)]) (zo [.old 0,.old 1])<|A ?_
 refine zf<|A ?_
 obtain ⟨o,ho,h⟩:=bs h
 refine lpB ho (fun z=>[(0,.ipt 1 [[.isl 6 (map zc a)]] 0 0),(2,sA d),(7,.mpt 0 0 0),(9,.msl 1 0 (length c)),(10,iA z)]) (fun z=>[some (10,[[sA [],.lit (.slice none 0 0),sA [],bA false,bA false,iA 0,iA 0,.lit (.slice none 0 0),.lit (.slice none 0 0),.lit (.slice none 0 0)]]),some (1,map zw c)]) (fun b=>[(7,.mpt 0 0 0)]) (fun b=>[some (10,[[sA [],.lit (.slice none 0 0),sA [],bA false,bA false,iA 0,iA 0,.lit (.slice none 0 0),.lit (.slice none 0 0),.lit (.slice none 0 0)]])]) (pG Tryz.f157 (fun r=>.tup [sA r.1,.agg (zd r.2.1),bA r.2.2])) (zaf [.old 0,.old 1]) ?_ ?_
 ·rintro n r h
  refine zf<|A ?_
  refine zeh h y (fun f h=>?_) fun f h=>?_
  ·refine ze<|zf<|zi ?_
   obtain ⟨p,q,s,v,j,x,h⟩:=bs3 h
   refine rdA [(0,_),(2,_),(7,_),(9,_),(10,_),(11,_)] [some (10,[[sA [],.lit (.slice none 0 0),sA [],bA false,bA false,iA 0,iA 0,.lit (.slice none 0 0),.lit (.slice none 0 0),.lit (.slice none 0 0)]]),some (1,map zw c),some (6,[(zc j)])] [12,13] [0,1,2,3,4,5,6,7,8,9,10,11] [(33,_),(32,_),(31,_),(30,_),(29,_),(28,_),(27,_),(26,_),(25,_),(24,_),(23,_),(22,_)] 2 (zcq (z:=by exact ⟨(fun _ _=>⟨_,y,y,al 2 ti y<|⟨(.mpt 2 0 0),[],[(11,_)],y,y,y,y,zcq (z:=by exact ⟨nv,(fun _ _=>⟨_,y,y,sto ti y y y<|⟨.any,[],[],y,y,y,t,zcw (z:=zaf [.old 0,.old 1,.old 2])⟩⟩),t⟩)⟩⟩),nw,t⟩)) ?_
   obtain ⟨B,C,h⟩:=bs h
   refine A ?_
   refine A ?_
   refine zeh h y (fun i h=>?_) fun i h=>?_
   ·obtain ⟨D,E,l,F,h⟩:=bs2 h
    refine rdA [(6,_),(7,_),(8,_)] [some (10,[(zd l)])] [10] [0,1,2,3,4,5,6,7,8,9] [(6,_),(51,_),(50,_),(49,_),(48,_),(47,_),(46,_),(45,_),(44,_),(43,_)] 1 (zcq (z:=by exact ⟨(fun _ _=>⟨_,y,y,sto ti y y y<|⟨.any,[11],[(8,_)],y,y,y,t,zcw (z:=zaf [.old 0])⟩⟩),t⟩)) ?_
    refine zy ?_
    obtain rfl:=sm h
    exact ⟨_,y,_,y,zad []⟩
   ·refine ze<|A ?_
    obtain rfl:=sm h
    exact ⟨_,y,zo [.old 0,.old 1]⟩
  ·refine zq ?_
   obtain rfl:=sm h
   exact ⟨y,_,y,zo [.old 0]⟩
 ·rintro ⟨⟩ rfl
  refine zn<|A ?_
  exact RT0⟩
def zbv(e:List za)(f:T0)(i:zb)(j:T1)(a:zb)(b:T1)(c:Bool):Option (T1×Bool):=
  cond (!(a.Ret == [86])) ((zT e f i j b c a.Ret).bind fun d=>some (d.1,d.2)) (some (b,c))
def za5(b:List za)(c:T0)(f:zb)(i:T1)(o:T1)(m:Bool)(n:zp)(d:zb)(p:T0)(j:Bool):Option (T1×Bool):=
  cond (m||(!j)) (some (o,(m||(!j)))) ((zW b c f i o (m||(!j)) d.Params).bind fun e=>cond (!(n.Op == (42:Int))) ((zap b c f i e.1 e.2).bind fun a=>(zbV b a.1 n.C).bind fun l=>cond (n.Op == (44:Int)) ((zaI b c).bind fun q=>(zkz q p).bind fun s=>cond s ((zbV b a.1 c).bind fun v=>zbv b c f i d a.2.1 ((a.2.2||(!l))||(!v))) (zbv b c f i d a.2.1 ((a.2.2||(!l))||(!false)))) (zbv b c f i d a.2.1 (a.2.2||(!l)))) (zbv b c f i d e.1 e.2))
def zeG(c:List za)(e:T0)(f:zb)(i:T1)(j:T1)(l:Bool)(a:zp):Option (T1×Bool):=
  cond (a.Op == (45:Int)) ((zhl c a.C a.M).bind fun d=>za5 c e f i j l a d.2.1 d.1 d.2.2) ((ze4 c a.C a.M).bind fun b=>za5 c e f i j l a b.2.1 b.1 ((b.2.2&&(b.2.1.Static == (a.Op == (42:Int))))&&(!b.2.1.Abstract)))
theorem znG(b:List za)(c:T0)(d:zb)(e:T1)(o:T1)(p:Bool)(j:zp){r:T1×Bool}(h:zeG b c d e o p j=some r):SC Tryz.prog 207 [.mpt 0 0 0,.agg (zt j)] (tR b c d e o p []) (.tup []) (tR b c d e r.1 r.2 []):=by
 refine ⟨⟨t,t⟩,zX Tryz.func207 y kz y ?_⟩
 refine A ?_
 refine A ?_
 refine A ?_
 refine zal (X:=zb×T0×Bool) (fun z=>[(0,.mpt 0 0 0),(3,.mpt 1 0 0),(4,.mpt 2 0 0),(5,sA z.2.1),(6,bA z.2.2)]) (fun z=>(sR b c d e o p [some (4,[(zt j)]),some (10,[(zd z.1)])])) (fun z=>za5 b c d e o p j z.1 z.2.1 z.2.2=some r) ?_ ?_
 ·refine A ?_
  refine zeh h y (fun H h=>?_) fun H h=>?_
  ·obtain ⟨C,S,h⟩:=bs h
   refine zjQ [(0,_),(3,_),(4,_),(5,_),(6,_)] (sR b c d e o p [some (4,[(zt j)]),some (10,[(zd C.2.1)])]) [14] [0,1,2,3,4,5,6,7,8,9,10,11,12,13] [(5,_),(23,_),(22,_),(21,_),(11,_),(20,_),(19,_),(18,_),(17,_),(16,_),(15,_),(14,_),(13,_),(12,_)] 1 (zcq (z:=by exact ⟨(fun _ _=>⟨_,y,y,sto ti y y y<|⟨.any,[15],[(6,_)],y,y,y,t,zcw (z:=zaf [.old 0,.old 1,.old 2])⟩⟩),t⟩)) ?_
   exact ⟨⟨C.2.1,C.1,C.2.2⟩,h,zo [.old 0,.old 1,.old 2]⟩
  ·obtain ⟨x,T,h⟩:=bs h
   refine rdA [(0,_),(3,_),(4,_),(5,_),(6,_)] (sR b c d e o p [some (4,[(zt j)]),some (10,[(zd x.2.1)])]) [14] [0,1,2,3,4,5,6,7,8,9,10,11,12,13] [(5,_),(36,_),(35,_),(34,_),(24,_),(33,_),(32,_),(31,_),(30,_),(29,_),(28,_),(27,_),(26,_),(25,_)] 1 (zcq (z:=by exact ⟨(fun _ _=>⟨_,y,y,sto ti y y y<|⟨.any,[15],[(6,_)],y,y,y,t,zcw (z:=zaf [.old 0,.old 1,.old 2])⟩⟩),t⟩)) ?_
   refine A ?_
   exact (⟨⟨x.2.1,x.1,((x.2.2&&(x.2.1.Static == (j.Op == (42:Int))))&&(!x.2.1.Abstract))⟩,h,zo [.old 0,.old 1,.old 2]⟩)
 ·rintro ⟨f,l,B⟩ h
  refine A ?_
  refine u<|sx [0] (zm b c d e o p B y)<|zv (env0:=[(0,.mpt 0 0 0),(3,.mpt 1 0 0),(4,.mpt 2 0 0),(5,sA l)]) (st0:=(sR b c d e o (p||(!B)) [some (4,[(zt j)]),some (10,[(zd f)])])) (zo [.old 0,.old 1,.old 2])<|zx ?_
  refine zf<|A ?_
  refine zeh h y (fun I h=>?_) fun I h=>?_
  ·exact RT1
  ·refine ze ?_
   obtain ⟨m,O,h⟩:=bs h
   refine A ?_
   refine u<|sx [0] (zZ b c d e o (p||(!B)) f.Params O)<|zv (env0:=[(0,.mpt 0 0 0),(3,.mpt 1 0 0),(4,.mpt 2 0 0),(5,sA l)]) (st0:=(sR b c d e m.1 m.2 [some (4,[(zt j)]),some (10,[(zd f)])])) (zo [.old 0,.old 1,.old 2])<|zx ?_
   refine zal (X:=T1×Bool) (fun z=>[(0,.mpt 0 0 0),(4,.mpt 1 0 0)]) (fun z=>(sR b c d e z.1 z.2 [some (10,[(zd f)])])) (fun z=>zbv b c d e f z.1 z.2=some r) ?_ ?_
   ·refine A ?_
    refine zeh h y (fun J h=>?_) fun J h=>?_
    ·obtain ⟨a,P,h⟩:=bs h
     refine rg y<|u<|mv y<|u<|sx [0] (zaJ b c d e m.1 m.2 P)<|zv (env0:=[(0,.mpt 0 0 0),(3,.mpt 1 0 0),(4,.mpt 2 0 0),(5,sA l),(66,sA a.1)]) (st0:=(sR b c d e a.2.1 a.2.2 [some (4,[(zt j)]),some (10,[(zd f)])])) (zo [.old 0,.old 1,.old 2])<|A ?_
     obtain ⟨i,Q,h⟩:=bs h
     refine rdA [(0,_),(3,_),(4,_),(5,_),(7,_)] (sR b c d e a.2.1 (a.2.2||(!i)) [some (4,[(zt j)]),some (10,[(zd f)])]) [9] [0,1,2,3,4,5,6,7,8] [(75,_),(74,_),(73,_),(72,_),(71,_),(70,_),(69,_),(68,_),(67,_)] 1 (zcq (z:=by exact ⟨(fun _ _=>⟨_,y,y,sx [0] (zm b c d e a.2.1 a.2.2 i y)<|⟨(.tup []),[],[(76,_)],y,y,y,y,zcw (z:=zaf [.old 0,.old 1,.old 2])⟩⟩),t⟩)) ?_
     refine A ?_
     refine zeh h y (fun F h=>?_) fun F h=>?_
     ·obtain ⟨n,D,K,s,h⟩:=bs2 h
      rcases bb K with q |q
      ·replace h:=bT q h
       obtain ⟨v,R,h⟩:=bs h
       refine zjQ [(0,.mpt 0 0 0),(4,.mpt 1 0 0)] (sR b c d e a.2.1 ((a.2.2||(!i))||(!v)) [some (10,[(zd f)])]) [9,24] [0,1,2,3,4,5,6,7,8,10] [(90,_),(88,_),(87,_),(86,_),(85,_),(84,_),(83,_),(82,_),(81,_),(80,_)] 2 (zcq (z:=by exact ⟨(fun _ _=>⟨_,y,y,sx [] (zaL b c D)<|⟨(.msl 3 0 (length n)),[11,12,13,14,15,16,17,18,19,20,21,22,23],[(103,_),(102,_),(101,_),(100,_),(99,_),(98,_),(97,_),(96,_),(95,_),(94,_),(93,_),(92,_),(91,_),(89,_)],y,y,y,y,zcq ⟨(by exact pb y (pcs (zgW n l s) y y (.cons (zhE y (fun _=>y)) (.cons (si y) .nil)) zbI<|w)),peC,peC,peC,peC,peC,peC,peC,peC,peC,peC,peC,peC,peC,peC,peC,peC,peC,peC,peC,peC,peC,peC,t⟩ (by exact ⟨nv,(fun _ _=>⟨_,y,y,sc [0] (args:=[.mpt 0 0 0,bA v]) (zm b c d e a.2.1 (a.2.2||(!i)) v y) y y y y ⟨(.mpt y),(rnI y),t⟩ ⟨⟨_,y,(zuQ y)⟩,t⟩<|⟨(.tup []),[],[(104,_)],y,y,y,y,zcw ⟨(by exact pb y (pcs (zgW n l s) y y (.cons (zhE y (fun _=>y)) (.cons (si y) .nil)) zbI<|w)),peC,peC,peC,peC,peC,peC,peC,peC,peC,peC,peC,peC,peC,peC,peC,peC,peC,peC,peC,peC,peC,peC,t⟩ (zaf [.old 0,.old 2])⟩⟩),t⟩)⟩⟩),nw,t⟩)) ?_
       exact ⟨⟨a.2.1,((a.2.2||(!i))||(!v))⟩,h,zo [.old 0,.old 1]⟩
      ·replace h:=bF q h
       refine zjQ [(0,.mpt 0 0 0),(4,.mpt 1 0 0)] (sR b c d e a.2.1 ((a.2.2||(!i))||(!false)) [some (10,[(zd f)])]) [9,24] [0,1,2,3,4,5,6,7,8,10] [(90,_),(88,_),(87,_),(86,_),(85,_),(84,_),(83,_),(82,_),(81,_),(80,_)] 2 (zcq (z:=by exact ⟨(fun _ _=>⟨_,y,y,sx [] (zaL b c D)<|⟨(.msl 3 0 (length n)),[11,12,13,14,15,16,17,18,19,20,21,22,23],[(103,_),(102,_),(101,_),(100,_),(99,_),(98,_),(97,_),(96,_),(95,_),(94,_),(93,_),(92,_),(91,_),(89,_)],y,y,y,y,zcq ⟨(by exact pb y (pcs (zgW n l s) y y (.cons (zhE y (fun _=>y)) (.cons (si y) .nil)) zbI<|w)),peC,peC,peC,peC,peC,peC,peC,peC,peC,peC,peC,peC,peC,peC,peC,peC,peC,peC,peC,peC,peC,peC,t⟩ (by exact ⟨nv,(fun _ _=>⟨_,y,y,sc [0] (args:=[.mpt 0 0 0,bA false]) (zm b c d e a.2.1 (a.2.2||(!i)) false y) y y y y ⟨(.mpt y),(rnI y),t⟩ ⟨⟨_,y,(zuQ y)⟩,t⟩<|⟨(.tup []),[],[(104,_)],y,y,y,y,zcw ⟨(by exact pb y (pcs (zgW n l s) y y (.cons (zhE y (fun _=>y)) (.cons (si y) .nil)) zbI<|w)),peC,peC,peC,peC,peC,peC,peC,peC,peC,peC,peC,peC,peC,peC,peC,peC,peC,peC,peC,peC,peC,peC,t⟩ (zaf [.old 0,.old 2])⟩⟩),t⟩)⟩⟩),nw,t⟩)) ?_
       exact ⟨⟨a.2.1,((a.2.2||(!i))||(!false))⟩,h,zo [.old 0,.old 1]⟩
     ·refine ze ?_
      exact ⟨⟨a.2.1,(a.2.2||(!i))⟩,h,zo [.old 0,.old 2]⟩
    ·refine ze ?_
     exact ⟨⟨m.1,m.2⟩,h,zo [.old 0,.old 2]⟩
   ·rintro ⟨L,M⟩ h
    refine A ?_
    refine zeh h y (fun G h=>?_) fun G h=>?_
    ·obtain ⟨E,N,h⟩:=bs h
     refine A ?_
     refine u<|sx [0] (zQ b c d e L M f.Ret N)<|zv (env0:=[]) (st0:=(sR b c d e E.1 E.2 [])) (zo [.old 0])<|zx ?_
     obtain rfl:=sm h
     exact ⟨_,y,zad [.old 0]⟩
    ·refine ze ?_
     obtain rfl:=sm h
     exact ⟨_,y,zad [.old 0]⟩
def znv(a:T0):Option (T0):=
  (zCw [91] a).bind fun b=>(zht b).bind fun c=>cond (!c) (some []) ((zCw [91] a).bind fun d=>some d)
instance (a:T0):PF Tryz.prog 259 [sA a] (znv a) sA:=⟨fun r h=>by
 refine zh Tryz.func259 y kz y y<|A ?_
 refine zf ?_
 obtain ⟨c,d,e,f,h⟩:=bs2 h
 refine A ?_
 refine zeh h y (fun b h=>?_) fun b h=>?_
 ·refine A ?_
  exact RT0
 ·refine ze ?_
  obtain ⟨i,j,h⟩:=bs h
  refine A ?_
  exact RT0⟩
def zo3(a:T0):Option (T0×Bool):=
  (zht a).bind fun b=>(cond (!b) (some true) ((idx a 0).bind fun c=>some (!((c.toNat:Int) == (91:Int))))).bind fun d=>cond d (some ([],false)) ((zkM a 1 (length a:Int)).bind fun e=>some (e,true))
instance (c:T0):PF Tryz.prog 279 [sA c] (zo3 c) (fun r=>(.tup [sA r.1,bA r.2])):=⟨fun r h=>by
 refine zh Tryz.func279 y kz y y<|A ?_
 refine zf ?_
 obtain ⟨f,i,j,l,h⟩:=bs2 h
 refine A ?_
 refine zeh h y (fun d h=>?_) fun d h=>?_
 ·refine A ?_
  exact RT0
 ·refine ze ?_
  obtain ⟨m,e,h⟩:=bs h
  refine rg y<|u<|mv y<|u<|slS (a:=1) (b:=(length c:Int)) ti y y (zlZ y e) y e<|A ?_
  exact RT0⟩
def zfj(c:List za)(d:T0)(e:zb)(f:T1)(i:T1)(j:Bool):Option (T0×T1×Bool):=
  (zap c d e f i j).bind fun a=>cond (a.1 == [78]) (some ([78],a.2.1,a.2.2)) ((zo3 a.1).bind fun b=>some (b.1,a.2.1,(a.2.2||(!(b.2&&(!(b.1 == [73])))))))
theorem ziV(a:List za)(b:T0)(c:zb)(d:T1)(i:T1)(j:Bool){r:T0×T1×Bool}(h:zfj a b c d i j=some r):SC Tryz.prog 260 [.mpt 0 0 0] (tR a b c d i j []) (sA r.1) (tR a b c d r.2.1 r.2.2 []):=by
 refine ⟨⟨t,t⟩,zX Tryz.func260 y kz y ?_⟩
 refine A ?_
 obtain ⟨e,m,h⟩:=bs h
 refine rg y<|u<|mv y<|u<|sx [0] (zaJ a b c d i j m)<|zv (env0:=[(0,.mpt 0 0 0),(7,sA e.1)]) (st0:=(sR a b c d e.2.1 e.2.2 [])) (zo [.old 0])<|A ?_
 refine zf<|A ?_
 refine zeh h y (fun l h=>?_) fun l h=>?_
 ·refine A ?_
  exact RT1
 ·refine ze ?_
  obtain ⟨f,n,h⟩:=bs h
  refine A ?_
  refine A ?_
  refine u<|sx [0] (zm a b c d e.2.1 e.2.2 (f.2&&(!(f.1 == [73]))) y)<|zv (env0:=[(4,sA f.1)]) (st0:=(sR a b c d e.2.1 (e.2.2||(!(f.2&&(!(f.1 == [73]))))) [])) (zo [.old 0])<|zx ?_
  refine A ?_
  exact RT1
def zaX(a:List za)(b:T0)(c:zb)(d:T1)(e:T1)(f:Bool)(i:zp):Option (T1×Bool):=
  cond (i.Op == (49:Int)) ((zW a b c d e f ([[73]])).bind fun G=>(zT a b c d G.1 G.2 [91,73]).bind fun H=>some (H.1,H.2)) (cond (i.Op == (50:Int)) ((znv i.C).bind fun l=>(cond (!(l == [])) ((zL a l).bind fun I=>some I) (some false)).bind fun J=>(zW a b c d e (f||(!J)) ([[73]])).bind fun n=>(zT a b c d n.1 n.2 l).bind fun o=>some (o.1,o.2)) (cond (i.Op == (51:Int)) ((zap a b c d e f).bind fun j=>(cond (j.1 == [78]) (some true) ((cond (decide (1<(length j.1:Int))) ((idx j.1 0).bind fun K=>some ((K.toNat:Int) == (91:Int))) (some false)).bind fun L=>some L)).bind fun M=>(zT a b c d j.2.1 (j.2.2||(!M)) [73]).bind fun p=>some (p.1,p.2)) (cond (i.Op == (52:Int)) ((zW a b c d e f ([[91,73],[73]])).bind fun q=>(zT a b c d q.1 q.2 [73]).bind fun s=>some (s.1,s.2)) (cond (i.Op == (53:Int)) ((zW a b c d e f ([[91,73],[73],[73]])).bind fun v=>some (v.1,v.2)) (cond (i.Op == (54:Int)) ((zW a b c d e f ([[73]])).bind fun x=>(zfj a b c d x.1 x.2).bind fun m=>(zT a b c d m.2.1 m.2.2 m.1).bind fun B=>some (B.1,B.2)) (cond (i.Op == (55:Int)) ((zbT a b c d e f).bind fun D=>(zW a b c d D.2.1 D.2.2 ([[73]])).bind fun E=>(zfj a b c d E.1 E.2).bind fun F=>some (F.2.1,F.2.2)) (some (e,f))))))))
theorem zmp(a:List za)(b:T0)(c:zb)(d:T1)(e:T1)(f:Bool)(M:zp){r:T1×Bool}(h:zaX a b c d e f M=some r):SC Tryz.prog 208 [.mpt 0 0 0,.agg (zt M)] (tR a b c d e f []) (.tup []) (tR a b c d r.1 r.2 []):=by
 refine ⟨⟨t,t⟩,zX Tryz.func208 y kz y ?_⟩
 refine A ?_
 refine A ?_
 refine zi<|A ?_
 refine zeh h y (fun N h=>?_) fun N h=>?_
 ·obtain ⟨x,q2,h⟩:=bs h
  refine A ?_
  refine zv (env0:=[(0,.mpt 0 0 0),(10,.mpt 0 0 0),(11,.isl 1 (map zw ([[73]])))]) (st0:=(sR a b c d e f [])) (zo [.old 0])<|u<|sx [0] (zZ a b c d e f ([[73]]) q2)<|zv (env0:=[(0,.mpt 0 0 0)]) (st0:=(sR a b c d x.1 x.2 [])) (zo [.old 0])<|zx ?_
  obtain ⟨O,q3,h⟩:=bs h
  refine rl y<|u<|mv y<|u<|sx [0] (zQ a b c d x.1 x.2 [91,73] q3)<|zv (env0:=[]) (st0:=(sR a b c d O.1 O.2 [])) (zo [.old 0])<|zx ?_
  obtain rfl:=sm h
  exact ⟨_,y,zad [.old 0]⟩
 ·refine A ?_
  refine zeh h y (fun P h=>?_) fun P h=>?_
  ·obtain ⟨m,q5,h⟩:=bs h
   refine A ?_
   obtain ⟨n,q8,h⟩:=bs h
   refine A ?_
   refine u<|sx [0] (zm a b c d e f n y)<|zv (env0:=[(0,.mpt 0 0 0),(4,sA m)]) (st0:=(sR a b c d e (f||(!n)) [])) (zo [.old 0])<|zx ?_
   obtain ⟨o,q9,h⟩:=bs h
   refine A ?_
   refine zv (env0:=[(0,.mpt 0 0 0),(4,sA m),(32,.mpt 0 0 0),(33,.isl 1 (map zw ([[73]])))]) (st0:=(sR a b c d e (f||(!n)) [])) (zo [.old 0])<|u<|sx [0] (zZ a b c d e (f||(!n)) ([[73]]) q9)<|zv (env0:=[(0,.mpt 0 0 0),(4,sA m)]) (st0:=(sR a b c d o.1 o.2 [])) (zo [.old 0])<|zx ?_
   obtain ⟨B,Q,h⟩:=bs h
   refine A ?_
   refine u<|sx [0] (zQ a b c d o.1 o.2 m Q)<|zv (env0:=[]) (st0:=(sR a b c d B.1 B.2 [])) (zo [.old 0])<|zx ?_
   obtain rfl:=sm h
   exact ⟨_,y,zad [.old 0]⟩
  ·refine A ?_
   refine zeh h y (fun H h=>?_) fun H h=>?_
   ·obtain ⟨i,R,h⟩:=bs h
    refine rg y<|u<|mv y<|u<|sx [0] (zaJ a b c d e f R)<|zv (env0:=[(0,.mpt 0 0 0),(41,sA i.1)]) (st0:=(sR a b c d i.2.1 i.2.2 [])) (zo [.old 0])<|A ?_
    obtain ⟨v,q17,h⟩:=bs h
    refine A ?_
    refine u<|sx [0] (zm a b c d i.2.1 i.2.2 v y)<|zv (env0:=[(0,.mpt 0 0 0)]) (st0:=(sR a b c d i.2.1 (i.2.2||(!v)) [])) (zo [.old 0])<|zx ?_
    obtain ⟨C,S,h⟩:=bs h
    refine rl y<|u<|mv y<|u<|sx [0] (zQ a b c d i.2.1 (i.2.2||(!v)) [73] S)<|zv (env0:=[]) (st0:=(sR a b c d C.1 C.2 [])) (zo [.old 0])<|zx ?_
    obtain rfl:=sm h
    exact ⟨_,y,zad [.old 0]⟩
   ·refine A ?_
    refine zeh h y (fun I h=>?_) fun I h=>?_
    ·obtain ⟨p,T,h⟩:=bs h
     refine A ?_
     refine zv (env0:=[(0,.mpt 0 0 0),(60,.mpt 0 0 0),(61,.isl 1 (map zw ([[91,73],[73]])))]) (st0:=(sR a b c d e f [])) (zo [.old 0])<|u<|sx [0] (zZ a b c d e f ([[91,73],[73]]) T)<|zv (env0:=[(0,.mpt 0 0 0)]) (st0:=(sR a b c d p.1 p.2 [])) (zo [.old 0])<|zx ?_
     obtain ⟨D,U,h⟩:=bs h
     refine rl y<|u<|mv y<|u<|sx [0] (zQ a b c d p.1 p.2 [73] U)<|zv (env0:=[]) (st0:=(sR a b c d D.1 D.2 [])) (zo [.old 0])<|zx ?_
     obtain rfl:=sm h
     exact ⟨_,y,zad [.old 0]⟩
    ·refine A ?_
     refine zeh h y (fun J h=>?_) fun J h=>?_
     ·obtain ⟨E,V,h⟩:=bs h
      refine A ?_
      refine zv (env0:=[(67,.mpt 0 0 0),(68,.isl 1 (map zw ([[91,73],[73],[73]])))]) (st0:=(sR a b c d e f [])) (zo [.old 0])<|u<|sx [0] (zZ a b c d e f ([[91,73],[73],[73]]) V)<|zv (env0:=[]) (st0:=(sR a b c d E.1 E.2 [])) (zo [.old 0])<|zx ?_
      obtain rfl:=sm h
      exact ⟨_,y,zad [.old 0]⟩
     ·refine A ?_
      refine zeh h y (fun K h=>?_) fun K h=>?_
      ·obtain ⟨q,W,h⟩:=bs h
       refine A ?_
       refine zv (env0:=[(0,.mpt 0 0 0),(72,.mpt 0 0 0),(73,.isl 1 (map zw ([[73]])))]) (st0:=(sR a b c d e f [])) (zo [.old 0])<|u<|sx [0] (zZ a b c d e f ([[73]]) W)<|zv (env0:=[(0,.mpt 0 0 0)]) (st0:=(sR a b c d q.1 q.2 [])) (zo [.old 0])<|zx ?_
       obtain ⟨j,X,F,Y,h⟩:=bs2 h
       refine rl y<|u<|mv y<|u<|mv y<|u<|sx [0] (ziV a b c d q.1 q.2 X)<|zv (env0:=[(75,.mpt 0 0 0),(77,sA j.1)]) (st0:=(sR a b c d j.2.1 j.2.2 [])) (zo [.old 0])<|u<|sx [0] (zQ a b c d j.2.1 j.2.2 j.1 Y)<|zv (env0:=[]) (st0:=(sR a b c d F.1 F.2 [])) (zo [.old 0])<|zx ?_
       obtain rfl:=sm h
       exact ⟨_,y,zad [.old 0]⟩
      ·refine A ?_
       refine zeh h y (fun L h=>?_) fun L h=>?_
       ·obtain ⟨l,Z,h⟩:=bs h
        refine rg y<|u<|mv y<|u<|sx [0] (zco a b c d e f Z)<|zv (env0:=[(0,.mpt 0 0 0)]) (st0:=(sR a b c d l.2.1 l.2.2 [])) (zo [.old 0])<|zx ?_
        obtain ⟨s,q30,h⟩:=bs h
        refine A ?_
        refine zv (env0:=[(0,.mpt 0 0 0),(83,.mpt 0 0 0),(84,.isl 1 (map zw ([[73]])))]) (st0:=(sR a b c d l.2.1 l.2.2 [])) (zo [.old 0])<|u<|sx [0] (zZ a b c d l.2.1 l.2.2 ([[73]]) q30)<|zv (env0:=[(0,.mpt 0 0 0)]) (st0:=(sR a b c d s.1 s.2 [])) (zo [.old 0])<|zx ?_
        obtain ⟨G,q31,h⟩:=bs h
        refine rl y<|u<|mv y<|u<|sx [0] (ziV a b c d s.1 s.2 q31)<|zv (env0:=[]) (st0:=(sR a b c d G.2.1 G.2.2 [])) (zo [.old 0])<|zx ?_
        obtain rfl:=sm h
        exact ⟨_,y,zad [.old 0]⟩
       ·refine ze ?_
        obtain rfl:=sm h
        exact ⟨_,y,zad [.old 0]⟩
def zbQ(f:List za)(i:T0)(j:zb)(b:T1)(d:T1)(l:zp)(a:Bool):Option (T1×T1×Bool):=
  cond (!a) ((idx b l.A).bind fun e=>(zT f i j b d a e).bind fun c=>some (b,c.1,c.2)) (some (b,d,a))
def zdM(f:List za)(i:T0)(j:zb)(b:T1)(c:T1)(d:Bool)(e:Bool):Option (T1×T1×Bool):=
  cond e ((zW f i j b c d ([[73]])).bind fun a=>some (b,a.1,a.2)) (some (b,c,d))
def zV(d:List za)(e:T0)(c:zb)(a:T1)(f:T1)(i:Bool)(b:zp):Option (T1×T1×Bool):=
  cond (b.Op == (1:Int)) ((zT d e c a f i [73]).bind fun K=>some (a,K.1,K.2)) (cond (b.Op == (2:Int)) ((zT d e c a f i [78]).bind fun L=>some (a,L.1,L.2)) (cond (b.Op == (3:Int)) (cond (decide (b.A<(length a:Int))) ((idx a (if (IntKind.i64.wrap ((length a:Int)-1))<b.A then (IntKind.i64.wrap ((length a:Int)-1)) else b.A)).bind fun M=>zbQ d e c a f b (i||(!(!(M == [84]))))) (zbQ d e c a f b (i||(!false)))) (cond (b.Op == (4:Int)) ((zap d e c a f i).bind fun l=>cond (!(l.2.2||(!(decide (b.A<(length a:Int)))))) ((zdO (zgG.mk a l.2.1)).bind fun n=>(idx n.1 b.A).bind fun R=>some ((List.set n.1 (Int.toNat b.A) l.1),n.2,(l.2.2||(!(decide (b.A<(length a:Int))))))) (some (a,l.2.1,(l.2.2||(!(decide (b.A<(length a:Int)))))))) (cond (b.Op == (5:Int)) ((zap d e c a f i).bind fun s=>some (a,s.2.1,s.2.2)) (cond (b.Op == (6:Int)) ((zap d e c a f i).bind fun m=>(zT d e c a m.2.1 m.2.2 m.1).bind fun v=>(zT d e c a v.1 v.2 m.1).bind fun x=>some (a,x.1,x.2)) (cond (b.Op == (7:Int)) ((zap d e c a f i).bind fun o=>(zap d e c a o.2.1 o.2.2).bind fun p=>(zT d e c a p.2.1 p.2.2 o.1).bind fun B=>(zT d e c a B.1 B.2 p.1).bind fun D=>some (a,D.1,D.2)) (cond (b.Op == (46:Int)) (some (a,f,(i||(!(c.Ret == [86]))))) (cond (b.Op == (47:Int)) ((zW d e c a f i ([[73]])).bind fun E=>some (a,E.1,(E.2||(!(c.Ret == [73]))))) (cond (b.Op == (48:Int)) ((zbT d e c a f i).bind fun j=>cond (!(c.Ret == [86])) (cond (!(c.Ret == [73])) ((zbV d j.1 c.Ret).bind fun N=>some (a,j.2.1,(j.2.2||(!N)))) (some (a,j.2.1,(j.2.2||(!false))))) (some (a,j.2.1,(j.2.2||(!false))))) (cond (b.Op == (56:Int)) ((zbT d e c a f i).bind fun F=>(zL d b.C).bind fun O=>(zT d e c a F.2.1 (F.2.2||(!O)) b.C).bind fun G=>some (a,G.1,G.2)) (cond (b.Op == (57:Int)) ((zbT d e c a f i).bind fun H=>(zL d b.C).bind fun P=>(zT d e c a H.2.1 (H.2.2||(!P)) [73]).bind fun I=>some (a,I.1,I.2)) (cond (b.Op == (58:Int)) ((zap d e c a f i).bind fun q=>(zbV d q.1 [84,104,114,111,119,110]).bind fun Q=>some (a,q.2.1,(q.2.2||(!Q)))) (cond (b.Op == (59:Int)) ((zT d e c a f i [73]).bind fun J=>some (a,J.1,J.2)) (cond (b.Op == (60:Int)) (zdM d e c a f i (b.Op == (60:Int))) (zdM d e c a f i (b.Op == (61:Int)))))))))))))))))
theorem zm6(d:List za)(e:T0)(a:zb)(c:T1)(f:T1)(i:Bool)(m:zp){r:T1×T1×Bool}(h:zV d e a c f i m=some r):SC Tryz.prog 209 [.mpt 0 0 0,.agg (zt m)] (tR d e a c f i []) (.tup []) (tR d e a r.1 r.2.1 r.2.2 []):=by
 refine ⟨⟨t,t⟩,zX Tryz.func209 y kz y ?_⟩
 refine A ?_
 refine A ?_
 refine zi<|A ?_
 refine zeh h y (fun hc1 h=>?_) fun hc1 h=>?_
 ·obtain ⟨v8,q2,h⟩:=bs h
  refine rl y<|u<|mv y<|u<|sx [0] (zQ d e a c f i [73] q2)<|zv (env0:=[]) (st0:=(sR d e a c v8.1 v8.2 [])) (zo [.old 0])<|zx ?_
  obtain rfl:=sm h
  exact ⟨_,y,zad [.old 0]⟩
 ·refine A ?_
  refine zeh h y (fun hc3 h=>?_) fun hc3 h=>?_
  ·obtain ⟨v9,q4,h⟩:=bs h
   refine rl y<|u<|mv y<|u<|sx [0] (zQ d e a c f i [78] q4)<|zv (env0:=[]) (st0:=(sR d e a c v9.1 v9.2 [])) (zo [.old 0])<|zx ?_
   obtain rfl:=sm h
   exact ⟨_,y,zad [.old 0]⟩
  ·refine A ?_
   refine zeh h y (fun hc5 h=>?_) fun hc5 h=>?_
   ·refine zal (X:=Bool) (fun z=>[(0,.mpt 0 0 0),(3,.mpt 1 0 0)]) (fun z=>(sR d e a c f z [some (4,[(zt m)])])) (fun z=>zbQ d e a c f m z=some r) ?_ ?_
    ·rcases bb (decide (m.A<(length c:Int))) with B |B
     ·replace h:=bT B h
      obtain ⟨I,q7,h⟩:=bs h
      exact rdQ [30] [0,1,2,3,4,5,6,7,8,9,10,11,12,13,14,15,16,17,18,19,20,21,22,23,24,25,26,27,28,29] [(50,_),(49,_),(48,_),(47,_),(46,_),(45,_),(44,_),(43,_),(42,_),(41,_),(40,_),(39,_),(38,_),(37,_),(36,_),(35,_),(34,_),(33,_),(32,_),(31,_),(30,_),(29,_),(28,_),(27,_),(26,_),(25,_),(24,_),(23,_),(22,_),(21,_)] 1 (zcq ⟨peC,peC,peC,peC,peC,peC,peC,peC,peC,peC,peC,peC,peC,peC,peC,peC,peC,peC,peC,peC,peC,peC,peC,peC,peC,(by exact fun _=>pag (b:=(decide (m.A<(length c:Int)))) y y y y B y (mnI y y<|w)),peC,peC,peC,peC,t⟩ (by exact ⟨(fun _ _=>⟨_,y,y,sc [0] (args:=[.mpt 0 0 0,bA (!(I == [84]))]) (zm d e a c f i (!(I == [84])) y) y y y y ⟨(.mpt y),(rnI y),t⟩ ⟨⟨_,y,(zuQ y)⟩,t⟩<|⟨(.tup []),[],[(51,_)],y,y,y,y,zcw ⟨peC,peC,peC,peC,peC,peC,peC,peC,peC,peC,peC,peC,peC,peC,peC,peC,peC,peC,peC,peC,peC,peC,peC,peC,peC,(by exact fun _=>pag (b:=(decide (m.A<(length c:Int)))) y y y y B y (mnI y y<|w)),peC,peC,peC,peC,t⟩ (by exact ⟨(i||(!(!(I == [84])))),h,zaf [.old 0,.old 1]⟩)⟩⟩),t⟩))
     ·replace h:=bF B h
      exact rdQ [30] [0,1,2,3,4,5,6,7,8,9,10,11,12,13,14,15,16,17,18,19,20,21,22,23,24,25,26,27,28,29] [(50,_),(49,_),(48,_),(47,_),(46,_),(45,_),(44,_),(43,_),(42,_),(41,_),(40,_),(39,_),(38,_),(37,_),(36,_),(35,_),(34,_),(33,_),(32,_),(31,_),(30,_),(29,_),(28,_),(27,_),(26,_),(25,_),(24,_),(23,_),(22,_),(21,_)] 1 (zcq (z:=by exact ⟨(fun _ _=>⟨_,y,y,sc [0] (args:=[.mpt 0 0 0,bA false]) (zm d e a c f i false y) y y y y ⟨(.mpt y),(rnI y),t⟩ ⟨⟨_,y,(zuQ y)⟩,t⟩<|⟨(.tup []),[],[(51,_)],y,y,y,y,zcw (z:=by exact ⟨(i||(!false)),h,zaf [.old 0,.old 1]⟩)⟩⟩),t⟩))
    ·rintro v11 h
     refine A ?_
     refine zeh h y (fun hc8 h=>?_) fun hc8 h=>?_
     ·obtain ⟨v12,q9,M,q10,h⟩:=bs2 h
      refine zjQ [] (sR d e a c M.1 M.2 []) [10] [0,1,2,3,4,5,6,7,8,9] [(66,_),(65,_),(64,_),(63,_),(62,_),(61,_),(60,_),(59,_),(58,_),(57,_)] 1 (zcq (z:=by exact ⟨(fun _ _=>⟨_,y,y,sx [0] (zQ d e a c f v11 v12 q10)<|⟨(.tup []),[],[(67,_)],y,y,y,y,zcw (z:=zaf [.old 0])⟩⟩),t⟩)) ?_
      obtain rfl:=sm h
      exact ⟨_,y,zad [.old 0]⟩
     ·refine ze ?_
      obtain rfl:=sm h
      exact ⟨_,y,zad [.old 0]⟩
   ·refine A ?_
    refine zeh h y (fun V h=>?_) fun V h=>?_
    ·obtain ⟨l,q12,h⟩:=bs h
     refine rg y<|u<|mv y<|u<|sx [0] (zaJ d e a c f i q12)<|zv (env0:=[(0,.mpt 0 0 0),(3,.mpt 1 0 0),(71,sA l.1)]) (st0:=(sR d e a c l.2.1 l.2.2 [some (4,[(zt m)])])) (zo [.old 0,.old 1])<|A ?_
     refine rdA [(0,_),(3,_),(4,_)] (sR d e a c l.2.1 (l.2.2||(!(decide (m.A<(length c:Int))))) [some (4,[(zt m)])]) [10] [0,1,2,3,4,5,6,7,8,9] [(81,_),(80,_),(79,_),(78,_),(77,_),(76,_),(75,_),(74,_),(73,_),(72,_)] 1 (zcq (z:=by exact ⟨(fun _ _=>⟨_,y,y,sx [0] (zm d e a c l.2.1 l.2.2 (decide (m.A<(length c:Int))) y)<|⟨(.tup []),[],[(82,_)],y,y,y,y,zcw (z:=zaf [.old 0,.old 1])⟩⟩),t⟩)) ?_
     refine A ?_
     refine zeh h y (fun W h=>?_) fun W h=>?_
     ·obtain ⟨v,q14,h⟩:=bs h
      refine A ?_
      refine u<|sx [] (zh6 (zgG.mk c l.2.1) q14)<|zv (env0:=[(0,.mpt 0 0 0),(3,.mpt 1 0 0),(4,sA l.1),(88,.mpt 0 0 0),(93,.agg [.msl 2 0 (length v.1),.msl 3 0 (length v.2)])]) (st0:=(sR d e a c l.2.1 (l.2.2||(!(decide (m.A<(length c:Int))))) [some (4,[(zt m)]),some (1,map zw v.1),some (1,map zw v.2)])) (zo [.old 0,.old 1,.old 2,.old 3])<|A ?_
      obtain ⟨v16,q15,h⟩:=bs h
      refine zjQ [] (sR d e a (List.set v.1 (Int.toNat m.A) l.1) v.2 (l.2.2||(!(decide (m.A<(length c:Int))))) []) [9] [0,1,2,3,4,5,6,7,8] [(104,_),(103,_),(102,_),(101,_),(100,_),(99,_),(98,_),(97,_),(96,_)] 1 (zcq (z:=by exact ⟨(fun _ _=>⟨_,y,y,zE6 (c':=l.1) ti y y (zaj q15).2.2 y y y y y<|⟨.any,[],[],y,y,y,t,zcw (z:=by exact ⟨[.old 0],cn,y,⟨⟨_,y,zhR (zyO y (by exact ⟨zD1 (by simp) y y (fun _=>y),zl9 y y (fun _=>y),ci y,t⟩))⟩,t⟩,y,k⟩)⟩⟩),t⟩)) ?_
      obtain rfl:=sm h
      exact ⟨_,y,zad [.old 0]⟩
     ·refine ze ?_
      obtain rfl:=sm h
      exact ⟨_,y,zad [.old 0]⟩
    ·refine A ?_
     refine zeh h y (fun Y h=>?_) fun Y h=>?_
     ·obtain ⟨N,q17,h⟩:=bs h
      refine rl y<|u<|mv y<|u<|sx [0] (zaJ d e a c f i q17)<|zv (env0:=[]) (st0:=(sR d e a c N.2.1 N.2.2 [])) (zo [.old 0])<|zx ?_
      obtain rfl:=sm h
      exact ⟨_,y,zad [.old 0]⟩
     ·refine A ?_
      refine zeh h y (fun Z h=>?_) fun Z h=>?_
      ·obtain ⟨n,q19,h⟩:=bs h
       refine rg y<|u<|mv y<|u<|sx [0] (zaJ d e a c f i q19)<|zv (env0:=[(0,.mpt 0 0 0),(112,sA n.1)]) (st0:=(sR d e a c n.2.1 n.2.2 [])) (zo [.old 0])<|A ?_
       obtain ⟨G,q20,h⟩:=bs h
       refine rg y<|u<|mv y<|u<|mv y<|u<|sx [0] (zQ d e a c n.2.1 n.2.2 n.1 q20)<|zv (env0:=[(0,.mpt 0 0 0),(5,sA n.1)]) (st0:=(sR d e a c G.1 G.2 [])) (zo [.old 0])<|zx ?_
       obtain ⟨O,q21,h⟩:=bs h
       refine rl y<|u<|mv y<|u<|mv y<|u<|sx [0] (zQ d e a c G.1 G.2 n.1 q21)<|zv (env0:=[]) (st0:=(sR d e a c O.1 O.2 [])) (zo [.old 0])<|zx ?_
       obtain rfl:=sm h
       exact ⟨_,y,zad [.old 0]⟩
      ·refine A ?_
       refine zeh h y (fun hc22 h=>?_) fun hc22 h=>?_
       ·obtain ⟨q,q23,s,q24,h⟩:=bs2 h
        refine rg y<|u<|mv y<|u<|sx [0] (zaJ d e a c f i q23)<|zv (env0:=[(0,.mpt 0 0 0),(122,sA q.1)]) (st0:=(sR d e a c q.2.1 q.2.2 [])) (zo [.old 0])<|u<|mv y<|u<|sx [0] (zaJ d e a c q.2.1 q.2.2 q24)<|zv (env0:=[(0,.mpt 0 0 0),(122,sA q.1),(124,sA s.1)]) (st0:=(sR d e a c s.2.1 s.2.2 [])) (zo [.old 0])<|A ?_
        obtain ⟨H,q25,h⟩:=bs h
        refine rg y<|u<|mv y<|u<|mv y<|u<|sx [0] (zQ d e a c s.2.1 s.2.2 q.1 q25)<|zv (env0:=[(0,.mpt 0 0 0),(7,sA s.1)]) (st0:=(sR d e a c H.1 H.2 [])) (zo [.old 0])<|zx ?_
        obtain ⟨P,q26,h⟩:=bs h
        refine rl y<|u<|mv y<|u<|mv y<|u<|sx [0] (zQ d e a c H.1 H.2 s.1 q26)<|zv (env0:=[]) (st0:=(sR d e a c P.1 P.2 [])) (zo [.old 0])<|zx ?_
        obtain rfl:=sm h
        exact ⟨_,y,zad [.old 0]⟩
       ·refine A ?_
        refine zeh h y (fun hc27 h=>?_) fun hc27 h=>?_
        ·refine A ?_
         refine u<|sx [0] (zm d e a c f i (a.Ret == [86]) y)<|zv (env0:=[]) (st0:=(sR d e a c f (i||(!(a.Ret == [86]))) [])) (zo [.old 0])<|zx ?_
         obtain rfl:=sm h
         exact ⟨_,y,zad [.old 0]⟩
        ·refine A ?_
         refine zeh h y (fun hc28 h=>?_) fun hc28 h=>?_
         ·obtain ⟨x,q29,h⟩:=bs h
          refine A ?_
          refine zv (env0:=[(0,.mpt 0 0 0),(143,.mpt 0 0 0),(144,.isl 1 (map zw ([[73]])))]) (st0:=(sR d e a c f i [])) (zo [.old 0])<|u<|sx [0] (zZ d e a c f i ([[73]]) q29)<|zv (env0:=[(0,.mpt 0 0 0)]) (st0:=(sR d e a c x.1 x.2 [])) (zo [.old 0])<|zx ?_
          refine A ?_
          refine u<|sx [0] (zm d e a c x.1 x.2 (a.Ret == [73]) y)<|zv (env0:=[]) (st0:=(sR d e a c x.1 (x.2||(!(a.Ret == [73]))) [])) (zo [.old 0])<|zx ?_
          obtain rfl:=sm h
          exact ⟨_,y,zad [.old 0]⟩
         ·refine A ?_
          refine zeh h y (fun hc30 h=>?_) fun hc30 h=>?_
          ·obtain ⟨j,q31,h⟩:=bs h
           refine rg y<|u<|mv y<|u<|sx [0] (zco d e a c f i q31)<|zv (env0:=[(0,.mpt 0 0 0),(157,sA j.1)]) (st0:=(sR d e a c j.2.1 j.2.2 [])) (zo [.old 0])<|A ?_
           rcases bb (!(a.Ret == [86])) with E |E
           ·replace h:=bT E h
            rcases bb (!(a.Ret == [73])) with F |F
            ·replace h:=bT F h
             obtain ⟨J,q34,h⟩:=bs h
             refine zjQ [] (sR d e a c j.2.1 (j.2.2||(!J)) []) [28] [0,1,2,3,4,5,6,7,8,9,10,11,12,13,14,15,16,17,18,19,20,21,22,23,24,25,26,27] [(185,_),(184,_),(183,_),(182,_),(181,_),(180,_),(179,_),(178,_),(177,_),(176,_),(175,_),(174,_),(173,_),(172,_),(171,_),(170,_),(169,_),(168,_),(167,_),(166,_),(165,_),(164,_),(163,_),(162,_),(161,_),(160,_),(159,_),(158,_)] 1 (zcq (z:=by exact ⟨(fun _ _=>⟨_,y,y,sc [0] (args:=[.mpt 0 0 0,bA J]) (zm d e a c j.2.1 j.2.2 J y) y y y y ⟨(.mpt y),(rnI y),t⟩ ⟨⟨_,y,(zuQ y)⟩,t⟩<|⟨(.tup []),[],[(186,_)],y,y,y,y,zcw (z:=zaf [.old 0])⟩⟩),t⟩)) ?_
             obtain rfl:=sm h
             exact ⟨_,y,zad [.old 0]⟩
            ·replace h:=bF F h
             refine zjQ [] (sR d e a c j.2.1 (j.2.2||(!false)) []) [28] [0,1,2,3,4,5,6,7,8,9,10,11,12,13,14,15,16,17,18,19,20,21,22,23,24,25,26,27] [(185,_),(184,_),(183,_),(182,_),(181,_),(180,_),(179,_),(178,_),(177,_),(176,_),(175,_),(174,_),(173,_),(172,_),(171,_),(170,_),(169,_),(168,_),(167,_),(166,_),(165,_),(164,_),(163,_),(162,_),(161,_),(160,_),(159,_),(158,_)] 1 (zcq (z:=by exact ⟨(fun _ _=>⟨_,y,y,sc [0] (args:=[.mpt 0 0 0,bA false]) (zm d e a c j.2.1 j.2.2 false y) y y y y ⟨(.mpt y),(rnI y),t⟩ ⟨⟨_,y,(zuQ y)⟩,t⟩<|⟨(.tup []),[],[(186,_)],y,y,y,y,zcw (z:=zaf [.old 0])⟩⟩),t⟩)) ?_
             obtain rfl:=sm h
             exact ⟨_,y,zad [.old 0]⟩
           ·replace h:=bF E h
            refine zjQ [] (sR d e a c j.2.1 (j.2.2||(!false)) []) [28] [27,26,25,24,23,22,21,20,19,18,17,16,15,14,13,12,11,10,9,8,7,6,5,4,3,2,1,0] [(185,bA false),(184,.lit undef),(183,.lit undef),(182,.lit undef),(181,.lit undef),(180,.lit undef),(179,.lit undef),(178,.lit undef),(177,.lit undef),(176,.lit undef),(175,.lit undef),(174,.lit undef),(173,bA false),(172,bA false),(171,.lit undef),(170,.lit undef),(169,.lit undef),(168,.lit undef),(167,.lit undef),(166,.lit undef),(165,bA (!(a.Ret == [86]))),(164,bA (!(a.Ret == [86]))),(163,sA a.Ret),(162,.mpt 0 0 4),(161,.mpt 0 0 2),(160,.mpt 0 0 0),(159,.mpt 0 0 0),(158,.mpt 0 0 0)] 1 (zwp ⟨pe,pe,pe,pe,pe,pe,pe,pe,pe,pe,pe,pe,pe,pe,pe,pe,pe,pe,pe,pe,pe,(pb y (sne ti y y w)),(pb y (ld ti y y w)),(pb y (fa ti y y y w)),(pb y (fa ti y y y w)),pe,pe,pe,t⟩ ⟨(fun _ _=>⟨_,y,y,sc [0] (args:=[.mpt 0 0 0,bA false]) (zm d e a c j.2.1 j.2.2 false y) y y y y ⟨(.mpt y),(rnI y),t⟩ ⟨⟨_,y,(zuQ y)⟩,t⟩<|⟨(.tup []),[],[(186,.tup [])],y,y,kz,y,zvj ⟨pe,pe,pe,pe,pe,pe,pe,pe,pe,pe,pe,pe,pe,pe,pe,pe,pe,pe,pe,pe,pe,(pb y (sne ti y y w)),(pb y (ld ti y y w)),(pb y (fa ti y y y w)),(pb y (fa ti y y y w)),pe,pe,pe,t⟩ (zo [.old 0])⟩⟩),t⟩) ?_
            obtain rfl:=sm h
            exact ⟨_,y,zad [.old 0]⟩
          ·refine A ?_
           refine zeh h y (fun hc35 h=>?_) fun hc35 h=>?_
           ·obtain ⟨o,q36,h⟩:=bs h
            refine rg y<|u<|mv y<|u<|sx [0] (zco d e a c f i q36)<|zv (env0:=[(0,.mpt 0 0 0),(3,.mpt 1 0 0)]) (st0:=(sR d e a c o.2.1 o.2.2 [some (4,[(zt m)])])) (zo [.old 0,.old 1])<|zx ?_
            obtain ⟨K,q37,h⟩:=bs h
            refine rdA [(0,_),(3,_)] (sR d e a c o.2.1 (o.2.2||(!K)) [some (4,[(zt m)])]) [8] [0,1,2,3,4,5,6,7] [(198,_),(197,_),(196,_),(195,_),(194,_),(193,_),(192,_),(191,_)] 1 (zcq (z:=by exact ⟨(fun _ _=>⟨_,y,y,sx [0] (zm d e a c o.2.1 o.2.2 K y)<|⟨(.tup []),[],[(199,_)],y,y,y,y,zcw (z:=zaf [.old 0,.old 1])⟩⟩),t⟩)) ?_
            obtain ⟨Q,q38,h⟩:=bs h
            refine A ?_
            refine u<|sx [0] (zQ d e a c o.2.1 (o.2.2||(!K)) m.C q38)<|zv (env0:=[]) (st0:=(sR d e a c Q.1 Q.2 [])) (zo [.old 0])<|zx ?_
            obtain rfl:=sm h
            exact ⟨_,y,zad [.old 0]⟩
           ·refine A ?_
            refine zeh h y (fun hc39 h=>?_) fun hc39 h=>?_
            ·obtain ⟨p,q40,h⟩:=bs h
             refine rg y<|u<|mv y<|u<|sx [0] (zco d e a c f i q40)<|zv (env0:=[(0,.mpt 0 0 0),(3,.mpt 1 0 0)]) (st0:=(sR d e a c p.2.1 p.2.2 [some (4,[(zt m)])])) (zo [.old 0,.old 1])<|zx ?_
             obtain ⟨L,q41,h⟩:=bs h
             refine rdA [(0,_)] (sR d e a c p.2.1 (p.2.2||(!L)) []) [8] [0,1,2,3,4,5,6,7] [(215,_),(214,_),(213,_),(212,_),(211,_),(210,_),(209,_),(208,_)] 1 (zcq (z:=by exact ⟨(fun _ _=>⟨_,y,y,sx [0] (zm d e a c p.2.1 p.2.2 L y)<|⟨(.tup []),[],[(216,_)],y,y,y,y,zcw (z:=zaf [.old 0])⟩⟩),t⟩)) ?_
             obtain ⟨R,q42,h⟩:=bs h
             refine rl y<|u<|mv y<|u<|sx [0] (zQ d e a c p.2.1 (p.2.2||(!L)) [73] q42)<|zv (env0:=[]) (st0:=(sR d e a c R.1 R.2 [])) (zo [.old 0])<|zx ?_
             obtain rfl:=sm h
             exact ⟨_,y,zad [.old 0]⟩
            ·refine A ?_
             refine zeh h y (fun hc43 h=>?_) fun hc43 h=>?_
             ·obtain ⟨D,q44,S,q45,h⟩:=bs2 h
              refine zjQ [] (sR d e a c D.2.1 (D.2.2||(!S)) []) [6,8] [0,1,2,3,4,5] [(226,_),(225,_),(224,_),(223,_),(222,_),(221,_)] 2 (zcq (z:=by exact ⟨(fun _ _=>⟨_,y,y,sx [0] (zaJ d e a c f i q44)<|⟨(sA D.1),[7],[(228,_),(227,_)],y,y,y,y,zcq (z:=by exact ⟨nv,(fun _ _=>⟨_,y,y,sx [0] (zm d e a c D.2.1 D.2.2 S y)<|⟨(.tup []),[],[(229,_)],y,y,y,y,zcw (z:=zaf [.old 0])⟩⟩),t⟩)⟩⟩),nw,t⟩)) ?_
              obtain rfl:=sm h
              exact ⟨_,y,zad [.old 0]⟩
             ·refine A ?_
              refine zeh h y (fun hc46 h=>?_) fun hc46 h=>?_
              ·obtain ⟨T,q47,h⟩:=bs h
               refine rl y<|u<|mv y<|u<|sx [0] (zQ d e a c f i [73] q47)<|zv (env0:=[]) (st0:=(sR d e a c T.1 T.2 [])) (zo [.old 0])<|zx ?_
               obtain rfl:=sm h
               exact ⟨_,y,zad [.old 0]⟩
              ·refine zal (X:=Bool) (fun z=>[(0,.mpt 0 0 0),(234,bA z)]) (fun z=>(sR d e a c f i [])) (fun z=>zdM d e a c f i z=some r) ?_ ?_
               ·refine A ?_
                refine zeh h y (fun hc48 h=>?_) fun hc48 h=>?_
                ·refine ze ?_
                 exact ⟨(m.Op == (60:Int)),h,zo [.old 0]⟩
                ·refine A ?_
                 exact (⟨(m.Op == (61:Int)),h,zo [.old 0]⟩)
               ·rintro v37 h
                refine zeh h y (fun hc49 h=>?_) fun hc49 h=>?_
                ·obtain ⟨U,q50,h⟩:=bs h
                 refine A ?_
                 refine zv (env0:=[(237,.mpt 0 0 0),(238,.isl 1 (map zw ([[73]])))]) (st0:=(sR d e a c f i [])) (zo [.old 0])<|u<|sx [0] (zZ d e a c f i ([[73]]) q50)<|zv (env0:=[]) (st0:=(sR d e a c U.1 U.2 [])) (zo [.old 0])<|zx ?_
                 obtain rfl:=sm h
                 exact ⟨_,y,zad [.old 0]⟩
                ·refine ze ?_
                 obtain rfl:=sm h
                 exact ⟨_,y,zad [.old 0]⟩
def zdL(e:List za)(f:T0)(i:zb)(b:T1)(c:T1)(d:Bool):Option (T1×T1×Bool):=
  (zT e f i b c d [73]).bind fun a=>some (b,a.1,a.2)
def zj(c:List za)(d:T0)(e:zb)(b:T1)(f:T1)(i:Bool)(a:zp):Option (T1×T1×Bool):=
  cond ((decide (8≤a.Op))&&(decide (a.Op≤19))) ((zW c d e b f i ([[73]])).bind fun l=>cond (!(a.Op == (13:Int))) ((zW c d e b l.1 l.2 ([[73]])).bind fun q=>zdL c d e b q.1 q.2) (zdL c d e b l.1 l.2)) (cond ((decide (21≤a.Op))&&(decide (a.Op≤36))) ((zdv c d e b f i a).bind fun m=>some (b,m.1,m.2)) (cond (a.Op == (20:Int)) ((zdu c d e b f i a.A b f).bind fun s=>some (b,f,s)) (cond ((decide (37≤a.Op))&&(decide (a.Op≤41))) ((zcH c d e b f i a).bind fun n=>some (b,n.1,n.2)) (cond ((decide (42≤a.Op))&&(decide (a.Op≤45))) ((zeG c d e b f i a).bind fun o=>some (b,o.1,o.2)) (cond ((decide (49≤a.Op))&&(decide (a.Op≤55))) ((zaX c d e b f i a).bind fun p=>some (b,p.1,p.2)) ((zV c d e b f i a).bind fun j=>some (j.1,j.2.1,j.2.2)))))))
theorem ziX(a:List za)(b:T0)(c:zb)(d:T1)(e:T1)(f:Bool)(i:zp){r:T1×T1×Bool}(h:zj a b c d e f i=some r):SC Tryz.prog 131 [.mpt 0 0 0,.agg (zt i)] (tR a b c d e f []) (.tup []) (tR a b c r.1 r.2.1 r.2.2 []):=by
 refine ⟨⟨t,t⟩,zX Tryz.func131 y kz y ?_⟩
 refine A ?_
 refine zi<|A ?_
 refine zeh h y (fun D h=>?_) fun D h=>?_
 ·obtain ⟨j,O,h⟩:=bs h
  refine A ?_
  refine zv (env0:=[(0,.mpt 0 0 0),(3,.mpt 1 0 0),(16,.mpt 0 0 0),(17,.isl 1 (map zw ([[73]])))]) (st0:=(sR a b c d e f [some (4,[(zt i)])])) (zo [.old 0,.old 1])<|u<|sx [0] (zZ a b c d e f ([[73]]) O)<|zv (env0:=[(0,.mpt 0 0 0),(3,.mpt 1 0 0)]) (st0:=(sR a b c d j.1 j.2 [some (4,[(zt i)])])) (zo [.old 0,.old 1])<|zx ?_
  refine zal (X:=T1×Bool) (fun z=>[(0,.mpt 0 0 0)]) (fun z=>(sR a b c d z.1 z.2 [])) (fun z=>zdL a b c d z.1 z.2=some r) ?_ ?_
  ·refine A ?_
   refine zeh h y (fun E h=>?_) fun E h=>?_
   ·obtain ⟨m,P,h⟩:=bs h
    refine A ?_
    exact zv (env0:=[(0,.mpt 0 0 0),(22,.mpt 0 0 0),(23,.isl 1 (map zw ([[73]])))]) (st0:=(sR a b c d j.1 j.2 [])) (zo [.old 0])<|u<|sx [0] (zZ a b c d j.1 j.2 ([[73]]) P)<|zv (env0:=[(0,.mpt 0 0 0)]) (st0:=(sR a b c d m.1 m.2 [])) (zo [.old 0])<|zx (⟨⟨m.1,m.2⟩,h,zo [.old 0]⟩)
   ·refine ze ?_
    exact ⟨⟨j.1,j.2⟩,h,zo [.old 0]⟩
  ·rintro ⟨F,G⟩ h
   obtain ⟨n,Q,h⟩:=bs h
   refine rl y<|u<|mv y<|u<|sx [0] (zQ a b c d F G [73] Q)<|zv (env0:=[]) (st0:=(sR a b c d n.1 n.2 [])) (zo [.old 0])<|zx ?_
   obtain rfl:=sm h
   exact ⟨_,y,zad [.old 0]⟩
 ·refine A ?_
  refine zeh h y (fun H h=>?_) fun H h=>?_
  ·obtain ⟨o,R,h⟩:=bs h
   refine A ?_
   refine u<|sx [0] (znI a b c d e f i R)<|zv (env0:=[]) (st0:=(sR a b c d o.1 o.2 [])) (zo [.old 0])<|zx ?_
   obtain rfl:=sm h
   exact ⟨_,y,zad [.old 0]⟩
  ·refine A ?_
   refine zeh h y (fun v h=>?_) fun v h=>?_
   ·obtain ⟨I,J,h⟩:=bs h
    refine zjQ [] (sR a b c d e I []) [13] [0,1,2,3,4,5,6,7,8,9,10,11,12] [(55,_),(54,_),(53,_),(52,_),(51,_),(50,_),(49,_),(48,_),(47,_),(46,_),(45,_),(44,_),(43,_)] 1 (zcq (z:=by exact ⟨(fun _ _=>⟨_,y,y,sx [0] (zfB a b c d e f i.A d e J)<|⟨(.tup []),[],[(56,_)],y,y,y,y,zcw (z:=zaf [.old 0])⟩⟩),t⟩)) ?_
    obtain rfl:=sm h
    exact ⟨_,y,zad [.old 0]⟩
   ·refine A ?_
    refine zeh h y (fun x h=>?_) fun x h=>?_
    ·obtain ⟨p,K,h⟩:=bs h
     refine A ?_
     refine u<|sx [0] (zm4 a b c d e f i K)<|zv (env0:=[]) (st0:=(sR a b c d p.1 p.2 [])) (zo [.old 0])<|zx ?_
     obtain rfl:=sm h
     exact ⟨_,y,zad [.old 0]⟩
    ·refine A ?_
     refine zeh h y (fun B h=>?_) fun B h=>?_
     ·obtain ⟨q,L,h⟩:=bs h
      refine A ?_
      refine u<|sx [0] (znG a b c d e f i L)<|zv (env0:=[]) (st0:=(sR a b c d q.1 q.2 [])) (zo [.old 0])<|zx ?_
      obtain rfl:=sm h
      exact ⟨_,y,zad [.old 0]⟩
     ·refine A ?_
      refine zeh h y (fun C h=>?_) fun C h=>?_
      ·obtain ⟨s,M,h⟩:=bs h
       refine A ?_
       refine u<|sx [0] (zmp a b c d e f i M)<|zv (env0:=[]) (st0:=(sR a b c d s.1 s.2 [])) (zo [.old 0])<|zx ?_
       obtain rfl:=sm h
       exact ⟨_,y,zad [.old 0]⟩
      ·obtain ⟨l,N,h⟩:=bs h
       refine A ?_
       refine u<|sx [0] (zm6 a b c d e f i N)<|zv (env0:=[]) (st0:=(sR a b c l.1 l.2.1 l.2.2 [])) (zo [.old 0])<|zx ?_
       obtain rfl:=sm h
       exact ⟨_,y,zad [.old 0]⟩
def zjh(c:T1)(d:T1)(a:Bool)(b:Bool):Option (Bool):=
  some ((!a)&&(!b))
def zeg(i:T0)(j:zz)(b:zb)(l:Bool)(c:Int)(m:zS×Bool)(n:Bool)(d:T1)(e:T1):Option (Sum (T1×T1×Bool×Bool×Int) (Sum (T1×T1×Bool×Bool) (Bool))):=
  (zb4 j.L i b d e (n||(!(m.2||l))) c).bind fun o=>(idx b.Code c).bind fun p=>(zj j.L i b d e o p).bind fun a=>(idx b.Code c).bind fun f=>some (.inl (a.1,a.2.1,a.2.2,(!(zhY f.Op)),(IntKind.i64.wrap (c+1))))
def zcS(i:T0)(j:zz)(b:zb)(l:T1)(m:T1)(c:Bool)(d:Int)(a:zS×Bool)(e:Bool):Option (Sum (T1×T1×Bool×Bool×Int) (Sum (T1×T1×Bool×Bool) (Bool))):=
  cond a.2 ((zdO (zgG.mk a.1.Locals a.1.Stack)).bind fun f=>zeg i j b c d a e f.1 f.2) (zeg i j b c d a e l m)
def zaP(j:T0)(l:zz)(c:zb)(a:T1)(b:T1)(d:Bool)(f:Bool)(e:Int):Option (Sum (T1×T1×Bool×Bool×Int) (Sum (T1×T1×Bool×Bool) (Bool))):=
  cond ((decide (e<(length c.Code:Int)))&&(!d)) ((zcI l.L j c a b d e).bind fun i=>cond (i.2&&f) ((zdu l.L j c a b d e a b).bind fun m=>zcS j l c a b f e i m) (zcS j l c a b f e i d)) (some (.inr (.inl (a,b,d,f))))
def zjY(f:T0)(e:zz)(a:zb)(c:Bool):Option (Bool):=
  (cond (a.Ret == [86]) (some true) ((zL e.L a.Ret).bind fun i=>some i)).bind fun d=>(zfk e.L f a [] [] (c||(!d))).bind fun j=>(zl (fun z=>zaP f e a z.1 z.2.1 z.2.2.1 z.2.2.2.1 z.2.2.2.2) (j,[],(c||(!d)),true,0)).bind fun o=>zD o (fun b=>zjh b.1 b.2.1 b.2.2.1 b.2.2.2) some
def zdl(f:zz)(b:zb)(c:Bool)(a:Int):Option (Sum (Bool×Int) (Sum (Bool) (Bool))):=
  cond (decide (a<(length b.Params:Int))) ((idx b.Params a).bind fun d=>(zL f.L d).bind fun e=>some (.inl ((c||(!e)),(IntKind.i64.wrap (a+1))))) (some (.inr (.inl c)))
def zhB(e:T0)(c:zz)(a:zb)(d:Bool):Option (Bool):=
  (zl (fun z=>zdl c a z.1 z.2) (d,0)).bind fun o=>zD o (fun b=>zjY e c a b) some
def zov(a:Int)(b:Bool):Option (Sum (Bool×Int) (Sum (Bool) (Bool))):=
  some (.inl (b,(IntKind.i64.wrap (a+1))))
def zdk(m:zz)(b:T1)(c:Bool)(a:Int):Option (Sum (Bool×Int) (Sum (Bool) (Bool))):=
  cond (decide (a<((length b):Int))) ((idx b a).bind fun d=>(cond (d == [84]) (some true) ((idx b a).bind fun e=>some (e == [78]))).bind fun f=>(cond f (some true) ((idx b a).bind fun i=>(zL m.L i).bind fun j=>some j)).bind fun l=>some (.inl ((c||(!l)),(IntKind.i64.wrap (a+1))))) (some (.inr (.inl c)))
def zcl(l:zz)(c:zb)(d:Bool)(a:Int):Option (Sum (Bool×Int) (Sum (Bool) (Bool))):=
  cond (decide (a<(length c.Maps:Int))) ((idx c.Maps a).bind fun e=>(idx c.Maps a).bind fun f=>(zh9 16 ([]:T1) e.Locals).bind fun i=>(zh9 16 i f.Stack).bind fun j=>(zl (fun z=>zdk l j z.1 z.2) (d,0)).bind fun o=>zD o (fun b=>zov a b) (fun r=>some (.inr (.inr r)))) (some (.inr (.inl d)))
def zgn(l:Option zz)(f:T0)(c:Int):Option (Bool):=
  zuB l (none) (fun a=>(zU a.L f).bind fun d=>(cond ((decide (d<0))||(decide (c<0))) (some true) ((idx a.L d).bind fun m=>some (decide ((length m.Methods:Int)≤c)))).bind fun n=>(cond n (some true) ((idx a.L d).bind fun p=>(idx p.Methods c).bind fun q=>some q.Abstract)).bind fun i=>cond i (some false) ((idx a.L d).bind fun j=>(idx j.Methods c).bind fun e=>(zl (fun z=>zcl a e z.1 z.2) (false,0)).bind fun o=>zD o (fun b=>zhB f a e b) some))
instance (P:Option zz)(d:T0)(Y:Int):PF Tryz.prog 77 [ziT 1 zeJ P,sA d,iA Y] (zgn P d Y) bA:=⟨fun r h=>by
 refine zh Tryz.func77 y kz y y ?_
 unfold zgn at h
 rcases P with _ |c
 ·replace h:=oeN h
  cases h
 ·replace h:=oeS h
  refine A ?_
  obtain ⟨v5,q1,h⟩:=bs h
  refine rg y<|u<|mv y<|u<|mv y<|u<|pc (zdJ c.L d q1) y y y<|u<|asg y<|zx ?_
  refine zf ?_
  obtain ⟨v7,q5,v10,q9,h⟩:=bs2 h
  refine A ?_
  refine zeh h y (fun Q h=>?_) fun Q h=>?_
  ·refine A ?_
   exact RT0
  ·refine ze ?_
   obtain ⟨v11,q11,a,q12,h⟩:=bs2 h
   refine A ?_
   refine zf<|A ?_
   obtain ⟨o,ho,h⟩:=bs h
   refine lpB ho (fun z=>[(0,.ipt 1 [[.isl 6 (map zc c.L)]] 0 0),(8,.mpt 0 0 0),(9,iA z.2)]) (fun z=>[some (15,[(rK c.L d a (.lit (.slice none 0 0)) (.lit (.slice none 0 0)) (bA z.1))])]) (fun b=>[(0,.ipt 1 [[.isl 6 (map zc c.L)]] 0 0),(8,.mpt 0 0 0)]) (fun b=>[some (15,[(rK c.L d a (.lit (.slice none 0 0)) (.lit (.slice none 0 0)) (bA b))])]) (pG Tryz.f77 bA) (zaf [.old 0]) ?_ ?_
   ·rintro ⟨Z,m⟩ r h
    refine zf<|A ?_
    refine zeh h y (fun R h=>?_) fun R h=>?_
    ·refine ze<|zf<|zi ?_
     obtain ⟨v38,B,v39,v,H,q39,n,q40,h⟩:=bs4 h
     refine rdA [(0,.ipt 1 [[.isl 6 (map zc c.L)]] 0 0),(8,.mpt 0 0 0),(9,iA m),(10,.msl 1 0 (length n))] [some (15,[(rK c.L d a (.lit (.slice none 0 0)) (.lit (.slice none 0 0)) (bA Z))]),some (1,map zw n)] [9,19] [18,17,16,15,14,13,12,11,10,8,7,6,5,4,3,2,1,0] [(96,.isl 1 (map zw v39.Stack)),(95,.ipt 3 (map zK a.Maps) (Int.toNat m) 2),(94,.ipt 3 (map zK a.Maps) (Int.toNat m) 0),(93,iA m),(92,.isl 3 (map zK a.Maps)),(91,.mpt 0 0 10),(90,.mpt 0 0 2),(89,.mpt 0 0 0),(88,.mpt 0 0 0),(86,.isl 1 (map zw v38.Locals)),(85,.ipt 3 (map zK a.Maps) (Int.toNat m) 1),(84,.ipt 3 (map zK a.Maps) (Int.toNat m) 0),(83,iA m),(82,.isl 3 (map zK a.Maps)),(81,.mpt 0 0 10),(80,.mpt 0 0 2),(79,.mpt 0 0 0),(78,.mpt 0 0 0)] 2 (zwp ⟨(pb y (ldI ti y (zaj v).2.2 y w)),(pb y (fa ti y y y w)),(pb y (ixI ti y ti y y y v w)),pe,(pb y (ld ti y y w)),(pb y (fa ti y y y w)),(pb y (fa ti y y y w)),pe,pe,(pb y (ldI ti y (zaj B).2.2 y w)),(pb y (fa ti y y y w)),(pb y (ixI ti y ti y y y B w)),pe,(pb y (ld ti y y w)),(pb y (fa ti y y y w)),(pb y (fa ti y y y w)),pe,pe,t⟩ ⟨(fun _ _=>⟨_,y,y,apN (f:=zw) 1 ti y ti y y (by decide) ti y y y roI (fun _=>y) y q39<|⟨(.msl 1 0 (length H)),[],[(87,.msl 1 0 (length H))],y,y,kz,y,zwp ⟨(pb y (ldI ti y (zaj v).2.2 y w)),(pb y (fa ti y y y w)),(pb y (ixI ti y ti y y y v w)),pe,(pb y (ld ti y y w)),(pb y (fa ti y y y w)),(pb y (fa ti y y y w)),pe,pe,pe,(pb y (fa ti y y y w)),(pb y (ixI ti y ti y y y B w)),pe,(pb y (ld ti y y w)),(pb y (fa ti y y y w)),(pb y (fa ti y y y w)),pe,pe,t⟩ ⟨nv,(fun _ _=>⟨_,y,y,apM 2 ti y ti y y (by decide) ti y y y y roI (fun _=>y) y q40<|⟨(.msl 2 0 (length n)),[20],[(10,.msl 2 0 (length n)),(97,.msl 2 0 (length n))],y,y,kz,y,zvj ⟨pe,pe,(pb y (fa ti y y y w)),(pb y (ixI ti y ti y y y v w)),pe,(pb y (ld ti y y w)),(pb y (fa ti y y y w)),(pb y (fa ti y y y w)),pe,pe,pe,(pb y (fa ti y y y w)),(pb y (ixI ti y ti y y y B w)),pe,(pb y (ld ti y y w)),(pb y (fa ti y y y w)),(pb y (fa ti y y y w)),pe,pe,t⟩ (zo [.old 0,.old 2])⟩⟩),t⟩⟩⟩),nw,t⟩) ?_
     refine A ?_
     obtain ⟨o,ho,h⟩:=bs h
     refine lpS ho (fun z=>[(0,.ipt 1 [[.isl 6 (map zc c.L)]] 0 0),(8,.mpt 0 0 0),(9,iA m),(10,.msl 1 0 (length n)),(11,iA z.2)]) (fun z=>[some (15,[(rK c.L d a (.lit (.slice none 0 0)) (.lit (.slice none 0 0)) (bA z.1))]),some (1,map zw n)]) (fun b=>[(0,.ipt 1 [[.isl 6 (map zc c.L)]] 0 0),(8,.mpt 0 0 0),(9,iA m)]) (fun b=>[some (15,[(rK c.L d a (.lit (.slice none 0 0)) (.lit (.slice none 0 0)) (bA b))])]) (pG Tryz.f77 bA) (zaf [.old 0,.old 1]) ?_ ?_ ?_
     ·rintro ⟨I,v51⟩ r h
      refine zf<|A ?_
      refine zeh h y (fun S h=>?_) fun S h=>?_
      ·refine ze<|zf<|zi ?_
       obtain ⟨v52,q51,v54,q54,J,q58,h⟩:=bs3 h
       refine A ?_
       refine u<|sx [0] (zcT c.L d a I J y)<|zv (env0:=[(0,.ipt 1 [[.isl 6 (map zc c.L)]] 0 0),(8,.mpt 0 0 0),(9,iA m),(10,.msl 1 0 (length n)),(11,iA v51)]) (st0:=[some (15,[(rK c.L d a (.lit (.slice none 0 0)) (.lit (.slice none 0 0)) (bA (I||(!J))))]),some (1,map zw n)]) (zo [.old 0,.old 1])<|zx ?_
       refine A ?_
       obtain rfl:=sm h
       exact ⟨_,y,zo [.old 0,.old 1]⟩
      ·refine zq ?_
       obtain rfl:=sm h
       exact ⟨y,_,y,zo [.old 0]⟩
     ·rintro v58 rfl
      refine zn<|A ?_
      obtain rfl:=sm h
      exact ⟨_,y,zo [.old 0]⟩
     ·rintro r' rfl env st hp
      obtain rfl:=sm h
      exact ⟨_,y,hp⟩
    ·refine zq ?_
     obtain rfl:=sm h
     exact ⟨y,_,y,zo [.old 0]⟩
   ·rintro v59 rfl
    refine zn<|zf<|A ?_
    obtain ⟨o,ho,h⟩:=bs h
    refine lpB ho (fun z=>[(0,.ipt 1 [[.isl 6 (map zc c.L)]] 0 0),(8,.mpt 0 0 0),(12,iA z.2)]) (fun z=>[some (15,[(rK c.L d a (.lit (.slice none 0 0)) (.lit (.slice none 0 0)) (bA z.1))])]) (fun b=>[(0,.ipt 1 [[.isl 6 (map zc c.L)]] 0 0),(8,.mpt 0 0 0)]) (fun b=>[some (15,[(rK c.L d a (.lit (.slice none 0 0)) (.lit (.slice none 0 0)) (bA b))])]) (pG Tryz.f77 bA) (zaf [.old 0]) ?_ ?_
    ·rintro ⟨K,v65⟩ r h
     refine zf<|A ?_
     refine zeh h y (fun T h=>?_) fun T h=>?_
     ·refine ze<|zf<|zi ?_
      obtain ⟨v66,q63,M,q64,h⟩:=bs2 h
      refine A ?_
      refine u<|sx [0] (zcT c.L d a K M y)<|zv (env0:=[(0,.ipt 1 [[.isl 6 (map zc c.L)]] 0 0),(8,.mpt 0 0 0),(12,iA v65)]) (st0:=[some (15,[(rK c.L d a (.lit (.slice none 0 0)) (.lit (.slice none 0 0)) (bA (K||(!M))))])]) (zo [.old 0])<|zx ?_
      refine A ?_
      obtain rfl:=sm h
      exact ⟨_,y,zo [.old 0]⟩
     ·refine zq ?_
      obtain rfl:=sm h
      exact ⟨y,_,y,zo [.old 0]⟩
    ·rintro D rfl
     refine zn ?_
     obtain ⟨E,q67,h⟩:=bs h
     refine A ?_
     refine u<|sx [0] (zcT c.L d a D E y)<|zv (env0:=[(8,.mpt 0 0 0)]) (st0:=[some (15,[(rK c.L d a (.lit (.slice none 0 0)) (.lit (.slice none 0 0)) (bA (D||(!E))))])]) (zo [.old 0])<|zx ?_
     obtain ⟨v71,q68,h⟩:=bs h
     refine rg y<|u<|mv y<|ph 1<|ph 1<|u<|sc [0,1,2] (ziW c.L d a [] [] (D||(!E)) q68) y y y y ⟨(.mpt y),t⟩ ⟨⟨_,y,(zya y ⟨(.nil0 y),(.nil0 y),(rnI y),t⟩)⟩,⟨y,mkI (fun _=>y)⟩,⟨y,mkI (fun _=>y)⟩,t⟩<|zx ?_
     refine A ?_
     refine zf<|A ?_
     obtain ⟨o,ho,h⟩:=bs h
     refine lpB ho (fun z=>[(8,.mpt 0 0 0),(13,bA z.2.2.2.1),(14,iA z.2.2.2.2)]) (fun z=>(sR c.L d a z.1 z.2.1 z.2.2.1 [])) (fun b=>[(8,.mpt 0 0 0),(13,bA b.2.2.2)]) (fun b=>(sR c.L d a b.1 b.2.1 b.2.2.1 [])) (pG Tryz.f77 bA) (zaf [.old 0]) ?_ ?_
     ·rintro ⟨j,l,C,p,i⟩ r h
      refine zf<|A ?_
      refine zeh h y (fun U h=>?_) fun U h=>?_
      ·refine ze<|zf<|zi ?_
       obtain ⟨e,q84,h⟩:=bs h
       refine rg y<|u<|mv y<|u<|mv y<|u<|sx [0] (zfl c.L d a j l C i q84)<|zv (env0:=[(8,.mpt 0 0 0),(13,bA p),(14,iA i),(187,.tup [.agg (zK e.1),bA e.2])]) (st0:=(sR c.L d a j l C [])) (zo [.old 0])<|A ?_
       refine zal (X:=Bool) (fun z=>[(8,.mpt 0 0 0),(13,bA p),(14,iA i),(15,.mpt 1 0 0),(16,bA e.2)]) (fun z=>(sR c.L d a j l z [some (3,[(zK e.1)])])) (fun z=>zcS d c a j l p i e z=some r) ?_ ?_
       ·refine A ?_
        refine zeh h y (fun V h=>?_) fun V h=>?_
        ·obtain ⟨N,q87,h⟩:=bs h
         refine zjQ [(8,_),(13,_),(14,_),(15,_),(16,_)] (sR c.L d a j l N [some (3,[(zK e.1)])]) [12] [0,1,2,3,4,5,6,7,8,9,10,11] [(205,_),(204,_),(203,_),(202,_),(201,_),(200,_),(199,_),(198,_),(197,_),(196,_),(195,_),(194,_)] 1 (zcq (z:=by exact ⟨(fun _ _=>⟨_,y,y,sx [0] (zfB c.L d a j l C i j l q87)<|⟨(.tup []),[],[(206,_)],y,y,y,y,zcw (z:=zaf [.old 0,.old 1])⟩⟩),t⟩)) ?_
         exact ⟨N,h,zo [.old 0,.old 1]⟩
        ·refine ze ?_
         exact ⟨C,h,zo [.old 0,.old 1]⟩
       ·rintro q h
        refine A ?_
        refine u<|sx [0] (zm c.L d a j l q (e.2||p) y)<|zv (env0:=[(8,.mpt 0 0 0),(14,iA i),(15,.mpt 1 0 0),(16,bA e.2)]) (st0:=(sR c.L d a j l (q||(!(e.2||p))) [some (3,[(zK e.1)])])) (zo [.old 0,.old 1])<|zx ?_
        refine zal (X:=T1×T1) (fun z=>[(8,.mpt 0 0 0),(14,iA i)]) (fun z=>(sR c.L d a z.1 z.2 (q||(!(e.2||p))) [])) (fun z=>zeg d c a p i e q z.1 z.2=some r) ?_ ?_
        ·refine A ?_
         refine zeh h y (fun W h=>?_) fun W h=>?_
         ·obtain ⟨s,q90,h⟩:=bs h
          refine A ?_
          refine u<|sx [] (zh6 (zgG.mk e.1.Locals e.1.Stack) q90)<|zv (env0:=[(8,.mpt 0 0 0),(14,iA i),(214,.mpt 0 0 0),(220,.agg [.msl 1 0 (length s.1),.msl 2 0 (length s.2)])]) (st0:=(sR c.L d a j l (q||(!(e.2||p))) [some (1,map zw s.1),some (1,map zw s.2)])) (zo [.old 0,.old 2,.old 3])<|A ?_
          exact (⟨⟨s.1,s.2⟩,h,zo [.old 0]⟩)
         ·refine ze ?_
          exact ⟨⟨j,l⟩,h,zo [.old 0]⟩
        ·rintro ⟨F,G⟩ h
         obtain ⟨O,q91,h⟩:=bs h
         refine rg y<|u<|mv y<|u<|mv y<|u<|sx [0] (ziY c.L d a F G (q||(!(e.2||p))) i q91)<|zv (env0:=[(8,.mpt 0 0 0),(14,iA i)]) (st0:=(sR c.L d a F G O [])) (zo [.old 0])<|zx ?_
         obtain ⟨v99,q92,x,q93,h⟩:=bs2 h
         refine A ?_
         refine u<|sx [0] (ziX c.L d a F G O v99 q93)<|zv (env0:=[(8,.mpt 0 0 0),(14,iA i)]) (st0:=(sR c.L d a x.1 x.2.1 x.2.2 [])) (zo [.old 0])<|zx ?_
         obtain ⟨v101,q94,h⟩:=bs h
         refine A ?_
         refine A ?_
         obtain rfl:=sm h
         exact ⟨_,y,zo [.old 0]⟩
      ·refine zq ?_
       obtain rfl:=sm h
       exact ⟨y,_,y,zo [.old 0]⟩
     ·rintro ⟨v102,v103,v104,v105⟩ rfl
      refine zn<|A ?_
      exact RT0⟩
def zmP(a:zbu):Option (zbu):=
  (zci a.C 12).bind fun b=>(zci a.M 12).bind fun c=>some (zbu.mk b c)
instance (a:zbu):PF Tryz.prog 46 [.agg (zgO a)] (zmP a) (fun r=>(.agg (zgO r))):=⟨fun r h=>by
 refine zh Tryz.func46 y kz y y ?_
 unfold zmP at h
 refine A ?_
 obtain ⟨b,d,h⟩:=bs h
 obtain ⟨c,e,h⟩:=bs h
 refine rdA [(2,.mpt 0 0 0)] [some (2,[[sA b,sA c]])] [7] [0,1,2,3,4,5,6] [(9,_),(8,_),(7,_),(6,_),(5,_),(4,_),(3,_)] 1 (zcq (z:=by exact ⟨(fun _ _=>⟨_,y,y,sto ti y y y<|⟨.any,[],[],y,y,y,t,zcw (z:=zaf [.old 1])⟩⟩),t⟩)) ?_
 exact RT0⟩
def zcG(a:Bool):Option (Bool):=
  some a
def zh4(b:List za)(a:zp):Option (Bool):=
  (cond (!(a.C == [])) ((zL b a.C).bind fun c=>some (!c)) (some false)).bind fun d=>cond d (some false) (cond ((decide (38≤a.Op))&&(decide (a.Op≤41))) ((zgS b a.C a.M).bind fun e=>zcG e.2.2) (cond ((decide (42≤a.Op))&&(decide (a.Op≤44))) ((ze4 b a.C a.M).bind fun f=>cond f.2.2 ((zU b a.C).bind fun i=>(idx b i).bind fun j=>zcG (!j.Interface)) (zcG false)) (cond (a.Op == (45:Int)) ((zhl b a.C a.M).bind fun l=>zcG l.2.2) (zcG true))))
instance (c:List za)(d:zp):PF Tryz.prog 228 [.ipt 1 [[.isl 6 (map zc c)]] 0 0,.agg (zt d)] (zh4 c d) bA:=⟨fun r h=>by
 refine zh Tryz.func228 y kz y y<|A ?_
 refine zf ?_
 obtain ⟨x,B,h⟩:=bs h
 refine A ?_
 refine zeh h y (fun e h=>?_) fun e h=>?_
 ·refine A ?_
  exact RT0
 ·refine ze<|A ?_
  refine zal (X:=Bool) (fun z=>[(5,bA z)]) (fun z=>[]) (fun z=>zcG z=some r) ?_ ?_
  ·refine zi<|A ?_
   refine zeh h y (fun f h=>?_) fun f h=>?_
   ·obtain ⟨j,C,h⟩:=bs h
    refine A ?_
    exact (⟨j.2.2,h,zo []⟩)
   ·refine A ?_
    refine zeh h y (fun i h=>?_) fun i h=>?_
    ·obtain ⟨l,o,h⟩:=bs h
     refine A ?_
     rcases bb l.2.2 with a |a
     ·replace h:=bT a h
      obtain ⟨D,p,m,q,h⟩:=bs2 h
      refine zjQ [(5,_)] [] [] [0,1,2,3,4,5,6,7,8,9,10,11,12,13,14,15] [(5,_),(68,_),(67,_),(66,_),(65,_),(64,_),(63,_),(62,_),(61,_),(60,_),(59,_),(58,_),(57,_),(56,_),(55,_),(54,_)] 0 (zcw (z:=zaf [])) ?_
      exact ⟨(!m.Interface),h,zo []⟩
     ·replace h:=bF a h
      refine zjQ [(5,_)] [] [] [0,1,2,3,4,5,6,7,8,9,10,11,12,13,14,15] [(5,_),(68,_),(67,_),(66,_),(65,_),(64,_),(63,_),(62,_),(61,_),(60,_),(59,_),(58,_),(57,_),(56,_),(55,_),(54,_)] 0 (zcw (z:=zaf [])) ?_
      exact ⟨false,h,zo []⟩
    ·refine A ?_
     refine zeh h y (fun b h=>?_) fun b h=>?_
     ·obtain ⟨n,s,h⟩:=bs h
      refine A ?_
      exact (⟨n.2.2,h,zo []⟩)
     ·refine ze ?_
      exact ⟨true,h,zo []⟩
  ·rintro v h
   refine A ?_
   exact RT0⟩
def zox:Option (Bool):=
  some true
def zj5(a:Int):Option (Sum (Int) (Sum (Unit) (Bool))):=
  some (.inl (IntKind.i64.wrap (a+1)))
def zds(e:List za)(b:zb)(a:Int):Option (Sum (Int) (Sum (Unit) (Bool))):=
  cond (decide (a<(length b.Code:Int))) ((idx b.Code a).bind fun c=>(zh4 e c).bind fun d=>cond (!d) (some (.inr (.inr false))) (some (.inl (IntKind.i64.wrap (a+1))))) (some (.inr (.inl ())))
def zj4(d:List za)(a:Int)(c:zb):Option (Sum (Int) (Sum (Unit) (Bool))):=
  (zl (fun z=>zds d c z) 0).bind fun o=>zD o (fun b=>zj5 a) (fun r=>some (.inr (.inr r)))
def zdr(i:List za)(b:zb)(a:Int):Option (Sum (Int) (Sum (Unit) (Bool))):=
  cond (decide (a<(length b.Traps:Int))) ((idx b.Traps a).bind fun c=>(cond (!(c.C == [])) ((idx b.Traps a).bind fun d=>(zU i d.C).bind fun e=>some (decide (e<0))) (some false)).bind fun f=>cond f (some (.inr (.inr false))) (some (.inl (IntKind.i64.wrap (a+1))))) (some (.inr (.inl ())))
def zj3(c:List za)(d:Int)(a:zb):Option (Sum (Int) (Sum (Unit) (Bool))):=
  (zl (fun z=>zdr c a z) 0).bind fun o=>zD o (fun b=>zj4 c d a) (fun r=>some (.inr (.inr r)))
def zd5(e:List za)(b:zb)(a:Int):Option (Sum (Int) (Sum (Unit) (Bool))):=
  cond (decide (a<(length b.Params:Int))) ((idx b.Params a).bind fun c=>(zL e c).bind fun d=>cond (!d) (some (.inr (.inr false))) (some (.inl (IntKind.i64.wrap (a+1))))) (some (.inr (.inl ())))
def zdt(d:List za)(e:za)(c:Int):Option (Sum (Int) (Sum (Unit) (Bool))):=
  cond (decide (c<(length e.Methods:Int))) ((idx e.Methods c).bind fun a=>(cond (!(a.Ret == [86])) ((zL d a.Ret).bind fun f=>some (!f)) (some false)).bind fun i=>cond i (some (.inr (.inr false))) ((zl (fun z=>zd5 d a z) 0).bind fun o=>zD o (fun b=>zj3 d c a) (fun r=>some (.inr (.inr r))))) (some (.inr (.inl ())))
def zkx(a:List za)(c:za):Option (Bool):=
  (zl (fun z=>zdt a c z) 0).bind fun o=>zD o (fun b=>zox) some
def zd4(c:List za)(b:za)(a:Int):Option (Sum (Int) (Sum (Unit) (Bool))):=
  cond (decide (a<(length b.Fields:Int))) ((idx b.Fields a).bind fun d=>(zL c d.Type_).bind fun e=>cond (!e) (some (.inr (.inr false))) (some (.inl (IntKind.i64.wrap (a+1))))) (some (.inr (.inl ())))
def zh5(a:List za)(c:za):Option (Bool):=
  (zl (fun z=>zd4 a c z) 0).bind fun o=>zD o (fun b=>zkx a c) some
instance (a:List za)(c:za):PF Tryz.prog 158 [.ipt 1 [[.isl 6 (map zc a)]] 0 0,.agg (zc c)] (zh5 a c) bA:=⟨fun r h=>by
 refine zh Tryz.func158 y kz y y<|A ?_
 refine zf<|A ?_
 obtain ⟨o,ho,h⟩:=bs h
 refine lpB ho (fun z=>[(0,.ipt 1 [[.isl 6 (map zc a)]] 0 0),(3,.mpt 0 0 0),(5,iA z)]) (fun z=>[some (6,[(zc c)])]) (fun b=>[(0,.ipt 1 [[.isl 6 (map zc a)]] 0 0),(3,.mpt 0 0 0)]) (fun b=>[some (6,[(zc c)])]) (pG Tryz.f158 bA) (zaf [.old 0]) ?_ ?_
 ·rintro S r h
  refine zf<|A ?_
  refine zeh h y (fun s h=>?_) fun s h=>?_
  ·refine ze<|zf<|zi ?_
   obtain ⟨T,U,V,W,h⟩:=bs2 h
   refine A ?_
   refine zeh h y (fun v h=>?_) fun v h=>?_
   ·refine A ?_
    refine zy ?_
    obtain rfl:=sm h
    exact ⟨_,y,_,y,zad []⟩
   ·refine ze<|A ?_
    obtain rfl:=sm h
    exact ⟨_,y,zo [.old 0]⟩
  ·refine zq ?_
   obtain rfl:=sm h
   exact ⟨y,_,y,zo [.old 0]⟩
 ·rintro ⟨⟩ rfl
  refine zn<|zf<|A ?_
  obtain ⟨o,ho,h⟩:=bs h
  refine lpB ho (fun z=>[(0,.ipt 1 [[.isl 6 (map zc a)]] 0 0),(3,.mpt 0 0 0),(6,iA z)]) (fun z=>[some (6,[(zc c)])]) (fun b=>[]) (fun b=>[]) (pG Tryz.f158 bA) (zaf [.old 0]) ?_ ?_
  ·rintro d r h
   refine zf<|A ?_
   refine zeh h y (fun f h=>?_) fun f h=>?_
   ·refine ze<|zf<|zi ?_
    obtain ⟨e,x,h⟩:=bs h
    refine A ?_
    refine zf ?_
    obtain ⟨B,C,h⟩:=bs h
    refine A ?_
    refine zeh h y (fun i h=>?_) fun i h=>?_
    ·refine A ?_
     refine zy ?_
     obtain rfl:=sm h
     exact ⟨_,y,_,y,zad []⟩
    ·refine ze<|zf<|A ?_
     obtain ⟨o,ho,h⟩:=bs h
     refine lpS ho (fun z=>[(0,.ipt 1 [[.isl 6 (map zc a)]] 0 0),(3,.mpt 0 0 0),(6,iA d),(7,.mpt 1 0 0),(8,iA z)]) (fun z=>[some (6,[(zc c)]),some (10,[(zd e)])]) (fun b=>[(0,.ipt 1 [[.isl 6 (map zc a)]] 0 0),(3,.mpt 0 0 0),(6,iA d),(7,.mpt 1 0 0)]) (fun b=>[some (6,[(zc c)]),some (10,[(zd e)])]) (pG Tryz.f158 bA) (zaf [.old 0,.old 1]) ?_ ?_ ?_
     ·rintro D r h
      refine zf<|A ?_
      refine zeh h y (fun j h=>?_) fun j h=>?_
      ·refine ze<|zf<|zi ?_
       obtain ⟨E,F,G,H,h⟩:=bs2 h
       refine A ?_
       refine zeh h y (fun l h=>?_) fun l h=>?_
       ·refine A ?_
        refine zy ?_
        obtain rfl:=sm h
        exact ⟨_,y,_,y,zad []⟩
       ·refine ze<|A ?_
        obtain rfl:=sm h
        exact ⟨_,y,zo [.old 0,.old 1]⟩
      ·refine zq ?_
       obtain rfl:=sm h
       exact ⟨y,_,y,zo [.old 0,.old 1]⟩
     ·rintro ⟨⟩ rfl
      refine zn<|zf<|A ?_
      obtain ⟨o,ho,h⟩:=bs h
      refine lpS ho (fun z=>[(0,.ipt 1 [[.isl 6 (map zc a)]] 0 0),(3,.mpt 0 0 0),(6,iA d),(7,.mpt 1 0 0),(9,iA z)]) (fun z=>[some (6,[(zc c)]),some (10,[(zd e)])]) (fun b=>[(0,.ipt 1 [[.isl 6 (map zc a)]] 0 0),(3,.mpt 0 0 0),(6,iA d),(7,.mpt 1 0 0)]) (fun b=>[some (6,[(zc c)]),some (10,[(zd e)])]) (pG Tryz.f158 bA) (zaf [.old 0,.old 1]) ?_ ?_ ?_
      ·rintro I r h
       refine zf<|A ?_
       refine zeh h y (fun m h=>?_) fun m h=>?_
       ·refine ze<|zf<|zi ?_
        obtain ⟨J,K,L,M,h⟩:=bs2 h
        refine A ?_
        refine zeh h y (fun n h=>?_) fun n h=>?_
        ·refine A ?_
         refine zy ?_
         obtain rfl:=sm h
         exact ⟨_,y,_,y,zad []⟩
        ·refine ze<|A ?_
         obtain rfl:=sm h
         exact ⟨_,y,zo [.old 0,.old 1]⟩
       ·refine zq ?_
        obtain rfl:=sm h
        exact ⟨y,_,y,zo [.old 0,.old 1]⟩
      ·rintro ⟨⟩ rfl
       refine zn<|A ?_
       obtain ⟨o,ho,h⟩:=bs h
       refine lpS ho (fun z=>[(0,.ipt 1 [[.isl 6 (map zc a)]] 0 0),(3,.mpt 0 0 0),(6,iA d),(7,.mpt 1 0 0),(10,iA z)]) (fun z=>[some (6,[(zc c)]),some (10,[(zd e)])]) (fun b=>[(0,.ipt 1 [[.isl 6 (map zc a)]] 0 0),(3,.mpt 0 0 0),(6,iA d)]) (fun b=>[some (6,[(zc c)])]) (pG Tryz.f158 bA) (zaf [.old 0,.old 1]) ?_ ?_ ?_
       ·rintro N r h
        refine zf<|A ?_
        refine zeh h y (fun p h=>?_) fun p h=>?_
        ·refine ze<|zf<|zi ?_
         obtain ⟨O,P,Q,R,h⟩:=bs2 h
         refine A ?_
         refine zeh h y (fun q h=>?_) fun q h=>?_
         ·refine A ?_
          refine zy ?_
          obtain rfl:=sm h
          exact ⟨_,y,_,y,zad []⟩
         ·refine ze<|A ?_
          obtain rfl:=sm h
          exact ⟨_,y,zo [.old 0,.old 1]⟩
        ·refine zq ?_
         obtain rfl:=sm h
         exact ⟨y,_,y,zo [.old 0]⟩
       ·rintro ⟨⟩ rfl
        refine zn<|A ?_
        obtain rfl:=sm h
        exact ⟨_,y,zo [.old 0]⟩
       ·rintro r' rfl env st hp
        obtain rfl:=sm h
        exact ⟨_,y,hp⟩
      ·rintro r' rfl env st hp
       obtain rfl:=sm h
       exact ⟨_,y,hp⟩
     ·rintro r' rfl env st hp
      obtain rfl:=sm h
      exact ⟨_,y,hp⟩
   ·refine zq ?_
    obtain rfl:=sm h
    exact ⟨y,_,y,zo []⟩
  ·rintro ⟨⟩ rfl
   refine zn<|A ?_
   exact RT0⟩
def zix(a:zb)(b:zb):Option (Bool):=
  (zks a.Params b.Params).bind fun c=>some (c&&(a.Ret == b.Ret))
theorem zlG(a:zb)(b:zb){r:Bool}(h:zix a b=some r):zam Tryz.prog 229 [.agg (zd a),.agg (zd b)] (bA r):=by
 refine zh Tryz.func229 y kz y y<|A ?_
 obtain ⟨c,d,h⟩:=bs h
 refine A ?_
 exact RT0
instance (a:zb)(b:zb):PF Tryz.prog 229 [.agg (zd a),.agg (zd b)] (zix a b) bA:=⟨fun _=>zlG a b⟩
def zoq:Option (T0×Bool):=
  some ([],false)
def zde(e:List za)(n:T0)(d:T1)(a:Int):Option (Sum (Int) (Sum (Unit) (T0×Bool))):=
  cond (decide (a<((length d):Int))) ((idx d a).bind fun f=>(zU e f).bind fun i=>(idx e i).bind fun b=>(zeb b n).bind fun c=>(cond (decide (0≤c)) ((idx b.Methods c).bind fun j=>some (!j.Static)) (some false)).bind fun l=>cond l ((idx d a).bind fun m=>some (.inr (.inr (m,true)))) (some (.inl (IntKind.i64.wrap (a+1))))) (some (.inr (.inl ())))
def zhu(a:List za)(c:T0)(e:T0):Option (T0×Bool):=
  (zU a c).bind fun d=>(cond (decide (d<0)) (some true) ((idx a d).bind fun f=>some f.Interface)).bind fun i=>cond i (some ([],false)) ((zaI a c).bind fun j=>(zl (fun z=>zde a e j z) 0).bind fun o=>zD o (fun b=>zoq) some)
instance (a:List za)(e:T0)(d:T0):PF Tryz.prog 267 [.ipt 1 [[.isl 6 (map zc a)]] 0 0,sA e,sA d] (zhu a e d) (fun r=>(.tup [sA r.1,bA r.2])):=⟨fun r h=>by
 refine zh Tryz.func267 y kz y y<|A ?_
 obtain ⟨H,I,h⟩:=bs h
 refine A ?_
 refine zf ?_
 obtain ⟨J,K,h⟩:=bs h
 refine A ?_
 refine zeh h y (fun j h=>?_) fun j h=>?_
 ·refine A ?_
  exact RT0
 ·refine ze ?_
  obtain ⟨c,m,h⟩:=bs h
  refine A ?_
  refine u<|sx [] (zaL a e m)<|zv (env0:=[(0,.ipt 1 [[.isl 6 (map zc a)]] 0 0),(2,sA d),(30,.msl 0 0 (length c))]) (st0:=[some (1,map zw c)]) (zo [.old 0])<|A ?_
  refine zf<|A ?_
  obtain ⟨o,ho,h⟩:=bs h
  refine lpB ho (fun z=>[(0,.ipt 1 [[.isl 6 (map zc a)]] 0 0),(2,sA d),(9,.msl 0 0 (length c)),(10,iA z)]) (fun z=>[some (1,map zw c)]) (fun b=>[]) (fun b=>[]) (pG Tryz.f267 (fun r=>.tup [sA r.1,bA r.2])) (zaf [.old 0]) ?_ ?_
  ·rintro n r h
   refine zf<|A ?_
   refine zeh h y (fun f h=>?_) fun f h=>?_
   ·refine ze<|zf<|zi ?_
    obtain ⟨p,q,s,v,l,x,h⟩:=bs3 h
    refine rdA [(0,_),(2,_),(9,_),(10,_),(11,_)] [some (1,map zw c),some (6,[(zc l)])] [12,13] [0,1,2,3,4,5,6,7,8,9,10,11] [(48,_),(47,_),(46,_),(45,_),(44,_),(43,_),(42,_),(41,_),(40,_),(39,_),(38,_),(37,_)] 2 (zcq (z:=by exact ⟨(fun _ _=>⟨_,y,y,al 1 ti y<|⟨(.mpt 1 0 0),[],[(11,_)],y,y,y,y,zcq (z:=by exact ⟨nv,(fun _ _=>⟨_,y,y,sto ti y y y<|⟨.any,[],[],y,y,y,t,zcw (z:=zaf [.old 0,.old 1])⟩⟩),t⟩)⟩⟩),nw,t⟩)) ?_
    obtain ⟨B,C,h⟩:=bs h
    refine A ?_
    obtain ⟨D,E,h⟩:=bs h
    refine A ?_
    refine zeh h y (fun i h=>?_) fun i h=>?_
    ·obtain ⟨F,G,h⟩:=bs h
     refine A ?_
     refine zy ?_
     obtain rfl:=sm h
     exact ⟨_,y,_,y,zad []⟩
    ·refine ze<|A ?_
     obtain rfl:=sm h
     exact ⟨_,y,zo [.old 0]⟩
   ·refine zq ?_
    obtain rfl:=sm h
    exact ⟨y,_,y,zo []⟩
  ·rintro ⟨⟩ rfl
   refine zn<|A ?_
   exact RT0⟩
def zkv(c:List za)(e:za)(d:zb):Option (Bool):=
  cond e.Interface (some true) ((zhu c e.Name d.Name).bind fun a=>cond (!a.2) (some false) ((zU c a.1).bind fun f=>(idx c f).bind fun b=>(zeb b d.Name).bind fun i=>(idx b.Methods i).bind fun j=>(zix j d).bind fun l=>some l))
def zgE(a:Int)(b:Bool):Option (Sum (Int) (Sum (Unit) (Bool))):=
  cond b (some (.inr (.inr false))) (some (.inl (IntKind.i64.wrap (a+1))))
def zd3(d:List za)(e:T1)(f:zb)(a:Int):Option (Sum (Int) (Sum (Unit) (Bool))):=
  cond (decide (a<(length e:Int))) ((idx e a).bind fun i=>(zU d i).bind fun j=>(idx d j).bind fun b=>(zeb b f.Name).bind fun c=>cond (decide (0≤c)) ((idx b.Methods c).bind fun l=>(zix l f).bind fun m=>zgE a (!m)) (zgE a false)) (some (.inr (.inl ())))
def zgU(a:List za)(d:za)(e:T1)(c:zb):Option (Bool):=
  (zl (fun z=>zd3 a e c z) 0).bind fun o=>zD o (fun b=>zkv a d c) some
theorem zkw(e:List za)(d:za)(f:T1)(a:zb){r:Bool}(h:zgU e d f a=some r):zam Tryz.prog 231 [.ipt 1 [[.isl 6 (map zc e)]] 0 0,.agg (zc d),.isl 1 (map zw f),.agg (zd a)] (bA r):=by
 refine zh Tryz.func231 y kz y y<|A ?_
 refine zf<|A ?_
 obtain ⟨o,ho,h⟩:=bs h
 refine lpB ho (fun z=>[(0,.ipt 1 [[.isl 6 (map zc e)]] 0 0),(2,.isl 1 (map zw f)),(5,.mpt 0 0 0),(7,.mpt 1 0 0),(9,iA z)]) (fun z=>[some (6,[(zc d)]),some (10,[(zd a)])]) (fun b=>[(0,.ipt 1 [[.isl 6 (map zc e)]] 0 0),(5,.mpt 0 0 0),(7,.mpt 1 0 0)]) (fun b=>[some (6,[(zc d)]),some (10,[(zd a)])]) (pG Tryz.f231 bA) (zaf [.old 0,.old 1]) ?_ ?_
 ·rintro i r h
  refine zf<|A ?_
  refine zeh h y (fun j h=>?_) fun j h=>?_
  ·refine ze<|zf<|zi ?_
   obtain ⟨x,B,C,D,p,E,h⟩:=bs3 h
   refine rdA [(0,_),(2,_),(5,_),(7,_),(9,_),(10,_)] [some (6,[(zc d)]),some (10,[(zd a)]),some (6,[(zc p)])] [12,13] [0,1,2,3,4,5,6,7,8,9,10,11] [(32,_),(31,_),(30,_),(29,_),(28,_),(27,_),(26,_),(25,_),(24,_),(23,_),(22,_),(21,_)] 2 (zcq (z:=by exact ⟨(fun _ _=>⟨_,y,y,al 2 ti y<|⟨(.mpt 2 0 0),[],[(10,_)],y,y,y,y,zcq (z:=by exact ⟨nv,(fun _ _=>⟨_,y,y,sto ti y y y<|⟨.any,[],[],y,y,y,t,zcw (z:=zaf [.old 0,.old 1,.old 2])⟩⟩),t⟩)⟩⟩),nw,t⟩)) ?_
   obtain ⟨q,F,h⟩:=bs h
   refine A ?_
   refine zal (X:=Bool) (fun z=>[(0,.ipt 1 [[.isl 6 (map zc e)]] 0 0),(2,.isl 1 (map zw f)),(5,.mpt 0 0 0),(7,.mpt 1 0 0),(9,iA i),(48,bA z)]) (fun z=>[some (6,[(zc d)]),some (10,[(zd a)])]) (fun z=>zgE i z=some r) ?_ ?_
   ·rcases bb (decide (0≤q)) with c |c
    ·replace h:=bT c h
     obtain ⟨G,H,s,I,h⟩:=bs2 h
     exact rdQ [] [0,1,2,3,4,5,6,7,8,9,10,11] [(48,_),(47,_),(46,_),(45,_),(44,_),(43,_),(42,_),(41,_),(40,_),(39,_),(38,_),(37,_)] 0 (zcw (z:=by exact ⟨(!s),h,zaf [.old 0,.old 1]⟩))
    ·replace h:=bF c h
     exact rdQ [] [0,1,2,3,4,5,6,7,8,9,10,11] [(48,_),(47,_),(46,_),(45,_),(44,_),(43,_),(42,_),(41,_),(40,_),(39,_),(38,_),(37,_)] 0 (zcw (z:=by exact ⟨false,h,zaf [.old 0,.old 1]⟩))
   ·rintro J h
    refine zeh h y (fun l h=>?_) fun l h=>?_
    ·refine A ?_
     refine zy ?_
     obtain rfl:=sm h
     exact ⟨_,y,_,y,zad []⟩
    ·refine ze<|A ?_
     obtain rfl:=sm h
     exact ⟨_,y,zo [.old 0,.old 1]⟩
  ·refine zq ?_
   obtain rfl:=sm h
   exact ⟨y,_,y,zo [.old 0,.old 1]⟩
 ·rintro ⟨⟩ rfl
  refine zn<|zf<|A ?_
  refine zeh h y (fun m h=>?_) fun m h=>?_
  ·refine A ?_
   exact RT0
  ·refine ze ?_
   obtain ⟨K,L,h⟩:=bs h
   refine A ?_
   refine zf<|A ?_
   refine zeh h y (fun n h=>?_) fun n h=>?_
   ·refine A ?_
    exact RT0
   ·refine ze ?_
    obtain ⟨M,N,v,O,h⟩:=bs2 h
    refine rdA [(7,.mpt 0 0 0),(14,.mpt 1 0 0)] [some (10,[(zd a)]),some (6,[(zc v)])] [9,10] [0,1,2,3,4,5,6,7,8] [(70,_),(69,_),(68,_),(67,_),(66,_),(65,_),(64,_),(63,_),(62,_)] 2 (zcq (z:=by exact ⟨(fun _ _=>⟨_,y,y,al 2 ti y<|⟨(.mpt 2 0 0),[],[(14,_)],y,y,y,y,zcq (z:=by exact ⟨nv,(fun _ _=>⟨_,y,y,sto ti y y y<|⟨.any,[],[],y,y,y,t,zcw (z:=zaf [.old 1,.old 2])⟩⟩),t⟩)⟩⟩),nw,t⟩)) ?_
    obtain ⟨P,Q,R,S,T,U,h⟩:=bs3 h
    refine rdA [(8,_)] [] [] [0,1,2,3,4,5,6,7,8,9,10] [(8,_),(80,_),(79,_),(78,_),(77,_),(76,_),(75,_),(74,_),(73,_),(72,_),(71,_)] 0 (zcw (z:=zaf [])) ?_
    exact RT0
instance (a:List za)(b:za)(c:T1)(d:zb):PF Tryz.prog 231 [.ipt 1 [[.isl 6 (map zc a)]] 0 0,.agg (zc b),.isl 1 (map zw c),.agg (zd d)] (zgU a b c d) bA:=⟨fun _=>zkw a b c d⟩
def zj2:Option (Bool):=
  some true
def zj1(a:Int):Option (Sum (Int) (Sum (Unit) (Bool))):=
  some (.inl (IntKind.i64.wrap (a+1)))
def zdp(f:List za)(i:za)(c:T1)(b:za)(a:Int):Option (Sum (Int) (Sum (Unit) (Bool))):=
  cond (decide (a<(length b.Methods:Int))) ((idx b.Methods a).bind fun d=>(zgU f i c d).bind fun e=>cond (!e) (some (.inr (.inr false))) (some (.inl (IntKind.i64.wrap (a+1))))) (some (.inr (.inl ())))
def zdq(d:List za)(j:za)(a:T1)(c:Int):Option (Sum (Int) (Sum (Unit) (Bool))):=
  cond (decide (c<((length a):Int))) ((idx a c).bind fun e=>(zU d e).bind fun f=>(idx d f).bind fun i=>(zl (fun z=>zdp d j a i z) 0).bind fun o=>zD o (fun b=>zj1 c) (fun r=>some (.inr (.inr r)))) (some (.inr (.inl ())))
def zhD(a:List za)(c:za):Option (Bool):=
  (zfU a c.Name).bind fun d=>(zl (fun z=>zdq a c d z) 0).bind fun o=>zD o (fun b=>zj2) some
def zj0(a:Int):Option (Sum (Int) (Sum (Unit) (Bool))):=
  some (.inl (IntKind.i64.wrap (a+1)))
def zge(a:Int):Option (Sum (Int) (Sum (Unit) (Bool))):=
  some (.inl (IntKind.i64.wrap (a+1)))
def zfh(a:Int)(b:Bool):Option (Sum (Int) (Sum (Unit) (Bool))):=
  cond b (some (.inr (.inr false))) (zge a)
def zdn(f:List za)(e:za)(i:T1)(b:Int)(a:Int):Option (Sum (Int) (Sum (Unit) (Bool))):=
  cond (decide (a<(length i:Int))) ((idx i a).bind fun j=>(zU f j).bind fun l=>(idx f l).bind fun c=>(idx e.Methods b).bind fun m=>(zeb c m.Name).bind fun d=>(cond (decide (d<0)) (some true) ((idx e.Methods b).bind fun n=>some (n.Name == [36,105,110,105,116]))).bind fun o=>cond o (zge a) ((idx c.Methods d).bind fun p=>(idx e.Methods b).bind fun q=>(zix p q).bind fun s=>cond (!s) (zfh a true) ((idx c.Methods d).bind fun v=>cond v.Static (zfh a true) ((idx e.Methods b).bind fun x=>zfh a x.Static)))) (some (.inr (.inl ())))
def zdo(d:List za)(c:za)(e:T1)(a:Int):Option (Sum (Int) (Sum (Unit) (Bool))):=
  cond (decide (a<(length c.Methods:Int))) ((zl (fun z=>zdn d c e a z) 0).bind fun o=>zD o (fun b=>zj0 a) (fun r=>some (.inr (.inr r)))) (some (.inr (.inl ())))
def zh3(a:List za)(c:za):Option (Bool):=
  (zaI a c.Name).bind fun d=>(zkM d 1 (length d:Int)).bind fun e=>(zl (fun z=>zdo a c e z) 0).bind fun o=>zD o (fun b=>zhD a c) some
instance (j:List za)(c:za):PF Tryz.prog 159 [.ipt 1 [[.isl 6 (map zc j)]] 0 0,.agg (zc c)] (zh3 j c) bA:=⟨fun r h=>by
 refine zh Tryz.func159 y kz y y<|A ?_
 obtain ⟨G,V,D,S,h⟩:=bs2 h
 refine A ?_
 refine u<|sx [] (zaL j c.Name V)<|zv (env0:=[(0,.ipt 1 [[.isl 6 (map zc j)]] 0 0),(3,.mpt 0 0 0),(17,.msl 1 0 (length G))]) (st0:=[some (6,[(zc c)]),some (1,map zw G)]) (zo [.old 0,.old 1])<|zv (env0:=[(0,.ipt 1 [[.isl 6 (map zc j)]] 0 0),(3,.mpt 0 0 0),(17,.isl 1 (map zw G))]) (st0:=[some (6,[(zc c)])]) (zo [.old 0])<|u<|slI (a:=1) (b:=(length G:Int)) ti y ti y y (zlZ y S) y S<|A ?_
 refine zf<|A ?_
 obtain ⟨o,ho,h⟩:=bs h
 refine lpB ho (fun z=>[(0,.ipt 1 [[.isl 6 (map zc j)]] 0 0),(3,.mpt 0 0 0),(5,.isl 1 (map zw D)),(6,iA z)]) (fun z=>[some (6,[(zc c)])]) (fun b=>[(0,.ipt 1 [[.isl 6 (map zc j)]] 0 0),(3,.mpt 0 0 0)]) (fun b=>[some (6,[(zc c)])]) (pG Tryz.f159 bA) (zaf [.old 0]) ?_ ?_
 ·rintro l r h
  refine zf<|A ?_
  refine zeh h y (fun L h=>?_) fun L h=>?_
  ·refine ze<|zf<|zi<|A ?_
   obtain ⟨o,ho,h⟩:=bs h
   refine lpS ho (fun z=>[(0,.ipt 1 [[.isl 6 (map zc j)]] 0 0),(3,.mpt 0 0 0),(5,.isl 1 (map zw D)),(6,iA l),(7,iA z)]) (fun z=>[some (6,[(zc c)])]) (fun b=>[(0,.ipt 1 [[.isl 6 (map zc j)]] 0 0),(3,.mpt 0 0 0),(5,.isl 1 (map zw D)),(6,iA l)]) (fun b=>[some (6,[(zc c)])]) (pG Tryz.f159 bA) (zaf [.old 0]) ?_ ?_ ?_
   ·rintro q r h
    refine zf<|A ?_
    refine zeh h y (fun M h=>?_) fun M h=>?_
    ·refine ze ?_
     refine zal (X:=Unit) (fun z=>[(0,.ipt 1 [[.isl 6 (map zc j)]] 0 0),(3,.mpt 0 0 0),(5,.isl 1 (map zw D)),(6,iA l),(7,iA q)]) (fun z=>[some (6,[(zc c)])]) (fun z=>zge q=some r) ?_ ?_
     ·refine zi ?_
      obtain ⟨W,Y,Z,q61,f,q62,h⟩:=bs3 h
      refine rdA [(0,_),(3,_),(5,_),(6,_),(7,_),(8,_)] [some (6,[(zc c)]),some (6,[(zc f)])] [12,13] [0,1,2,3,4,5,6,7,8,9,10,11] [(43,_),(42,_),(41,_),(40,_),(39,_),(38,_),(37,_),(36,_),(35,_),(34,_),(33,_),(32,_)] 2 (zcq (z:=by exact ⟨(fun _ _=>⟨_,y,y,al 1 ti y<|⟨(.mpt 1 0 0),[],[(8,_)],y,y,y,y,zcq (z:=by exact ⟨nv,(fun _ _=>⟨_,y,y,sto ti y y y<|⟨.any,[],[],y,y,y,t,zcw (z:=zaf [.old 0,.old 1])⟩⟩),t⟩)⟩⟩),nw,t⟩)) ?_
      obtain ⟨v53,q63,p,q64,h⟩:=bs2 h
      refine rdA [(0,_),(3,_),(5,_),(6,_),(7,_),(8,_),(9,_)] [some (6,[(zc c)]),some (6,[(zc f)])] [] [0,1,2,3,4,5,6,7,8] [(9,_),(51,_),(50,_),(49,_),(48,_),(47,_),(46,_),(45,_),(44,_)] 0 (zcw (z:=zaf [.old 0,.old 1])) ?_
      refine zf ?_
      obtain ⟨v56,q67,h⟩:=bs h
      refine A ?_
      refine zeh h y (fun N h=>?_) fun N h=>?_
      ·refine zq ?_
       exact ⟨(),h,zo [.old 0]⟩
      ·refine ze ?_
       refine zal (X:=Bool) (fun z=>[(0,.ipt 1 [[.isl 6 (map zc j)]] 0 0),(3,.mpt 0 0 0),(5,.isl 1 (map zw D)),(6,iA l),(7,iA q),(90,bA z)]) (fun z=>[some (6,[(zc c)])]) (fun z=>zfh q z=some r) ?_ ?_
       ·obtain ⟨s,v,x,B,e,I,h⟩:=bs3 h
        rcases bb (!e) with d |d
        ·replace h:=bT d h
         exact rdQ [] [0,1,2,3,4,5,6,7,8,9,10,11,12,13,14,15,16,17,18,19,20,21,22,23,24,25,26,27] [(90,_),(89,_),(88,_),(87,_),(86,_),(85,_),(84,_),(83,_),(82,_),(81,_),(80,_),(79,_),(78,_),(77,_),(76,_),(75,_),(74,_),(73,_),(72,_),(71,_),(70,_),(69,_),(68,_),(67,_),(66,_),(65,_),(64,_),(63,_)] 0 (zcw (z:=by exact ⟨true,h,zaf [.old 0]⟩))
        ·replace h:=bF d h
         obtain ⟨i,C,h⟩:=bs h
         rcases bb i.Static with m |m
         ·replace h:=bT m h
          exact zc1 [] [27,26,25,24,23,22,21,20,19,18,17,16,15,14,13,12,11,10,9,8,7,6,5,4,3,2,1,0] [(90,bA true),(89,.lit undef),(88,.lit undef),(87,.lit undef),(86,.lit undef),(85,.lit undef),(84,.lit undef),(83,bA i.Static),(82,bA i.Static),(81,bA i.Static),(80,.ipt 10 (map zd f.Methods) (Int.toNat p) 3),(79,.ipt 10 (map zd f.Methods) (Int.toNat p) 0),(78,iA p),(77,.isl 10 (map zd f.Methods)),(76,.mpt 1 0 5),(75,bA (!e)),(74,bA (!e)),(73,bA e),(72,.agg (zd x)),(71,.ipt 10 (map zd c.Methods) (Int.toNat l) 0),(70,iA l),(69,.isl 10 (map zd c.Methods)),(68,.mpt 0 0 5),(67,.agg (zd s)),(66,.ipt 10 (map zd f.Methods) (Int.toNat p) 0),(65,iA p),(64,.isl 10 (map zd f.Methods)),(63,.mpt 1 0 5)] 0 kz kz y kz (zvj ⟨pe,pe,pe,pe,pe,pe,pe,pe,pe,(fun _=>pag (b:=(!e)) y y y y d y (ldI ti y (zaj C).2.2 y<|w)),(fun _=>pag (b:=(!e)) y y y y d y (fa ti y y y<|w)),(fun _=>pag (b:=(!e)) y y y y d y (ixI ti y ti y y y C<|w)),pe,(fun _=>pag (b:=(!e)) y y y y d y (ld ti y y<|w)),(fun _=>pag (b:=(!e)) y y y y d y (fa ti y y y<|w)),pe,pe,(pb y (pc (zlG s x I) y y y w)),(pb y (ldI ti y (zaj B).2.2 y w)),(pb y (ixI ti y ti y y y B w)),pe,(pb y (ld ti y y w)),(pb y (fa ti y y y w)),(pb y (ldI ti y (zaj v).2.2 y w)),(pb y (ixI ti y ti y y y v w)),pe,(pb y (ld ti y y w)),(pb y (fa ti y y y w)),t⟩ ⟨true,h,zo [.old 0]⟩)
         ·replace h:=bF m h
          obtain ⟨E,J,h⟩:=bs h
          exact zc1 [] [27,26,25,24,23,22,21,20,19,18,17,16,15,14,13,12,11,10,9,8,7,6,5,4,3,2,1,0] [(90,bA E.Static),(89,bA E.Static),(88,.ipt 10 (map zd c.Methods) (Int.toNat l) 3),(87,.ipt 10 (map zd c.Methods) (Int.toNat l) 0),(86,iA l),(85,.isl 10 (map zd c.Methods)),(84,.mpt 0 0 5),(83,bA i.Static),(82,bA i.Static),(81,bA i.Static),(80,.ipt 10 (map zd f.Methods) (Int.toNat p) 3),(79,.ipt 10 (map zd f.Methods) (Int.toNat p) 0),(78,iA p),(77,.isl 10 (map zd f.Methods)),(76,.mpt 1 0 5),(75,bA (!e)),(74,bA (!e)),(73,bA e),(72,.agg (zd x)),(71,.ipt 10 (map zd c.Methods) (Int.toNat l) 0),(70,iA l),(69,.isl 10 (map zd c.Methods)),(68,.mpt 0 0 5),(67,.agg (zd s)),(66,.ipt 10 (map zd f.Methods) (Int.toNat p) 0),(65,iA p),(64,.isl 10 (map zd f.Methods)),(63,.mpt 1 0 5)] 0 kz kz y kz (zvj ⟨pe,(fun _=>pag (b:=i.Static) y y y y m y (ldI ti y (zaj J).2.2 y<|w)),(fun _=>pag (b:=i.Static) y y y y m y (fa ti y y y<|w)),(fun _=>pag (b:=i.Static) y y y y m y (ixI ti y ti y y y J<|w)),pe,(fun _=>pag (b:=i.Static) y y y y m y (ld ti y y<|w)),(fun _=>pag (b:=i.Static) y y y y m y (fa ti y y y<|w)),pe,pe,(fun _=>pag (b:=(!e)) y y y y d y (ldI ti y (zaj C).2.2 y<|w)),(fun _=>pag (b:=(!e)) y y y y d y (fa ti y y y<|w)),(fun _=>pag (b:=(!e)) y y y y d y (ixI ti y ti y y y C<|w)),pe,(fun _=>pag (b:=(!e)) y y y y d y (ld ti y y<|w)),(fun _=>pag (b:=(!e)) y y y y d y (fa ti y y y<|w)),pe,pe,(pb y (pc (zlG s x I) y y y w)),(pb y (ldI ti y (zaj B).2.2 y w)),(pb y (ixI ti y ti y y y B w)),pe,(pb y (ld ti y y w)),(pb y (fa ti y y y w)),(pb y (ldI ti y (zaj v).2.2 y w)),(pb y (ixI ti y ti y y y v w)),pe,(pb y (ld ti y y w)),(pb y (fa ti y y y w)),t⟩ ⟨E.Static,h,zo [.old 0]⟩)
       ·rintro v62 h
        refine zeh h y (fun O h=>?_) fun O h=>?_
        ·refine A ?_
         refine zy ?_
         obtain rfl:=sm h
         exact ⟨_,y,_,y,zad []⟩
        ·refine ze ?_
         exact ⟨(),h,zo [.old 0]⟩
     ·rintro ⟨⟩ h
      refine A ?_
      obtain rfl:=sm h
      exact ⟨_,y,zo [.old 0]⟩
    ·refine zq ?_
     obtain rfl:=sm h
     exact ⟨y,_,y,zo [.old 0]⟩
   ·rintro ⟨⟩ rfl
    refine zn<|A ?_
    obtain rfl:=sm h
    exact ⟨_,y,zo [.old 0]⟩
   ·rintro r' rfl env st hp
    obtain rfl:=sm h
    exact ⟨_,y,hp⟩
  ·refine zq ?_
   obtain rfl:=sm h
   exact ⟨y,_,y,zo [.old 0]⟩
 ·rintro ⟨⟩ rfl
  refine zn ?_
  obtain ⟨n,T,h⟩:=bs h
  refine A ?_
  refine u<|sx [] (zh2 j c.Name T)<|zv (env0:=[(0,.ipt 1 [[.isl 6 (map zc j)]] 0 0),(3,.mpt 0 0 0),(94,.msl 1 0 (length n))]) (st0:=[some (6,[(zc c)]),some (1,map zw n)]) (zo [.old 0,.old 1])<|A ?_
  refine zf<|A ?_
  obtain ⟨o,ho,h⟩:=bs h
  refine lpB ho (fun z=>[(0,.ipt 1 [[.isl 6 (map zc j)]] 0 0),(3,.mpt 0 0 0),(10,.msl 1 0 (length n)),(11,iA z)]) (fun z=>[some (6,[(zc c)]),some (1,map zw n)]) (fun b=>[]) (fun b=>[]) (pG Tryz.f159 bA) (zaf [.old 0,.old 1]) ?_ ?_
  ·rintro K r h
   refine zf<|A ?_
   refine zeh h y (fun P h=>?_) fun P h=>?_
   ·refine ze<|zf<|zi ?_
    obtain ⟨v75,q91,v76,q92,F,q93,h⟩:=bs3 h
    refine rdA [(0,_),(3,_),(10,_),(11,_),(12,_)] [some (6,[(zc c)]),some (1,map zw n),some (6,[(zc F)])] [12,13] [0,1,2,3,4,5,6,7,8,9,10,11] [(112,_),(111,_),(110,_),(109,_),(108,_),(107,_),(106,_),(105,_),(104,_),(103,_),(102,_),(101,_)] 2 (zcq (z:=by exact ⟨(fun _ _=>⟨_,y,y,al 2 ti y<|⟨(.mpt 2 0 0),[],[(12,_)],y,y,y,y,zcq (z:=by exact ⟨nv,(fun _ _=>⟨_,y,y,sto ti y y y<|⟨.any,[],[],y,y,y,t,zcw (z:=zaf [.old 0,.old 1,.old 2])⟩⟩),t⟩)⟩⟩),nw,t⟩)) ?_
    refine A ?_
    obtain ⟨o,ho,h⟩:=bs h
    refine lpS ho (fun z=>[(0,.ipt 1 [[.isl 6 (map zc j)]] 0 0),(3,.mpt 0 0 0),(10,.msl 1 0 (length n)),(11,iA K),(12,.mpt 2 0 0),(13,iA z)]) (fun z=>[some (6,[(zc c)]),some (1,map zw n),some (6,[(zc F)])]) (fun b=>[(0,.ipt 1 [[.isl 6 (map zc j)]] 0 0),(3,.mpt 0 0 0),(10,.msl 1 0 (length n)),(11,iA K)]) (fun b=>[some (6,[(zc c)]),some (1,map zw n)]) (pG Tryz.f159 bA) (zaf [.old 0,.old 1,.old 2]) ?_ ?_ ?_
    ·rintro v81 r h
     refine zf<|A ?_
     refine zeh h y (fun Q h=>?_) fun Q h=>?_
     ·refine ze<|zf<|zi ?_
      obtain ⟨U,q99,v83,R,h⟩:=bs2 h
      refine rdA [(0,_),(3,_),(10,_),(11,_),(12,_),(13,_),(129,_)] [some (6,[(zc c)]),some (1,map zw n),some (6,[(zc F)])] [] [0,1,2,3,4,5,6,7,8,9] [(129,_),(128,_),(127,_),(126,_),(125,_),(124,_),(123,_),(122,_),(121,_),(120,_)] 0 (zcw ⟨peC,peC,peC,peC,peC,peC,peC,peC,(by exact pb y (pcs (zkw j c n U R) y y (.cons (si y) (.cons (si y) (.cons (zhE y (fun _=>y)) (.cons (si y) .nil)))) zbI<|w)),peC,t⟩ (zaf [.old 0,.old 1,.old 2])) ?_
      refine zeh h y (fun H h=>?_) fun H h=>?_
      ·refine A ?_
       refine zy ?_
       obtain rfl:=sm h
       exact ⟨_,y,_,y,zad []⟩
      ·refine ze<|A ?_
       obtain rfl:=sm h
       exact ⟨_,y,zo [.old 0,.old 1,.old 2]⟩
     ·refine zq ?_
      obtain rfl:=sm h
      exact ⟨y,_,y,zo [.old 0,.old 1]⟩
    ·rintro ⟨⟩ rfl
     refine zn<|A ?_
     obtain rfl:=sm h
     exact ⟨_,y,zo [.old 0,.old 1]⟩
    ·rintro r' rfl env st hp
     obtain rfl:=sm h
     exact ⟨_,y,hp⟩
   ·refine zq ?_
    obtain rfl:=sm h
    exact ⟨y,_,y,zo []⟩
  ·rintro ⟨⟩ rfl
   refine zn<|A ?_
   exact RT0⟩
def zot:Option (Int):=
  some 0
def zdi(b:zz)(a:Int):Option (Sum (Int) (Sum (Unit) (Int))):=
  cond (decide (a<(length b.L:Int))) ((idx b.L a).bind fun c=>(zh3 b.L c).bind fun d=>cond (!d) (some (.inr (.inr 1))) (some (.inl (IntKind.i64.wrap (a+1))))) (some (.inr (.inl ())))
def zjW(a:zz):Option (Int):=
  (zl (fun z=>zdi a z) 0).bind fun o=>zD o (fun b=>zot) some
def zdh(a:zz)(b:Int):Option (Sum (Int) (Sum (Unit) (Int))):=
  cond (decide (b<(length a.L:Int))) ((idx a.L b).bind fun c=>(zh5 a.L c).bind fun d=>cond (!d) (some (.inr (.inr 4))) (some (.inl (IntKind.i64.wrap (b+1))))) (some (.inr (.inl ())))
def zec(c:Option zz):Option (Int):=
  zuB c (none) (fun a=>(zl (fun z=>zdh a z) 0).bind fun o=>zD o (fun b=>zjW a) some)
theorem zhA(a:Option zz){r:Int}(h:zec a=some r):zam Tryz.prog 94 [ziT 1 zeJ a] (iA r):=by
 refine zh Tryz.func94 y kz y y ?_
 unfold zec at h
 rcases a with _ |c
 ·replace h:=oeN h
  refine A ?_
  refine zf<|A ?_
  cases h
 ·replace h:=oeS h
  refine A ?_
  refine zf<|A ?_
  obtain ⟨o,ho,h⟩:=bs h
  refine lpB ho (fun z=>[(0,.ipt 1 [[.isl 6 (map zc c.L)]] 0 0),(3,iA z)]) (fun z=>[]) (fun b=>[(0,.ipt 1 [[.isl 6 (map zc c.L)]] 0 0)]) (fun b=>[]) (pG Tryz.f94 iA) (zaf []) ?_ ?_
  ·rintro q r h
   refine zf<|A ?_
   refine zeh h y (fun f h=>?_) fun f h=>?_
   ·refine ze<|zf<|zi ?_
    obtain ⟨s,v,x,B,h⟩:=bs2 h
    refine A ?_
    refine zeh h y (fun i h=>?_) fun i h=>?_
    ·refine A ?_
     refine zy ?_
     obtain rfl:=sm h
     exact ⟨_,y,_,y,zad []⟩
    ·refine ze<|A ?_
     obtain rfl:=sm h
     exact ⟨_,y,zo []⟩
   ·refine zq ?_
    obtain rfl:=sm h
    exact ⟨y,_,y,zo []⟩
  ·rintro ⟨⟩ rfl
   refine zn<|zf<|A ?_
   obtain ⟨o,ho,h⟩:=bs h
   refine lpB ho (fun z=>[(0,.ipt 1 [[.isl 6 (map zc c.L)]] 0 0),(4,iA z)]) (fun z=>[]) (fun b=>[]) (fun b=>[]) (pG Tryz.f94 iA) (zaf []) ?_ ?_
   ·rintro j r h
    refine zf<|A ?_
    refine zeh h y (fun d h=>?_) fun d h=>?_
    ·refine ze<|zf<|zi ?_
     obtain ⟨l,m,n,p,h⟩:=bs2 h
     refine A ?_
     refine zeh h y (fun e h=>?_) fun e h=>?_
     ·refine A ?_
      refine zy ?_
      obtain rfl:=sm h
      exact ⟨_,y,_,y,zad []⟩
     ·refine ze<|A ?_
      obtain rfl:=sm h
      exact ⟨_,y,zo []⟩
    ·refine zq ?_
     obtain rfl:=sm h
     exact ⟨y,_,y,zo []⟩
   ·rintro ⟨⟩ rfl
    refine zn<|A ?_
    exact RT0
instance (a:Option zz):PF Tryz.prog 94 [ziT 1 zeJ a] (zec a) iA:=⟨fun _=>zhA a⟩
def zmg:Option (T0×zb×Bool):=
  some ([],(zb.mk [] [] [] false false 0 0 [] [] []),false)
def zmh(e:T0)(f:zz)(d:T1)(a:Int):Option (Sum (Int) (Sum (Unit) (T0×zb×Bool))):=
  cond (decide (a<((length d):Int))) ((idx d a).bind fun i=>(zU f.L i).bind fun j=>(idx f.L j).bind fun b=>(zeb b e).bind fun c=>cond ((decide (0≤c))&&(!(e == [36,105,110,105,116]))) ((idx d a).bind fun l=>(idx b.Methods c).bind fun m=>some (.inr (.inr (l,m,true)))) (some (.inl (IntKind.i64.wrap (a+1))))) (some (.inr (.inl ())))
def zeK(c:Option zz)(d:T0)(e:T0):Option (T0×zb×Bool):=
  zuB c (none) (fun a=>(zaI a.L d).bind fun f=>(zl (fun z=>zmh e a f z) 0).bind fun o=>zD o (fun b=>zmg) some)
theorem zii(d:Option zz)(e:T0)(c:T0){r:T0×zb×Bool}(h:zeK d e c=some r):zam Tryz.prog 157 [ziT 1 zeJ d,sA e,sA c] (.tup [sA r.1,.agg (zd r.2.1),bA r.2.2]):=by
 refine zh Tryz.func157 y kz y y ?_
 unfold zeK at h
 rcases d with _ |f
 ·replace h:=oeN h
  refine A ?_
  cases h
 ·replace h:=oeS h
  refine A ?_
  obtain ⟨a,n,h⟩:=bs h
  refine A ?_
  refine u<|sx [] (zaL f.L e n)<|zv (env0:=[(0,.ipt 1 [[.isl 6 (map zc f.L)]] 0 0),(2,sA c),(7,.mpt 0 0 0),(15,.msl 1 0 (length a))]) (st0:=[some (10,[[sA [],.lit (.slice none 0 0),sA [],bA false,bA false,iA 0,iA 0,.lit (.slice none 0 0),.lit (.slice none 0 0),.lit (.slice none 0 0)]]),some (1,map zw a)]) (zo [.old 0,.old 1])<|A ?_
  refine zf<|A ?_
  obtain ⟨o,ho,h⟩:=bs h
  refine lpB ho (fun z=>[(0,.ipt 1 [[.isl 6 (map zc f.L)]] 0 0),(2,sA c),(7,.mpt 0 0 0),(9,.msl 1 0 (length a)),(10,iA z)]) (fun z=>[some (10,[[sA [],.lit (.slice none 0 0),sA [],bA false,bA false,iA 0,iA 0,.lit (.slice none 0 0),.lit (.slice none 0 0),.lit (.slice none 0 0)]]),some (1,map zw a)]) (fun b=>[(7,.mpt 0 0 0)]) (fun b=>[some (10,[[sA [],.lit (.slice none 0 0),sA [],bA false,bA false,iA 0,iA 0,.lit (.slice none 0 0),.lit (.slice none 0 0),.lit (.slice none 0 0)]])]) (pG Tryz.f157 (fun r=>.tup [sA r.1,.agg (zd r.2.1),bA r.2.2])) (zaf [.old 0,.old 1]) ?_ ?_
  ·rintro p r h
   refine zf<|A ?_
   refine zeh h y (fun i h=>?_) fun i h=>?_
   ·refine ze<|zf<|zi ?_
    obtain ⟨q,s,v,x,l,B,h⟩:=bs3 h
    refine rdA [(0,_),(2,_),(7,_),(9,_),(10,_),(11,_)] [some (10,[[sA [],.lit (.slice none 0 0),sA [],bA false,bA false,iA 0,iA 0,.lit (.slice none 0 0),.lit (.slice none 0 0),.lit (.slice none 0 0)]]),some (1,map zw a),some (6,[(zc l)])] [12,13] [0,1,2,3,4,5,6,7,8,9,10,11] [(33,_),(32,_),(31,_),(30,_),(29,_),(28,_),(27,_),(26,_),(25,_),(24,_),(23,_),(22,_)] 2 (zcq (z:=by exact ⟨(fun _ _=>⟨_,y,y,al 2 ti y<|⟨(.mpt 2 0 0),[],[(11,_)],y,y,y,y,zcq (z:=by exact ⟨nv,(fun _ _=>⟨_,y,y,sto ti y y y<|⟨.any,[],[],y,y,y,t,zcw (z:=zaf [.old 0,.old 1,.old 2])⟩⟩),t⟩)⟩⟩),nw,t⟩)) ?_
    obtain ⟨C,D,h⟩:=bs h
    refine A ?_
    refine A ?_
    refine zeh h y (fun j h=>?_) fun j h=>?_
    ·obtain ⟨E,F,m,G,h⟩:=bs2 h
     refine rdA [(6,_),(7,_),(8,_)] [some (10,[(zd m)])] [10] [0,1,2,3,4,5,6,7,8,9] [(6,_),(51,_),(50,_),(49,_),(48,_),(47,_),(46,_),(45,_),(44,_),(43,_)] 1 (zcq (z:=by exact ⟨(fun _ _=>⟨_,y,y,sto ti y y y<|⟨.any,[11],[(8,_)],y,y,y,t,zcw (z:=zaf [.old 0])⟩⟩),t⟩)) ?_
     refine zy ?_
     obtain rfl:=sm h
     exact ⟨_,y,_,y,zad []⟩
    ·refine ze<|A ?_
     obtain rfl:=sm h
     exact ⟨_,y,zo [.old 0,.old 1]⟩
   ·refine zq ?_
    obtain rfl:=sm h
    exact ⟨y,_,y,zo [.old 0]⟩
  ·rintro ⟨⟩ rfl
   refine zn<|A ?_
   exact RT0
instance (a:Option zz)(b:T0)(c:T0):PF Tryz.prog 157 [ziT 1 zeJ a,sA b,sA c] (zeK a b c) (fun r=>(.tup [sA r.1,.agg (zd r.2.1),bA r.2.2])):=⟨fun _=>zii a b c⟩
def zlH(c:T1)(d:T1)(a:Bool)(b:Bool):Option (Bool):=
  some ((!a)&&(!b))
def zga(i:List za)(j:T0)(a:zb)(l:Bool)(b:Int)(m:zS×Bool)(n:Bool)(d:T1)(e:T1):Option (Sum (T1×T1×Bool×Bool×Int) (Sum (T1×T1×Bool×Bool) (Bool))):=
  (zb4 i j a d e (n||(!(m.2||l))) b).bind fun o=>(idx a.Code b).bind fun p=>(zj i j a d e o p).bind fun c=>(idx a.Code b).bind fun f=>some (.inl (c.1,c.2.1,c.2.2,(!(zhY f.Op)),(IntKind.i64.wrap (b+1))))
def zf9(i:List za)(j:T0)(b:zb)(l:T1)(m:T1)(c:Bool)(d:Int)(a:zS×Bool)(e:Bool):Option (Sum (T1×T1×Bool×Bool×Int) (Sum (T1×T1×Bool×Bool) (Bool))):=
  cond a.2 ((zdO (zgG.mk a.1.Locals a.1.Stack)).bind fun f=>zga i j b c d a e f.1 f.2) (zga i j b c d a e l m)
def zlI(j:List za)(l:T0)(c:zb)(a:T1)(b:T1)(d:Bool)(f:Bool)(e:Int):Option (Sum (T1×T1×Bool×Bool×Int) (Sum (T1×T1×Bool×Bool) (Bool))):=
  cond ((decide (e<(length c.Code:Int)))&&(!d)) ((zcI j l c a b d e).bind fun i=>cond (i.2&&f) ((zdu j l c a b d e a b).bind fun m=>zf9 j l c a b f e i m) (zf9 j l c a b f e i d)) (some (.inr (.inl (a,b,d,f))))
def zml(e:List za)(f:T0)(a:zb)(c:Bool):Option (Bool):=
  (cond (a.Ret == [86]) (some true) ((zL e a.Ret).bind fun i=>some i)).bind fun d=>(zfk e f a [] [] (c||(!d))).bind fun j=>(zl (fun z=>zlI e f a z.1 z.2.1 z.2.2.1 z.2.2.2.1 z.2.2.2.2) (j,[],(c||(!d)),true,0)).bind fun o=>zD o (fun b=>zlH b.1 b.2.1 b.2.2.1 b.2.2.2) some
def zmo(f:List za)(b:zb)(c:Bool)(a:Int):Option (Sum (Bool×Int) (Sum (Bool) (Bool))):=
  cond (decide (a<(length b.Params:Int))) ((idx b.Params a).bind fun d=>(zL f d).bind fun e=>some (.inl ((c||(!e)),(IntKind.i64.wrap (a+1))))) (some (.inr (.inl c)))
def zmk(c:List za)(e:T0)(a:zb)(d:Bool):Option (Bool):=
  (zl (fun z=>zmo c a z.1 z.2) (d,0)).bind fun o=>zD o (fun b=>zml c e a b) some
def zmj(a:Int)(b:Bool):Option (Sum (Bool×Int) (Sum (Bool) (Bool))):=
  some (.inl (b,(IntKind.i64.wrap (a+1))))
def zmm(m:List za)(b:T1)(c:Bool)(a:Int):Option (Sum (Bool×Int) (Sum (Bool) (Bool))):=
  cond (decide (a<((length b):Int))) ((idx b a).bind fun d=>(cond (d == [84]) (some true) ((idx b a).bind fun e=>some (e == [78]))).bind fun f=>(cond f (some true) ((idx b a).bind fun i=>(zL m i).bind fun j=>some j)).bind fun l=>some (.inl ((c||(!l)),(IntKind.i64.wrap (a+1))))) (some (.inr (.inl c)))
def zmn(l:List za)(c:zb)(d:Bool)(a:Int):Option (Sum (Bool×Int) (Sum (Bool) (Bool))):=
  cond (decide (a<(length c.Maps:Int))) ((idx c.Maps a).bind fun e=>(idx c.Maps a).bind fun f=>(zh9 16 ([]:T1) e.Locals).bind fun i=>(zh9 16 i f.Stack).bind fun j=>(zl (fun z=>zmm l j z.1 z.2) (d,0)).bind fun o=>zD o (fun b=>zmj a b) (fun r=>some (.inr (.inr r)))) (some (.inr (.inl d)))
def zhC(a:List za)(f:T0)(c:Int):Option (Bool):=
  (zU a f).bind fun d=>(cond ((decide (d<0))||(decide (c<0))) (some true) ((idx a d).bind fun j=>some (decide ((length j.Methods:Int)≤c)))).bind fun l=>(cond l (some true) ((idx a d).bind fun m=>(idx m.Methods c).bind fun n=>some n.Abstract)).bind fun p=>cond p (some false) ((idx a d).bind fun i=>(idx i.Methods c).bind fun e=>(zl (fun z=>zmn a e z.1 z.2) (false,0)).bind fun o=>zD o (fun b=>zmk a f e b) some)
instance (c:List za)(d:T0)(V:Int):PF Tryz.prog 77 [.ipt 1 [[.isl 6 (map zc c)]] 0 0,sA d,iA V] (zhC c d V) bA:=⟨fun r h=>by
 refine zh Tryz.func77 y kz y y<|A ?_
 obtain ⟨v4,q1,h⟩:=bs h
 refine A ?_
 refine zf ?_
 obtain ⟨v6,q5,v9,q9,h⟩:=bs2 h
 refine A ?_
 refine zeh h y (fun O h=>?_) fun O h=>?_
 ·refine A ?_
  exact RT0
 ·refine ze ?_
  obtain ⟨v10,q11,a,q12,h⟩:=bs2 h
  refine A ?_
  refine zf<|A ?_
  obtain ⟨o,ho,h⟩:=bs h
  refine lpB ho (fun z=>[(0,.ipt 1 [[.isl 6 (map zc c)]] 0 0),(8,.mpt 0 0 0),(9,iA z.2)]) (fun z=>[some (15,[(rK c d a (.lit (.slice none 0 0)) (.lit (.slice none 0 0)) (bA z.1))])]) (fun b=>[(0,.ipt 1 [[.isl 6 (map zc c)]] 0 0),(8,.mpt 0 0 0)]) (fun b=>[some (15,[(rK c d a (.lit (.slice none 0 0)) (.lit (.slice none 0 0)) (bA b))])]) (pG Tryz.f77 bA) (zaf [.old 0]) ?_ ?_
  ·rintro ⟨W,m⟩ r h
   refine zf<|A ?_
   refine zeh h y (fun P h=>?_) fun P h=>?_
   ·refine ze<|zf<|zi ?_
    obtain ⟨Y,x,Z,v,H,q39,n,q40,h⟩:=bs4 h
    refine rdA [(0,.ipt 1 [[.isl 6 (map zc c)]] 0 0),(8,.mpt 0 0 0),(9,iA m),(10,.msl 1 0 (length n))] [some (15,[(rK c d a (.lit (.slice none 0 0)) (.lit (.slice none 0 0)) (bA W))]),some (1,map zw n)] [9,19] [18,17,16,15,14,13,12,11,10,8,7,6,5,4,3,2,1,0] [(96,.isl 1 (map zw Z.Stack)),(95,.ipt 3 (map zK a.Maps) (Int.toNat m) 2),(94,.ipt 3 (map zK a.Maps) (Int.toNat m) 0),(93,iA m),(92,.isl 3 (map zK a.Maps)),(91,.mpt 0 0 10),(90,.mpt 0 0 2),(89,.mpt 0 0 0),(88,.mpt 0 0 0),(86,.isl 1 (map zw Y.Locals)),(85,.ipt 3 (map zK a.Maps) (Int.toNat m) 1),(84,.ipt 3 (map zK a.Maps) (Int.toNat m) 0),(83,iA m),(82,.isl 3 (map zK a.Maps)),(81,.mpt 0 0 10),(80,.mpt 0 0 2),(79,.mpt 0 0 0),(78,.mpt 0 0 0)] 2 (zwp ⟨(pb y (ldI ti y (zaj v).2.2 y w)),(pb y (fa ti y y y w)),(pb y (ixI ti y ti y y y v w)),pe,(pb y (ld ti y y w)),(pb y (fa ti y y y w)),(pb y (fa ti y y y w)),pe,pe,(pb y (ldI ti y (zaj x).2.2 y w)),(pb y (fa ti y y y w)),(pb y (ixI ti y ti y y y x w)),pe,(pb y (ld ti y y w)),(pb y (fa ti y y y w)),(pb y (fa ti y y y w)),pe,pe,t⟩ ⟨(fun _ _=>⟨_,y,y,apN (f:=zw) 1 ti y ti y y (by decide) ti y y y roI (fun _=>y) y q39<|⟨(.msl 1 0 (length H)),[],[(87,.msl 1 0 (length H))],y,y,kz,y,zwp ⟨(pb y (ldI ti y (zaj v).2.2 y w)),(pb y (fa ti y y y w)),(pb y (ixI ti y ti y y y v w)),pe,(pb y (ld ti y y w)),(pb y (fa ti y y y w)),(pb y (fa ti y y y w)),pe,pe,pe,(pb y (fa ti y y y w)),(pb y (ixI ti y ti y y y x w)),pe,(pb y (ld ti y y w)),(pb y (fa ti y y y w)),(pb y (fa ti y y y w)),pe,pe,t⟩ ⟨nv,(fun _ _=>⟨_,y,y,apM 2 ti y ti y y (by decide) ti y y y y roI (fun _=>y) y q40<|⟨(.msl 2 0 (length n)),[20],[(10,.msl 2 0 (length n)),(97,.msl 2 0 (length n))],y,y,kz,y,zvj ⟨pe,pe,(pb y (fa ti y y y w)),(pb y (ixI ti y ti y y y v w)),pe,(pb y (ld ti y y w)),(pb y (fa ti y y y w)),(pb y (fa ti y y y w)),pe,pe,pe,(pb y (fa ti y y y w)),(pb y (ixI ti y ti y y y x w)),pe,(pb y (ld ti y y w)),(pb y (fa ti y y y w)),(pb y (fa ti y y y w)),pe,pe,t⟩ (zo [.old 0,.old 2])⟩⟩),t⟩⟩⟩),nw,t⟩) ?_
    refine A ?_
    obtain ⟨o,ho,h⟩:=bs h
    refine lpS ho (fun z=>[(0,.ipt 1 [[.isl 6 (map zc c)]] 0 0),(8,.mpt 0 0 0),(9,iA m),(10,.msl 1 0 (length n)),(11,iA z.2)]) (fun z=>[some (15,[(rK c d a (.lit (.slice none 0 0)) (.lit (.slice none 0 0)) (bA z.1))]),some (1,map zw n)]) (fun b=>[(0,.ipt 1 [[.isl 6 (map zc c)]] 0 0),(8,.mpt 0 0 0),(9,iA m)]) (fun b=>[some (15,[(rK c d a (.lit (.slice none 0 0)) (.lit (.slice none 0 0)) (bA b))])]) (pG Tryz.f77 bA) (zaf [.old 0,.old 1]) ?_ ?_ ?_
    ·rintro ⟨I,v50⟩ r h
     refine zf<|A ?_
     refine zeh h y (fun Q h=>?_) fun Q h=>?_
     ·refine ze<|zf<|zi ?_
      obtain ⟨v51,q51,v53,q54,J,q58,h⟩:=bs3 h
      refine A ?_
      refine u<|sx [0] (zcT c d a I J y)<|zv (env0:=[(0,.ipt 1 [[.isl 6 (map zc c)]] 0 0),(8,.mpt 0 0 0),(9,iA m),(10,.msl 1 0 (length n)),(11,iA v50)]) (st0:=[some (15,[(rK c d a (.lit (.slice none 0 0)) (.lit (.slice none 0 0)) (bA (I||(!J))))]),some (1,map zw n)]) (zo [.old 0,.old 1])<|zx ?_
      refine A ?_
      obtain rfl:=sm h
      exact ⟨_,y,zo [.old 0,.old 1]⟩
     ·refine zq ?_
      obtain rfl:=sm h
      exact ⟨y,_,y,zo [.old 0]⟩
    ·rintro v57 rfl
     refine zn<|A ?_
     obtain rfl:=sm h
     exact ⟨_,y,zo [.old 0]⟩
    ·rintro r' rfl env st hp
     obtain rfl:=sm h
     exact ⟨_,y,hp⟩
   ·refine zq ?_
    obtain rfl:=sm h
    exact ⟨y,_,y,zo [.old 0]⟩
  ·rintro v58 rfl
   refine zn<|zf<|A ?_
   obtain ⟨o,ho,h⟩:=bs h
   refine lpB ho (fun z=>[(0,.ipt 1 [[.isl 6 (map zc c)]] 0 0),(8,.mpt 0 0 0),(12,iA z.2)]) (fun z=>[some (15,[(rK c d a (.lit (.slice none 0 0)) (.lit (.slice none 0 0)) (bA z.1))])]) (fun b=>[(0,.ipt 1 [[.isl 6 (map zc c)]] 0 0),(8,.mpt 0 0 0)]) (fun b=>[some (15,[(rK c d a (.lit (.slice none 0 0)) (.lit (.slice none 0 0)) (bA b))])]) (pG Tryz.f77 bA) (zaf [.old 0]) ?_ ?_
   ·rintro ⟨K,v64⟩ r h
    refine zf<|A ?_
    refine zeh h y (fun R h=>?_) fun R h=>?_
    ·refine ze<|zf<|zi ?_
     obtain ⟨v65,q63,L,q64,h⟩:=bs2 h
     refine A ?_
     refine u<|sx [0] (zcT c d a K L y)<|zv (env0:=[(0,.ipt 1 [[.isl 6 (map zc c)]] 0 0),(8,.mpt 0 0 0),(12,iA v64)]) (st0:=[some (15,[(rK c d a (.lit (.slice none 0 0)) (.lit (.slice none 0 0)) (bA (K||(!L))))])]) (zo [.old 0])<|zx ?_
     refine A ?_
     obtain rfl:=sm h
     exact ⟨_,y,zo [.old 0]⟩
    ·refine zq ?_
     obtain rfl:=sm h
     exact ⟨y,_,y,zo [.old 0]⟩
   ·rintro C rfl
    refine zn ?_
    obtain ⟨D,q67,h⟩:=bs h
    refine A ?_
    refine u<|sx [0] (zcT c d a C D y)<|zv (env0:=[(8,.mpt 0 0 0)]) (st0:=[some (15,[(rK c d a (.lit (.slice none 0 0)) (.lit (.slice none 0 0)) (bA (C||(!D))))])]) (zo [.old 0])<|zx ?_
    obtain ⟨v70,q68,h⟩:=bs h
    refine rg y<|u<|mv y<|ph 1<|ph 1<|u<|sc [0,1,2] (ziW c d a [] [] (C||(!D)) q68) y y y y ⟨(.mpt y),t⟩ ⟨⟨_,y,(zya y ⟨(.nil0 y),(.nil0 y),(rnI y),t⟩)⟩,⟨y,mkI (fun _=>y)⟩,⟨y,mkI (fun _=>y)⟩,t⟩<|zx ?_
    refine A ?_
    refine zf<|A ?_
    obtain ⟨o,ho,h⟩:=bs h
    refine lpB ho (fun z=>[(8,.mpt 0 0 0),(13,bA z.2.2.2.1),(14,iA z.2.2.2.2)]) (fun z=>(sR c d a z.1 z.2.1 z.2.2.1 [])) (fun b=>[(8,.mpt 0 0 0),(13,bA b.2.2.2)]) (fun b=>(sR c d a b.1 b.2.1 b.2.2.1 [])) (pG Tryz.f77 bA) (zaf [.old 0]) ?_ ?_
    ·rintro ⟨j,l,B,p,i⟩ r h
     refine zf<|A ?_
     refine zeh h y (fun S h=>?_) fun S h=>?_
     ·refine ze<|zf<|zi ?_
      obtain ⟨e,q84,h⟩:=bs h
      refine A ?_
      refine u<|sx [0] (zfl c d a j l B i q84)<|zv (env0:=[(8,.mpt 0 0 0),(13,bA p),(14,iA i),(187,.tup [.agg (zK e.1),bA e.2])]) (st0:=(sR c d a j l B [])) (zo [.old 0])<|A ?_
      refine zal (X:=Bool) (fun z=>[(8,.mpt 0 0 0),(13,bA p),(14,iA i),(15,.mpt 1 0 0),(16,bA e.2)]) (fun z=>(sR c d a j l z [some (3,[(zK e.1)])])) (fun z=>zf9 c d a j l p i e z=some r) ?_ ?_
      ·refine A ?_
       refine zeh h y (fun T h=>?_) fun T h=>?_
       ·obtain ⟨M,q87,h⟩:=bs h
        refine zjQ [(8,_),(13,_),(14,_),(15,_),(16,_)] (sR c d a j l M [some (3,[(zK e.1)])]) [12] [0,1,2,3,4,5,6,7,8,9,10,11] [(205,_),(204,_),(203,_),(202,_),(201,_),(200,_),(199,_),(198,_),(197,_),(196,_),(195,_),(194,_)] 1 (zcq (z:=by exact ⟨(fun _ _=>⟨_,y,y,sx [0] (zfB c d a j l B i j l q87)<|⟨(.tup []),[],[(206,_)],y,y,y,y,zcw (z:=zaf [.old 0,.old 1])⟩⟩),t⟩)) ?_
        exact ⟨M,h,zo [.old 0,.old 1]⟩
       ·refine ze ?_
        exact ⟨B,h,zo [.old 0,.old 1]⟩
      ·rintro q h
       refine A ?_
       refine u<|sx [0] (zm c d a j l q (e.2||p) y)<|zv (env0:=[(8,.mpt 0 0 0),(14,iA i),(15,.mpt 1 0 0),(16,bA e.2)]) (st0:=(sR c d a j l (q||(!(e.2||p))) [some (3,[(zK e.1)])])) (zo [.old 0,.old 1])<|zx ?_
       refine zal (X:=T1×T1) (fun z=>[(8,.mpt 0 0 0),(14,iA i)]) (fun z=>(sR c d a z.1 z.2 (q||(!(e.2||p))) [])) (fun z=>zga c d a p i e q z.1 z.2=some r) ?_ ?_
       ·refine A ?_
        refine zeh h y (fun U h=>?_) fun U h=>?_
        ·obtain ⟨s,q90,h⟩:=bs h
         refine A ?_
         refine u<|sx [] (zh6 (zgG.mk e.1.Locals e.1.Stack) q90)<|zv (env0:=[(8,.mpt 0 0 0),(14,iA i),(214,.mpt 0 0 0),(220,.agg [.msl 1 0 (length s.1),.msl 2 0 (length s.2)])]) (st0:=(sR c d a j l (q||(!(e.2||p))) [some (1,map zw s.1),some (1,map zw s.2)])) (zo [.old 0,.old 2,.old 3])<|A ?_
         exact (⟨⟨s.1,s.2⟩,h,zo [.old 0]⟩)
        ·refine ze ?_
         exact ⟨⟨j,l⟩,h,zo [.old 0]⟩
       ·rintro ⟨E,F⟩ h
        obtain ⟨N,q91,h⟩:=bs h
        refine rg y<|u<|mv y<|u<|mv y<|u<|sx [0] (ziY c d a E F (q||(!(e.2||p))) i q91)<|zv (env0:=[(8,.mpt 0 0 0),(14,iA i)]) (st0:=(sR c d a E F N [])) (zo [.old 0])<|zx ?_
        obtain ⟨v98,q92,G,q93,h⟩:=bs2 h
        refine A ?_
        refine u<|sx [0] (ziX c d a E F N v98 q93)<|zv (env0:=[(8,.mpt 0 0 0),(14,iA i)]) (st0:=(sR c d a G.1 G.2.1 G.2.2 [])) (zo [.old 0])<|zx ?_
        obtain ⟨v100,q94,h⟩:=bs h
        refine A ?_
        refine A ?_
        obtain rfl:=sm h
        exact ⟨_,y,zo [.old 0]⟩
     ·refine zq ?_
      obtain rfl:=sm h
      exact ⟨y,_,y,zo [.old 0]⟩
    ·rintro ⟨v101,v102,v103,v104⟩ rfl
     refine zn<|A ?_
     exact RT0⟩
def zty(a:List za):Option ((Option zz)×Int):=
  some ((some (zz.mk a)),0)
def zo9(a:Int)(b:zz):Option (Sum ((Option zz)×Int) (Sum ((List za)) ((Option zz)×Int))):=
  some (.inl ((some b),(IntKind.i64.wrap (a+1))))
def zg7(c:Int)(a:zz)(b:Int):Option (Sum (Int) (Sum (Unit) ((Option zz)×Int))):=
  (idx a.L c).bind fun d=>cond (decide (b<(length d.Methods:Int))) ((idx a.L c).bind fun e=>(idx e.Methods b).bind fun f=>(cond (!f.Abstract) ((idx a.L c).bind fun i=>(zhC a.L i.Name b).bind fun j=>some (!j)) (some false)).bind fun l=>cond l (some (.inr (.inr (none,5)))) (some (.inl (IntKind.i64.wrap (b+1))))) (some (.inr (.inl ())))
def zff(d:Option zz)(c:Int):Option (Sum ((Option zz)×Int) (Sum ((List za)) ((Option zz)×Int))):=
  zuB d (none) (fun a=>cond (decide (c<(length a.L:Int))) ((zl (fun z=>zg7 c a z) 0).bind fun o=>zD o (fun b=>zo9 c a) (fun r=>some (.inr (.inr r)))) (some (.inr (.inl a.L))))
def znw(f:List za)(d:zbu):Option ((Option zz)×Int):=
  (zpb f).bind fun a=>cond (!(a.2 == (0:Int))) (some (none,a.2)) ((zec a.1).bind fun e=>cond (!(e == (0:Int))) (some (none,e)) ((zeK a.1 d.C d.M).bind fun c=>cond ((((!c.2.2)||(!c.2.1.Static))||(decide (0<(length c.2.1.Params:Int))))||(!(c.2.1.Ret == [86]))) (some (none,4)) ((zl (fun z=>zff z.1 z.2) (a.1,0)).bind fun o=>zD o (fun b=>zty b) some)))
instance (l:List za)(c:zbu):PF Tryz.prog 93 [.isl 6 (map zc l),.agg (zgO c)] (znw l c) (fun r=>(.tup [ziT 1 zeJ r.1,iA r.2])):=⟨fun r h=>by
 refine zh Tryz.func93 y kz y (zwB (ztN (zpX (fun _=>y)) (y))) ?_
 refine A ?_
 obtain ⟨m,N,h⟩:=bs h
 refine A ?_
 refine zf<|A ?_
 refine zeh h y (fun n h=>?_) fun n h=>?_
 ·refine A ?_
  exact RT0
 ·refine ze<|zf ?_
  obtain ⟨O,s,h⟩:=bs h
  refine rg y<|u<|mv y<|u<|pc (zhA m.1 s) y y (ztN (zpX (fun _=>y)) (y))<|A ?_
  refine A ?_
  refine zeh h y (fun p h=>?_) fun p h=>?_
  ·refine A ?_
   exact RT0
  ·refine ze ?_
   obtain ⟨P,v,h⟩:=bs h
   refine A ?_
   refine u<|pc (zii m.1 c.C c.M v) y y (ztN (zpX (fun _=>y)) (y))<|A ?_
   refine zf<|A ?_
   refine zeh h y (fun q h=>?_) fun q h=>?_
   ·refine A ?_
    exact RT0
   ·refine ze<|zf<|A ?_
    obtain ⟨o,ho,h⟩:=bs h
    refine lpB ho (fun z=>[(6,ziT 1 zeJ z.1),(12,iA z.2)]) (fun z=>[]) (fun b=>[(6,.ipt 1 [[.isl 6 (map zc b)]] 0 0)]) (fun b=>[]) (pG Tryz.f93 (fun r=>.tup [ziT 1 zeJ r.1,iA r.2])) (zaf []) ?_ ?_
    ·rintro ⟨d,a⟩ r h
     replace h:zff d a=some r:=h
     unfold zff at h
     refine zf ?_
     refine rg y<|u<|mv y<|u<|mv y<|?_
     rcases d with _ |e
     ·replace h:=oeN h
      cases h
     ·replace h:=oeS h
      refine u<|nc y y<|u<|fa ti y y y<|u<|ld ti y y<|u<|lnI ti y y<|u<|lss ti y y<|zx ?_
      refine zeh h y (fun f h=>?_) fun f h=>?_
      ·refine ze<|zf<|zi<|A ?_
       obtain ⟨o,ho,h⟩:=bs h
       refine lpS ho (fun z=>[(6,.ipt 1 [[.isl 6 (map zc e.L)]] 0 0),(12,iA a),(13,iA z)]) (fun z=>[]) (fun b=>[(6,.ipt 1 [[.isl 6 (map zc e.L)]] 0 0),(12,iA a)]) (fun b=>[]) (pG Tryz.f93 (fun r=>.tup [ziT 1 zeJ r.1,iA r.2])) (zaf []) ?_ ?_ ?_
       ·rintro x r h
        refine zf ?_
        obtain ⟨B,D,h⟩:=bs h
        refine A ?_
        refine zeh h y (fun i h=>?_) fun i h=>?_
        ·refine ze<|zf<|zi ?_
         obtain ⟨E,F,G,H,I,J,h⟩:=bs3 h
         refine A ?_
         refine zeh h y (fun j h=>?_) fun j h=>?_
         ·refine A ?_
          refine zy ?_
          obtain rfl:=sm h
          exact ⟨_,y,_,y,zad []⟩
         ·refine ze<|A ?_
          obtain rfl:=sm h
          exact ⟨_,y,zo []⟩
        ·refine zq ?_
         obtain rfl:=sm h
         exact ⟨y,_,y,zo []⟩
       ·rintro ⟨⟩ rfl
        refine zn<|A ?_
        obtain rfl:=sm h
        exact ⟨_,y,zo []⟩
       ·rintro r' rfl env st hp
        obtain rfl:=sm h
        exact ⟨_,y,hp⟩
      ·refine zq ?_
       obtain rfl:=sm h
       exact ⟨y,_,y,zo []⟩
    ·rintro K rfl
     refine zn<|A ?_
     exact RT0⟩
def zkV(a:List za)(b:zbu):Option (Bool):=
  (zfY a b).bind fun c=>(znw a b).bind fun d=>cond ((!(c.2 == d.2))||(!((Option.isNone c.1) == (Option.isNone d.1)))) (some false) ((zko a).bind fun f=>(zpb a).bind fun e=>(cond (Option.isNone e.1) (some true) ((ze9 f.1).bind fun i=>(zec e.1).bind fun j=>some (i == j))).bind fun l=>some l)
theorem zoU(d:List za)(e:zbu){r:Bool}(h:zkV d e=some r):zam Tryz.prog 45 [.isl 6 (map zc d),.agg (zgO e)] (bA r):=by
 refine zh Tryz.func45 y kz y y<|A ?_
 obtain ⟨p,q,h⟩:=bs h
 refine A ?_
 obtain ⟨s,v,h⟩:=bs h
 refine A ?_
 refine zf<|A ?_
 refine ztr (j:=3) 5 y y y y y gpn (fun b=>g y b<|mv y<|g y b<|zFc ti y y y<|g y b<|mv y<|g y b<|zFc ti y y y<|g y b<|bne ti y y y<|zx (egO [29,30,31,32,33] 5 b y y y y)) orT<|zx ?_
 refine zeh h y (fun f h=>?_) fun f h=>?_
 ·refine A ?_
  exact RT0
 ·refine ze ?_
  obtain ⟨i,B,h⟩:=bs h
  refine A ?_
  obtain ⟨l,C,h⟩:=bs h
  refine A ?_
  obtain ⟨m,a,h⟩:=bs h
  refine rg y<|u<|mv y<|u<|zFc ti y y y<|u<|mv y<|ztr (x:=m) (j:=2) 5 y y y y y gpn (fun c=>by replace a:=bF c a;obtain ⟨D,n,a⟩:=bs a;obtain ⟨E,o,a⟩:=bs a;obtain rfl:=sm a;exact g y c<|mv y<|g y c<|pc (zhn i.1 n) y y (ztN (zpX (fun _=>y)) (y))<|g y c<|mv y<|g y c<|pc (zhA l.1 o) y y (ztN (zpX (fun _=>y)) (y))<|g y c<|eql ti y y<|zx (eg [48,49,50,51,52] 5 y y y y)) (fun hb=>(sm (bT hb a)).symm)<|A ?_
  exact RT0
instance (a:List za)(b:zbu):PF Tryz.prog 45 [.isl 6 (map zc a),.agg (zgO b)] (zkV a b) bA:=⟨fun _=>zoU a b⟩
def zhV(a:List za)(b:zbu):Option (Bool):=
  (zlz).bind fun c=>cond (!c) (some false) ((zqo a).bind fun d=>(zmP b).bind fun e=>(zkV d e).bind fun f=>some f)
theorem zkp(a:List za)(b:zbu){r:Bool}(h:zhV a b=some r):zam Tryz.prog 15 [.isl 6 (map zc a),.agg (zgO b)] (bA r):=by
 refine zh Tryz.func15 y kz y y<|A ?_
 obtain ⟨j,l,h⟩:=bs h
 refine A ?_
 refine zf<|A ?_
 refine zeh h y (fun c h=>?_) fun c h=>?_
 ·refine A ?_
  exact RT0
 ·refine ze ?_
  obtain ⟨d,e,f,m,n,i,h⟩:=bs3 h
  refine rdA [(4,_)] [] [1] [0,2] [(11,_),(9,_)] 1 (zcq (z:=by exact ⟨(fun _ _=>⟨_,y,y,sx [] (zvz a e)<|⟨(.msl 1 0 (length d)),[3,4,5],[(4,_),(13,_),(12,_),(10,_)],y,y,y,y,zcw ⟨peC,(by exact pb y (pcs (zoU d f i) y y (.cons (zhE y (fun _=>y)) (.cons (si y) .nil)) zbI<|w)),peC,peC,peC,t⟩ (zaf [])⟩⟩),t⟩)) ?_
  exact RT0
instance (a:List za)(b:zbu):PF Tryz.prog 15 [.isl 6 (map zc a),.agg (zgO b)] (zhV a b) bA:=⟨fun _=>zkp a b⟩
def zu3(x:zbu):Prop:=(wS) x.C∧(wS) x.M
theorem zxK{n:Nat}{avs:List AV}(h:zpj Tryz.prog (n+2) 94 avs):∃x:zbu,avs=zgO x∧zu3 x:=by
 obtain ⟨parts,rfl,hl,hg⟩:=gdF Tryz.underlying94 h
 match parts,hl with
 | [p0,p1],_ =>
  obtain ⟨x0,rfl,w0⟩:=gdS Tryz.underlying9 (hg 0 _ p0 rfl rfl)
  obtain ⟨x1,rfl,w1⟩:=gdS Tryz.underlying9 (hg 1 _ p1 rfl rfl)
  exact ⟨⟨x0,x1⟩,rfl,w0,w1⟩
theorem zr{α:Type}(l:List α)(i:Nat):idx l (i:Int)=l[i]?:=by
 unfold idx
 rw [if_pos (by omega),Int.toNat_natCast]
theorem zjm{α:Type}(l:List α):idx l 0=l[0]?:=zr l 0
theorem zlX{n:Int}(h1:-9223372036854775808≤n)(h2:n≤9223372036854775807):IntKind.i64.wrap n=n:=IntWalk.i64_in n ⟨h1,h2⟩
theorem zN{i:Nat}(h:i<9223372036854775807):IntKind.i64.wrap ((i:Int)+1)=((i+1:Nat):Int):=by
 rw [zlX (by omega) (by omega)];omega
theorem zua{α:Type}{l:List α}{a b:Int}(h0:0≤a)(h1:a≤b)(h2:b≤l.length):zkM l a b=some ((l.drop a.toNat).take (b.toNat-a.toNat)):=by
 unfold zkM;rw [if_pos ⟨h0,h1,h2⟩]
theorem zpq{α:Type}{l:List α}{b:Nat}(h:b≤l.length):zkM l 0 (b:Int)=some (l.take b):=by
 rw [zua (by omega) (by omega) (by omega)];simp
theorem zhg{α:Type}{l:List α}{a:Nat}(h:a≤l.length):zkM l (a:Int) (l.length:Int)=some (l.drop a):=by
 rw [zua (by omega) (by omega) (by omega)]
 simp only [Int.toNat_natCast]
 rw [List.take_of_length_le (by simp)]
theorem zc3{α:Type}{w:Nat}{l x:List α}(h:(l.length+x.length)*w≤140737488355328)(h2:l.length+x.length≤9223372036854775807):zh9 w l x=some (l++x):=by
 unfold zh9;rw [if_pos ⟨h,h2⟩]
theorem zyN{l x:List UInt8}(h:l.length+x.length≤9223372036854775807):zCw l x=some (l++x):=by unfold zCw;rw [if_pos h]
def zjy{R U:Type}(u:U):Option R→Sum U R
 |some r=>.inr r
 |none=>.inl u
def zu8{R U:Type}(i:Nat):Option R→Sum Int (Sum U R)
 |some r=>.inr (.inr r)
 |none=>.inl ((i+1:Nat):Int)
theorem zmT{α R U:Type}{body:Int→Option (Sum Int (Sum U R))}{l:List α}{g:α→Option R}{u:U}{k:Nat}
  (hb:∀(i:Nat) x,k≤i→l[i]?=some x→body (i:Int)=some (zu8 i (g x)))
  (he:body (l.length:Int)=some (.inr (.inl u))) (hk:k≤l.length):zl body (k:Int)=some (zjy u ((l.drop k).findSome? g)):=by
 have key:∀d i,l.length-i=d→k≤i→i≤l.length→zl body (i:Int)=some (zjy u ((l.drop i).findSome? g)):=by
  intro d
  induction d with
  |zero =>
   intro i hd hki hi
   have:i=l.length:=by omega
   subst this
   rw [zI,he,List.drop_length]
   rfl
  |succ d ih =>
   intro i hd hki hi
   have hlt:i<l.length:=by omega
   rw [zI,hb i l[i] hki (List.getElem?_eq_getElem hlt),List.drop_eq_getElem_cons hlt,List.findSome?_cons]
   cases g l[i] with
   |some r=>rfl
   |none =>
    show zl body ((i+1:Nat):Int)=_
    exact ih (i+1) (by omega) (by omega) (by omega)
 exact key _ k rfl (Nat.le_refl _) hk
theorem zaQ{α R U:Type}{body:Int→Option (Sum Int (Sum U R))}{l:List α}{g:α→Option R}{u:U}
  (hb:∀(i:Nat) x,l[i]?=some x→body (i:Int)=some (zu8 i (g x)))
  (he:body (l.length:Int)=some (.inr (.inl u))):zl body 0=some (zjy u (l.findSome? g)):=
 zmT (k:=0) (fun i x _=>hb i x) he (Nat.zero_le _)
theorem zpy{R U:Type}{body:Int→Option (Sum Int (Sum U R))}{n:Nat}{g:Nat→Option R}{u:U}
  (hb:∀i,i<n→body (i:Int)=some (zu8 i (g i)))
  (he:body (n:Int)=some (.inr (.inl u))):zl body 0=some (zjy u ((List.range n).findSome? g)):=by
 have h:=zaQ (body:=body) (l:=List.range n) (g:=g) (u:=u) (fun i x hx=>by
  have hi:i<n:=by
   have:=(List.getElem?_eq_some_iff.1 hx).1
   simpa using this
  have hx':x=i:=by
   have:=(List.getElem?_eq_some_iff.1 hx).2
   simpa using this.symm
  subst hx'
  exact hb x hi) (by rw [List.length_range];exact he)
 exact h
theorem zY{α R:Type}(l:List α)(p:α→Bool)(r:R):l.findSome? (fun x=>cond (p x) (some r) none)=cond (l.any p) (some r) none:=by
 induction l with
 |nil=>rfl
 |cons x l ih =>
  rw [List.findSome?_cons,List.any_cons]
  cases p x with
  |true=>rfl
  |false=>simpa using ih
def zig(n:Int):Nat:=if n<0 then (-2*n-1).toNat else (2*n).toNat
def zFV:Nat→Nat→List UInt8
 | 0,_=>[]
 |k+1,u=>if 127<u then UInt8.ofNat (u % 128+128)::zFV k (u / 128) else [UInt8.ofNat u]
def put(n:Int):List UInt8:=zFV 10 (zig n)
def okC(x:UInt8):Bool:=zcR x||zd0 x||zhG x
def zxM(p:UInt8→Bool):List UInt8→Bool
 | []=>false
 |x :: _=>p x
def zpN(s:List UInt8):Bool:=s.all okC&&(!(s == [])&&decide ((s.length:Int)≤8))
def zbU(s:List UInt8):Bool:=zpN s&&decide (1<(s.length:Int))&&zxM zd0 s
def zre(s:List UInt8):Bool:=(s == [36,105,110,105,116])||(zpN s&&zxM zcR s)
def zgi:List UInt8→List UInt8
 | []=>[]
 |x ::r=>if x=91 then r else x ::r
def zfz(s:List UInt8):Bool:=(zgi (zgi s) == [73])||zbU (zgi (zgi s))
def zqg(s:List UInt8):Bool:=!(s == [73])&&zfz s
def zsw(s:List UInt8):Bool:=(s == [86])||zfz s
abbrev Len(s:List UInt8):Prop:=s.length≤9223372036854775807
theorem zvJ{α:Type}(l:List α)(p:α→Bool):l.any (fun x=>!p x)=!l.all p:=by
 induction l with
 |nil=>rfl
 |cons x l ih=>rw [List.any_cons,List.all_cons,ih];cases p x <;> rfl
theorem zpZ{s:List UInt8}(h:Len s):zmO s=some (zpN s):=by
 have hl:zl (fun z=>zhH s z) 0=_:=zaQ (l:=s) (g:=fun x=>cond (!okC x) (some false) none) (u:=()) (fun i x hx=>by
  have hi:=(List.getElem?_eq_some_iff.1 hx).1
  show zhH s (i:Int)=_
  unfold zhH
  rw [zr,hx,decide_eq_true (by omega),zN (by unfold Len at h;omega)]
  unfold okC
  cases h1:zcR x <;> cases h2:zd0 x <;> cases h3:zhG x <;> simp [h1,h2,h3,zu8]) (by
  show zhH s (s.length:Int)=_
  unfold zhH
  rw [decide_eq_false (by omega)]
  rfl)
 unfold zmO
 rw [hl,zY,zvJ]
 unfold zpN
 cases s.all okC <;> rfl
theorem znq(p:UInt8→Bool)(x:UInt8)(r:List UInt8):zxM p (x ::r)=p x:=rfl
theorem zxn{s:List UInt8}(h:zpN s=true):∃x r,s=x ::r:=by
 cases s with
 |nil=>exact absurd h (by decide)
 |cons x r=>exact ⟨x,r,rfl⟩
theorem zg1{s:List UInt8}(h:Len s):zg0 s=some (zbU s):=by
 unfold zg0
 rw [zpZ h,zjm]
 unfold zbU
 cases hw:zpN s with
 |false=>rfl
 |true =>
  obtain ⟨x,r,rfl⟩:=zxn hw
  simp only [Option.bind_some,Bool.true_and,List.getElem?_cons_zero]
  cases decide (1<((x ::r).length:Int)) <;> rfl
theorem zmN{s:List UInt8}(h:Len s):zkU s=some (zre s):=by
 unfold zkU
 rw [zpZ h,zjm]
 unfold zre
 cases s == [36,105,110,105,116] with
 |true=>rfl
 |false =>
  cases hw:zpN s with
  |false=>rfl
  |true =>
   obtain ⟨x,r,rfl⟩:=zxn hw
   rfl
theorem zg9(x:UInt8)(r:List UInt8):zgi (x ::r)=if x=91 then r else x ::r:=rfl
theorem zpi(s:List UInt8):(zgi s).length≤s.length:=by
 cases s with
 |nil=>exact Nat.le_refl _
 |cons x r=>rw [zg9];split <;> simp
theorem zAB{s:List UInt8}(h:Len s):zfp s [91]=some (zgi s):=by
 unfold zfp zdb zdH
 cases s with
 |nil=>rfl
 |cons x r =>
  have e1:decide ((List.length [(91:UInt8)]:Int)≤(List.length (x ::r):Int))=true:=decide_eq_true (by simp only [List.length_cons,List.length_nil];omega)
  have e2:zkM (x ::r) 0 (List.length [(91:UInt8)]:Int)=some [x]:=by
   have:=zpq (l:=x ::r) (b:=1) (by simp)
   simpa using this
  have e3:zkM (x ::r) (List.length [(91:UInt8)]:Int) (List.length (x ::r):Int)=some r:=by
   have:=zhg (l:=x ::r) (a:=1) (by simp)
   simpa using this
  rw [e1,e2,e3,zg9]
  by_cases hx:x=91
  ·subst hx;rfl
  ·rw [if_neg hx]
   have:([x] == [(91:UInt8)])=false:=by simp [hx]
   simp [this]
theorem zhz{s:List UInt8}(h:Len s):ziH s=some (zfz s):=by
 have h1:=zpi s
 have h2:=zpi (zgi s)
 unfold ziH
 rw [zAB h,Option.bind_some,zAB (by unfold Len at *;omega),Option.bind_some,zg1 (by unfold Len at *;omega)]
 unfold zfz
 cases zgi (zgi s) == [73] <;> rfl
theorem zly{s:List UInt8}(h:Len s):zlx s=some (zqg s):=by
 unfold zlx
 rw [zhz h]
 unfold zqg
 cases s == [73] <;> rfl
theorem zvu{s:List UInt8}(h:Len s):zqm s=some (zsw s):=by
 unfold zqm
 rw [zhz h]
 unfold zsw
 cases s == [86] <;> rfl
theorem zrw(x:UInt8):zk6 x=zd0 x:=rfl
theorem zpJ(x:UInt8):zjS x=zcR x:=rfl
theorem zuO(x:UInt8):zk5 x=zhG x:=rfl
theorem zg5{s:List UInt8}(h:Len s):zg4 s=some (zbU s):=by
 unfold zg4
 have hend:zeo s (s.length:Int)=some (.inr (.inl ())):=by
  unfold zeo;rw [decide_eq_false (by omega)];rfl
 cases s with
 |nil=>rw [zI];rfl
 |cons x r =>
  have hrest:zl (fun z=>zeo (x ::r) z) ((1:Nat):Int)=some (zjy () (((x ::r).drop 1).findSome? (fun y=>cond (!okC y) (some false) none))):=
   zmT (k:=1) (g:=fun y=>cond (!okC y) (some false) none) (fun i y hi hy=>by
    have hlt:=(List.getElem?_eq_some_iff.1 hy).1
    show zeo (x ::r) (i:Int)=_
    unfold zeo
    rw [zr,hy,decide_eq_true (by omega),zN (by unfold Len at h;omega)]
    have e:((i:Int) == (0:Int))=false:=by simp;omega
    rw [e]
    simp only [zrw,zpJ,zuO]
    unfold okC
    cases h1:zcR y <;> cases h2:zd0 y <;> cases h3:zhG y <;> simp [h1,h2,h3,zu8]) hend (by simp)
  have hfirst:zeo (x ::r) 0=some (cond (zd0 x) (.inl 1) (.inr (.inr false))):=by
   unfold zeo
   rw [zjm,decide_eq_true (by simp only [List.length_cons,List.length_nil];omega)]
   simp only [zrw]
   have:IntKind.i64.wrap (0+1)=1:=by decide
   rw [this]
   simp only [List.getElem?_cons_zero,Option.bind_some]
   cases hg:zd0 x <;> rfl
  rw [zI,hfirst]
  cases hg:zd0 x with
  |false =>
   have:zbU (x ::r)=false:=by unfold zbU;rw [znq,hg];simp
   rw [this]
   rfl
  |true =>
   show ((zl (fun z=>zeo (x ::r) z) ((1:Nat):Int)).bind _)=_
   rw [hrest,List.drop_one,List.tail_cons,zY,zvJ]
   have:zbU (x ::r)=(r.all okC&&(decide (2≤(List.length (x ::r):Int))&&decide ((List.length (x ::r):Int)≤8))):=by
    unfold zbU zpN
    rw [znq]
    have ho:okC x=true:=by unfold okC;rw [hg];simp
    rw [List.all_cons,ho,hg]
    have e:decide (1<(List.length (x ::r):Int))=decide (2≤(List.length (x ::r):Int)):=by congr 1
    rw [e]
    have e2:((x ::r) == [])=false:=rfl
    rw [e2]
    cases r.all okC <;> cases decide (2≤(List.length (x ::r):Int)) <;> cases decide ((List.length (x ::r):Int)≤8) <;> rfl
   rw [this]
   cases r.all okC <;> rfl
theorem zmZ{s:List UInt8}(h:Len s):zk4 s=some (zre s):=by
 unfold zk4
 have hend:zfe s (s.length:Int)=some (.inr (.inl ())):=by
  unfold zfe;rw [decide_eq_false (by omega)];rfl
 unfold zre
 cases s == [36,105,110,105,116] with
 |true=>rfl
 |false =>
 show (zl _ _).bind _=some (zpN s&&zxM zcR s)
 cases s with
 |nil=>rw [zI];rfl
 |cons x r =>
  have hrest:zl (fun z=>zfe (x ::r) z) ((1:Nat):Int)=some (zjy () (((x ::r).drop 1).findSome? (fun y=>cond (!okC y) (some false) none))):=
   zmT (k:=1) (g:=fun y=>cond (!okC y) (some false) none) (fun i y hi hy=>by
    have hlt:=(List.getElem?_eq_some_iff.1 hy).1
    show zfe (x ::r) (i:Int)=_
    unfold zfe
    rw [zr,hy,decide_eq_true (by omega),zN (by unfold Len at h;omega)]
    have e:((i:Int) == (0:Int))=false:=by simp;omega
    rw [e]
    simp only [zrw,zpJ,zuO]
    unfold okC
    cases h1:zcR y <;> cases h2:zd0 y <;> cases h3:zhG y <;> simp [h1,h2,h3,zu8]) hend (by simp)
  have hfirst:zfe (x ::r) 0=some (cond (zcR x) (.inl 1) (.inr (.inr false))):=by
   unfold zfe
   rw [zjm,decide_eq_true (by simp only [List.length_cons,List.length_nil];omega)]
   simp only [zpJ]
   have:IntKind.i64.wrap (0+1)=1:=by decide
   rw [this]
   simp only [List.getElem?_cons_zero,Option.bind_some]
   cases hg:zcR x <;> rfl
  rw [zI,hfirst]
  cases hg:zcR x with
  |false =>
   have:(zpN (x ::r)&&zxM zcR (x ::r))=false:=by rw [znq,hg];simp
   rw [this]
   rfl
  |true =>
   show ((zl (fun z=>zfe (x ::r) z) ((1:Nat):Int)).bind _)=_
   rw [hrest,List.drop_one,List.tail_cons,zY,zvJ]
   have:(zpN (x ::r)&&zxM zcR (x ::r))=(r.all okC&&(decide (1≤(List.length (x ::r):Int))&&decide ((List.length (x ::r):Int)≤8))):=by
    unfold zpN
    rw [znq]
    have ho:okC x=true:=by unfold okC;rw [hg];simp
    rw [List.all_cons,ho,hg]
    have e2:((x ::r) == [])=false:=rfl
    have e3:decide (1≤(List.length (x ::r):Int))=true:=decide_eq_true (by simp only [List.length_cons,List.length_nil];omega)
    rw [e2,e3]
    cases r.all okC <;> cases decide ((List.length (x ::r):Int)≤8) <;> rfl
   rw [this]
   cases r.all okC <;> rfl
theorem zf3{s:List UInt8}(h:Len s):zht s=some (zfz s):=by
 have step:∀(t:List UInt8) (i:Int),i<2→ziw t i=some (match t with | []=>.inr (.inl []) |x ::r=>if x=91 then .inl (r,IntKind.i64.wrap (i+1)) else .inr (.inl (x ::r))):=fun t i hi=>by
  unfold ziw
  rw [decide_eq_true hi]
  cases t with
  |nil=>rfl
  |cons x r =>
   have e1:decide ((0:Int)<(List.length (x ::r):Int))=true:=decide_eq_true (by simp only [List.length_cons,List.length_nil];omega)
   have e3:zkM (x ::r) 1 (List.length (x ::r):Int)=some r:=by
    have:=zhg (l:=x ::r) (a:=1) (by simp)
    simpa using this
   rw [e1,zjm,e3]
   by_cases hx:x=91
   ·subst hx;rfl
   ·have e:((x.toNat:Int) == (91:Int))=false:=by
     rw [beq_eq_false_iff_ne]
     intro h
     apply hx
     have:x.toNat=(91:UInt8).toNat:=by simp;omega
     exact UInt8.toNat_inj.1 this
    simp [e,if_neg hx]
 have stop:∀t:List UInt8,ziw t 2=some (.inr (.inl t)):=fun t=>by unfold ziw;simp
 have hl:zl (fun z:List UInt8×Int=>ziw z.1 z.2) (s,0)=some (.inl (zgi (zgi s))):=by
  have w1:IntKind.i64.wrap (0+1)=1:=by decide
  have w2:IntKind.i64.wrap (1+1)=2:=by decide
  rw [zI]
  simp only [step s 0 (by omega)]
  cases s with
  |nil=>rfl
  |cons x r =>
   rw [zg9]
   by_cases hx:x=91
   ·simp only [if_pos hx,Option.bind_some,Sum.elim_inl,w1]
    rw [zI]
    simp only [step r 1 (by omega)]
    cases r with
    |nil=>rfl
    |cons y q =>
     by_cases hy:y=91
     ·simp only [if_pos hy,Option.bind_some,Sum.elim_inl,w2]
      rw [zI]
      simp only [stop]
      rw [zg9,if_pos hy]
      rfl
     ·simp only [if_neg hy,Option.bind_some,Sum.elim_inr]
      rw [zg9,if_neg hy]
   ·simp only [if_neg hx,Option.bind_some,Sum.elim_inr]
    rw [zg9,if_neg hx]
 have h1:=zpi s
 have h2:=zpi (zgi s)
 unfold zht
 rw [hl]
 show zoo _=_
 unfold zoo zfz
 rw [zg5 (by unfold Len at *;omega)]
 cases zgi (zgi s) == [73] <;> rfl
theorem zvO{s:List UInt8}(h:Len s):zqu s=some (zqg s):=by
 unfold zqu
 rw [zf3 h]
 unfold zqg
 cases s == [73] <;> rfl
def zFg(v1:Int):Bool:=
 ((((v1 == (1:Int))||(v1 == (3:Int)))||(v1 == (4:Int)))||(zfA v1))
def zte(o:Int)(s:List UInt8):Bool:=cond (zhq o) (zqg s) (cond (zBL o) (zbU s) (s == []))
def zBA(o:Int)(s:List UInt8):Bool:=cond (zCM o) (zre s&&!(s == [36,105,110,105,116])) (s == [])
def zjg(x:zp):Bool:=(zlD x.Op&&zlE x.Op x.A)&&zte x.Op x.C&&zBA x.Op x.M
theorem zxY{o:Int}{s:List UInt8}(h:Len s):zto o s=some (zte o s):=by
 unfold zto zte
 rw [zly h,zg1 h]
 cases zhq o <;> cases zBL o <;> rfl
theorem zxZ{o:Int}{s:List UInt8}(h:Len s):ztp o s=some (zBA o s):=by
 unfold ztp zBA
 rw [zmN h]
 cases zCM o <;> rfl
theorem zzM{x:zp}(hC:Len x.C)(hM:Len x.M):zwT x=some (zjg x):=by
 unfold zwT zjg
 rw [zxY hC,zxZ hM]
 cases (zlD x.Op&&zlE x.Op x.A) <;> cases zte x.Op x.C <;> rfl
theorem zDO(o A:Int):zlE o A=cond (zFg o) (zjT o A) (A == 0):=by
 have e1:decide (A≤2147483647)=decide (A<2147483648):=by congr 1;apply propext;omega
 have e2:decide (A≤15)=decide (A<16):=by congr 1;apply propext;omega
 have e3:decide (A≤99)=decide (A<100):=by congr 1;apply propext;omega
 unfold zlE zFg zjT zhJ zfA zeC
 rw [e1,e2,e3]
 by_cases h1:o=1
 ·subst h1;rfl
 by_cases h3:o=3
 ·subst h3;rfl
 by_cases h4:o=4
 ·subst h4;rfl
 have b1:(o == (1:Int))=false:=beq_eq_false_iff_ne.2 h1
 have b3:(o == (3:Int))=false:=beq_eq_false_iff_ne.2 h3
 have b4:(o == (4:Int))=false:=beq_eq_false_iff_ne.2 h4
 rw [b1,b3,b4]
 cases (decide (20≤o)&&decide (o≤36)) <;> rfl
theorem zzT:∀k:_root_.Fin 62,(zgw (k.val:Int)).1=zFg (k.val:Int)∧(zgw (k.val:Int)).2.1=cond (zhq (k.val:Int)) 2 (cond (zBL (k.val:Int)) 1 0)∧(zgw (k.val:Int)).2.2=zCM (k.val:Int):=by
 decide +kernel
theorem zr8{x:zp}(hC:Len x.C)(hM:Len x.M):zjR x=some (zjg x):=by
 unfold zjR zjg zlD zeC
 by_cases hk:1≤x.Op∧x.Op≤61
 ·obtain ⟨k,hkk⟩:∃k:Nat,x.Op=k:=⟨x.Op.toNat,by omega⟩
  obtain ⟨p1,p2,p3⟩:=zzT ⟨k,by omega⟩
  simp only at p1 p2 p3
  rw [hkk] at hk ⊢
  rw [zDO,p1,p2,p3,decide_eq_false (show ¬(k:Int)<1 by omega),decide_eq_false (show ¬(61:Int)<k by omega),decide_eq_true hk.1,decide_eq_true hk.2,zg5 hC,zvO hC,zmZ hM]
  unfold zte zBA
  cases zFg (k:Int) <;> cases zjT (k:Int) x.A <;> cases (x.A == 0) <;> cases zhq (k:Int) <;> cases zBL (k:Int) <;> cases zCM (k:Int) <;> cases (x.C == []) <;> cases zbU x.C <;> cases zqg x.C <;> rfl
 ·have h1:(decide (x.Op<1)||decide (61<x.Op))=true:=by
   rw [Bool.or_eq_true]
   by_cases h:x.Op<1
   ·exact .inl (decide_eq_true h)
   ·exact .inr (decide_eq_true (by omega))
  have h2:(decide (1≤x.Op)&&decide (x.Op≤61))=false:=by
   rw [Bool.and_eq_false_iff]
   by_cases h:1≤x.Op
   ·exact .inr (decide_eq_false (by omega))
   ·exact .inl (decide_eq_false h)
  rw [h1,h2]
  rfl
def ixF{α:Type}(p:α→Bool):Nat→List α→Int
 |_,[]=>-1
 |k,x ::r=>cond (p x) (k:Int) (ixF p (k+1) r)
theorem zem{α:Type}(p:α→Bool):∀(k:Nat) (l:List α),decide (0≤ixF p k l)=l.any p
 |_,[]=>rfl
 |k,x ::r=>by
  unfold ixF
  rw [List.any_cons]
  cases p x with
  |true=>exact decide_eq_true (show (0:Int)≤(k:Int) by omega)
  |false=>exact zem p (k+1) r
theorem zaD{α:Type}{body:Int→Option (Sum Int (Sum Unit Int))}{l:List α}{p:α→Bool}(hl:l.length≤9223372036854775807)
  (hb:∀(i:Nat) x,l[i]?=some x→body (i:Int)=cond (p x) (some (.inr (.inr (i:Int)))) (some (.inl (IntKind.i64.wrap ((i:Int)+1)))))
  (he:body (l.length:Int)=some (.inr (.inl ()))):
  (zl body 0).bind (fun o=>zD o (fun _=>some (-1:Int)) some)=some (ixF p 0 l):=by
 have key:∀(r pre:List α),l=pre++r→(zl body (pre.length:Int)).bind (fun o=>zD o (fun _=>some (-1:Int)) some)=some (ixF p pre.length r):=by
  intro r
  induction r with
  |nil =>
   intro pre h
   rw [List.append_nil] at h
   subst h
   rw [zI,he]
   rfl
  |cons x r ih =>
   intro pre h
   have hlen:l.length=pre.length+(r.length+1):=by rw [h];simp
   have hx:l[pre.length]?=some x:=by rw [h];simp
   rw [zI,hb _ x hx]
   unfold ixF
   cases p x with
   |true=>rfl
   |false =>
    rw [zN (by omega)]
    have:=ih (pre++[x]) (by rw [h];simp)
    rw [show (pre++[x]).length=pre.length+1 by simp] at this
    exact this
 exact key l [] rfl
def uB{α:Type}(ok:α→Bool)(nm:α→List UInt8):List α→List α→Bool
 |_,[]=>false
 |pre,x ::r=>(!ok x||pre.any (fun y=>nm x == nm y))||uB ok nm (pre++[x]) r
theorem zrM{α:Type}{body:Int→Option (Sum Int (Sum Unit Bool))}{l:List α}{ok:α→Bool}{nm:α→List UInt8}(hl:l.length≤9223372036854775807)
  (hb:∀(i:Nat) x,l[i]?=some x→body (i:Int)=cond (!ok x||(l.take i).any (fun y=>nm x == nm y)) (some (.inr (.inr false))) (some (.inl (IntKind.i64.wrap ((i:Int)+1)))))
  (he:body (l.length:Int)=some (.inr (.inl ()))) {k:Option Bool}:
  (zl body 0).bind (fun o=>zD o (fun _=>k) some)=cond (uB ok nm [] l) (some false) k:=by
 have key:∀(r pre:List α),l=pre++r→(zl body (pre.length:Int)).bind (fun o=>zD o (fun _=>k) some)=cond (uB ok nm pre r) (some false) k:=by
  intro r
  induction r with
  |nil =>
   intro pre h
   rw [List.append_nil] at h
   subst h
   rw [zI,he]
   rfl
  |cons x r ih =>
   intro pre h
   have hlen:l.length=pre.length+(r.length+1):=by rw [h];simp
   have hx:l[pre.length]?=some x:=by rw [h];simp
   have ht:l.take pre.length=pre:=by rw [h];simp
   rw [zI,hb _ x hx,ht]
   unfold uB
   cases !ok x||pre.any (fun y=>nm x == nm y) with
   |true=>rfl
   |false =>
    rw [zN (by omega)]
    have:=ih (pre++[x]) (by rw [h];simp)
    rw [show (pre++[x]).length=pre.length+1 by simp] at this
    exact this
 exact key l [] rfl
abbrev zkB{α:Type}(l:List α):Prop:=l.length≤9223372036854775807
theorem zd9{α:Type}{l:List α}{i:Nat}{x:α}(h:l[i]?=some x):decide ((i:Int)<(l.length:Int))=true:=
 decide_eq_true (by have:=(List.getElem?_eq_some_iff.1 h).1;omega)
theorem zeD{α:Type}(l:List α):decide ((l.length:Int)<(l.length:Int))=false:=decide_eq_false (by omega)
theorem zBq{l:List zk}(hl:zkB l)(n t:List UInt8)(s:Bool):zan l n t s=some (l.any fun y=>n == y.Name):=by
 unfold zan zce
 rw [show ((zl (fun z=>zaV l n t s z) 0).bind fun o=>zD o (fun b=>zdV) some)=_ from zaD (p:=fun y:zk=>n == y.Name) hl
  (fun i x hx=>by unfold zaV;rw [zd9 hx,zr,hx];rfl) (by unfold zaV;rw [zeD];rfl)]
 exact congrArg some (zem _ 0 l)
theorem zzm{l:List zb}(hl:zkB l)(n:List UInt8)(a b c d e f g h i):zai l n a b c d e f g h i=some (l.any fun y=>n == y.Name):=by
 unfold zai zbW
 rw [show ((zl (fun z=>zaM l n a b c d e f g h i z) 0).bind fun o=>zD o (fun b=>zc6) some)=_ from zaD (p:=fun y:zb=>n == y.Name) hl
  (fun i x hx=>by unfold zaM;rw [zd9 hx,zr,hx];rfl) (by unfold zaM;rw [zeD];rfl)]
 exact congrArg some (zem _ 0 l)
theorem zDE{l:List (List UInt8)}(hl:zkB l)(n:List UInt8):zax l n=some (l.any fun y=>n == y):=by
 unfold zax zcK
 rw [show ((zl (fun z=>zbe l n z) 0).bind fun o=>zD o (fun b=>zev) some)=_ from zaD (p:=fun y:List UInt8=>n == y) hl
  (fun i x hx=>by unfold zbe;rw [zd9 hx,zr,hx];rfl) (by unfold zbe;rw [zeD];rfl)]
 exact congrArg some (zem _ 0 l)
theorem zqM{c:za}(hl:zkB c.Methods)(n:List UInt8):ze7 c n=some (ixF (fun y=>y.Name == n) 0 c.Methods):=by
 unfold ze7 zaN
 rw [show ((zl (fun z=>zaq c.Methods n z) 0).bind fun o=>zD o (fun b=>zcy) some)=_ from zaD (p:=fun y:zb=>y.Name == n) hl
  (fun i x hx=>by unfold zaq;rw [zd9 hx,zr,hx];rfl) (by unfold zaq;rw [zeD];rfl)]
 rfl
theorem zrR{c:za}(hl:zkB c.Fields)(n:List UInt8):zjC c n=some (ixF (fun y=>y.Name == n) 0 c.Fields):=by
 unfold zjC zaW
 rw [show ((zl (fun z=>zaE c.Fields n z) 0).bind fun o=>zD o (fun b=>zcY) some)=_ from zaD (p:=fun y:zk=>y.Name == n) hl
  (fun i x hx=>by unfold zaE;rw [zd9 hx,zr,hx];rfl) (by unfold zaE;rw [zeD];rfl)]
 rfl
def zl2(f:zk):Bool:=(zre f.Name&&!(f.Name == [36,105,110,105,116]))&&zfz f.Type_
theorem zrS{f:zk}(h1:Len f.Name)(h2:Len f.Type_):zjE f=some (zl2 f):=by
 unfold zjE zl2
 rw [zmN h1,zhz h2,Option.bind_some]
 cases (zre f.Name&&!(f.Name == [36,105,110,105,116])) <;> rfl
theorem zyB{l:List zk}(hl:zkB l)(h:∀f∈l,Len f.Name∧Len f.Type_)(n:Int):zf0 l n=cond (uB zl2 (·.Name) [] l) (some false) (some (decide ((l.length:Int)≤n))):=by
 unfold zf0
 refine zrM (ok:=zl2) (nm:=(·.Name)) hl (fun i x hx=>?_) ?_
 ·have hm:=h x (List.mem_of_getElem? hx)
  have hi:=(List.getElem?_eq_some_iff.1 hx).1
  unfold zgx
  rw [zd9 hx,zr,hx]
  simp only [Option.bind_some,cond_true]
  rw [zrS hm.1 hm.2,Option.bind_some,zpq (by omega),Option.bind_some,zBq (by unfold zkB at *;rw [List.length_take];omega)]
  cases zl2 x <;> rfl
 ·unfold zgx
  rw [zeD];rfl
theorem zAZ{l:List (List UInt8)}(hl:zkB l)(h:∀s∈l,Len s)(n:Int):zhm l n=cond (uB zbU id [] l) (some false) (some (decide ((l.length:Int)≤n))):=by
 unfold zhm
 refine zrM (ok:=zbU) (nm:=id) hl (fun i x hx=>?_) ?_
 ·have hm:=h x (List.mem_of_getElem? hx)
  have hi:=(List.getElem?_eq_some_iff.1 hx).1
  unfold zhv
  rw [zd9 hx,zr,hx]
  simp only [Option.bind_some,cond_true]
  rw [zg1 hm,Option.bind_some,zpq (by omega),Option.bind_some,zDE (by unfold zkB at *;rw [List.length_take];omega)]
  cases zbU x <;> rfl
 ·unfold zhv
  rw [zeD];rfl
def zu2(l:List (List UInt8)):Bool:=!(l.any fun s=>!zfz s)
theorem zrU{l:List (List UInt8)}(hl:zkB l)(h:∀s∈l,Len s):zlo l=some (zu2 l):=by
 unfold zlo zbJ zdW
 rw [show ((zl (fun z=>zbK l z) 0).bind fun o=>zD o (fun b=>zfo) some)=_ from zaD (p:=fun s=>!zfz s) hl
  (fun i x hx=>by
   unfold zbK zlp
   rw [zd9 hx,zr,hx]
   simp only [Option.bind_some,cond_true]
   rw [zhz (h x (List.mem_of_getElem? hx))]
   rfl) (by unfold zbK;rw [zeD];rfl)]
 rw [Option.bind_some,zem]
 rfl
def zDH(n:Int)(x:zp):Bool:=(!zjg x)||(zfA x.Op&&decide (n≤x.A))
def instrN(c:List zp):Bool:=zs (c.length:Int) 1 100&&(c.getLast?.elim false (fun y=>zjP y.Op)&&!(c.any (zDH (c.length:Int))))
theorem zmz{m:zb}(hl:zkB m.Code)(h:∀x∈m.Code,Len x.C∧Len x.M):ze8 m=some (instrN m.Code):=by
 have hc:zaK m.Code (m.Code.length:Int)=some (m.Code.any (zDH (m.Code.length:Int))):=by
  unfold zaK zc4
  rw [show ((zl (fun z=>zbo m.Code (m.Code.length:Int) z) 0).bind fun o=>zD o (fun b=>zeL) some)=_ from zaD (p:=zDH (m.Code.length:Int)) hl
   (fun i x hx=>by
    have hm:=h x (List.mem_of_getElem? hx)
    unfold zbo zhc
    rw [zd9 hx,zr,hx]
    simp only [Option.bind_some,cond_true]
    rw [zzM hm.1 hm.2]
    rfl) (by unfold zbo;rw [zeD];rfl)]
  exact congrArg some (zem _ 0 _)
 unfold ze8 instrN
 rw [hc]
 cases hb:zs (m.Code.length:Int) 1 100 with
 |false=>rfl
 |true =>
  have hb':(decide (1≤(m.Code.length:Int))&&decide ((m.Code.length:Int)≤100))=true:=hb
  simp only [Bool.and_eq_true,decide_eq_true_eq] at hb'
  have e:IntKind.i64.wrap ((m.Code.length:Int)-1)=((m.Code.length-1:Nat):Int):=by
   rw [zlX (by omega) (by omega)];omega
  rw [e,zr,←List.getLast?_eq_getElem?]
  cases hg:m.Code.getLast? with
  |none =>
   rw [List.getLast?_eq_none_iff] at hg
   rw [hg] at hb'
   simp at hb'
  |some y =>
   simp only [Option.bind_some,Bool.not_true,cond_false,Option.elim_some,Bool.true_and]
   cases zjP y.Op <;> rfl
def zsb(n:Int)(y:zR):Bool:=(((decide (y.From<0)||decide (y.To≤y.From))||decide (n<y.To))||!(zs y.At 0 (IntKind.i64.wrap (n-1))))||(!(y.C == [])&&!zbU y.C)
def zph(m:zb):Bool:=!(m.Traps.any (zsb (m.Code.length:Int)))&&decide ((m.Traps.length:Int)≤6)
theorem zrT{m:zb}(hl:zkB m.Traps)(h:∀x∈m.Traps,Len x.C):zlm m=some (zph m):=by
 unfold zlm za7 zcv
 rw [show ((zl (fun z=>za8 m.Traps m.Name m.Params m.Ret m.Static m.Abstract m.Locals m.Stack m.Code m.Maps m.Traps z) 0).bind fun o=>zD o (fun b=>zei) some)=_ from zaD (p:=zsb (m.Code.length:Int)) hl
  (fun i x hx=>by
   have hm:=h x (List.mem_of_getElem? hx)
   unfold za8 zln zsb
   rw [zd9 hx,zr,hx]
   simp only [Option.bind_some,cond_true]
   rw [zg1 hm]
   cases (((decide (x.From<0)||decide (x.To≤x.From))||decide ((m.Code.length:Int)<x.To))||!(zs x.At 0 (IntKind.i64.wrap ((m.Code.length:Int)-1)))) with
   |true=>rfl
   |false=>cases (x.C == []) <;> rfl) (by unfold za8;rw [zeD];rfl)]
 rw [Option.bind_some,zem]
 rfl
def gB{α:Type}(bad:List α→α→Bool):List α→List α→Bool
 |_,[]=>false
 |pre,x ::r=>bad pre x||gB bad (pre++[x]) r
theorem znp{α:Type}{body:Int→Option (Sum Int (Sum Unit Bool))}{l:List α}{bad:List α→α→Bool}(hl:l.length≤9223372036854775807)
  (hb:∀(i:Nat) x,l[i]?=some x→body (i:Int)=cond (bad (l.take i) x) (some (.inr (.inr false))) (some (.inl (IntKind.i64.wrap ((i:Int)+1)))))
  (he:body (l.length:Int)=some (.inr (.inl ()))):zl body 0=some (cond (gB bad [] l) (.inr false) (.inl ())):=by
 have key:∀(r pre:List α),l=pre++r→zl body (pre.length:Int)=some (cond (gB bad pre r) (.inr false) (.inl ())):=by
  intro r
  induction r with
  |nil =>
   intro pre h
   rw [List.append_nil] at h
   subst h
   rw [zI,he]
   rfl
  |cons x r ih =>
   intro pre h
   have hlen:l.length=pre.length+(r.length+1):=by rw [h];simp
   have hx:l[pre.length]?=some x:=by rw [h];simp
   have ht:l.take pre.length=pre:=by rw [h];simp
   rw [zI,hb _ x hx,ht]
   unfold gB
   cases bad pre x with
   |true=>rfl
   |false =>
    rw [zN (by omega)]
    have:=ih (pre++[x]) (by rw [h];simp)
    rw [show (pre++[x]).length=pre.length+1 by simp] at this
    exact this
 exact key l [] rfl
theorem zCC{α:Type}(p:α→Bool):∀(pre r:List α),gB (fun _ x=>p x) pre r=r.any p
 |_,[]=>rfl
 |pre,x ::r=>by
  show (p x||gB _ _ r)=_
  rw [zCC p (pre++[x]) r,List.any_cons]
theorem zCi{α:Type}(ok:α→Bool)(nm:α→List UInt8):∀(pre r:List α),uB ok nm pre r=gB (fun pre x=>!ok x||pre.any (fun y=>nm x == nm y)) pre r
 |_,[]=>rfl
 |pre,x ::r=>by
  show (_||uB ok nm (pre++[x]) r)=(_||gB _ (pre++[x]) r)
  rw [zCi ok nm (pre++[x]) r]
theorem zkW{α:Type}{body:Int→Option (Sum Int (Sum Unit Bool))}{l:List α}{bad:α→Bool}(hl:l.length≤9223372036854775807)
  (hb:∀(i:Nat) x,l[i]?=some x→body (i:Int)=cond (bad x) (some (.inr (.inr false))) (some (.inl (IntKind.i64.wrap ((i:Int)+1)))))
  (he:body (l.length:Int)=some (.inr (.inl ()))):zl body 0=some (cond (l.any bad) (.inr false) (.inl ())):=by
 rw [znp (bad:=fun _ x=>bad x) hl hb he,zCC]
def zoB(v:List UInt8):Bool:=(((v == [73])||(v == [78]))||(v == [84]))||zqg v
theorem zsQ{s:List UInt8}(h:Len s):znn s=some (zoB s):=by
 unfold znn zoB
 rw [zly h]
 cases (((s == [73])||(s == [78]))||(s == [84])) <;> rfl
def ziZ(l:List (List UInt8)):Bool:=!(l.any fun s=>!zoB s)
theorem zkO{l:List (List UInt8)}(hl:zkB l)(h:∀s∈l,Len s):zhf l=some (ziZ l):=by
 unfold zhf za9 zcJ
 rw [show ((zl (fun z=>zbd l z) 0).bind fun o=>zD o (fun b=>zeu) some)=_ from zaD (p:=fun s=>!zoB s) hl
  (fun i x hx=>by
   unfold zbd zi2
   rw [zd9 hx,zr,hx]
   simp only [Option.bind_some,cond_true]
   rw [zsQ (h x (List.mem_of_getElem? hx))]
   rfl) (by unfold zbd;rw [zeD];rfl)]
 rw [Option.bind_some,zem]
 rfl
theorem zzn{l:List (List UInt8)}(hl:zkB l)(n:List UInt8):zP l n=some (l.any fun y=>n == y):=by
 unfold zP zeU
 rw [show ((zl (fun z=>zck l n z) 0).bind fun o=>zD o (fun b=>zgo) some)=_ from zaD (p:=fun y:List UInt8=>n == y) hl
  (fun i x hx=>by unfold zck;rw [zd9 hx,zr,hx];rfl) (by unfold zck;rw [zeD];rfl)]
 exact congrArg some (zem _ 0 l)
def zCF(m:zb)(pre:List zS)(x:zS):Bool:=
 ((!(decide (0≤x.At)&&decide (x.At<(m.Code.length:Int))))||(pre.getLast?.elim false (fun y=>decide (x.At≤y.At)))) ||
 (((!((x.Locals.length:Int) == m.Locals))||decide (m.Stack<(x.Stack.length:Int)))||((!ziZ x.Locals||!ziZ x.Stack)||x.Stack.any (fun y=>[84] == y)))
def ztd(m:zb):Bool:=!(gB (zCF m) [] m.Maps)&&decide ((m.Maps.length:Int)≤100)
structure zys(m:zb):Prop where
 len:zkB m.Maps
 code:zkB m.Code
 all:∀x∈m.Maps,(zkB x.Locals∧∀s∈x.Locals,Len s)∧(zkB x.Stack∧∀s∈x.Stack,Len s)
theorem zu0{α:Type}{l:List α}{i:Nat}(h:i<l.length)(h0:0<i):(l.take i).getLast?=l[i-1]?:=by
 rw [List.getLast?_eq_getElem?,List.getElem?_take_of_lt (by simp;omega)]
 congr 1
 simp;omega
theorem zsO{m:zb}(h:zys m):znl m=some (ztd m):=by
 have j2:∀(i:Nat) (x:zS) (b:Bool),x∈m.Maps→zgX m (i:Int) x b=cond (b||(((!((x.Locals.length:Int) == m.Locals))||decide (m.Stack<(x.Stack.length:Int)))||((!ziZ x.Locals||!ziZ x.Stack)||x.Stack.any (fun y=>[84] == y)))) (some (.inr (.inr false))) (some (.inl (IntKind.i64.wrap ((i:Int)+1)))):=fun i x b hx=>by
  obtain ⟨⟨h1,h2⟩,h3,h4⟩:=h.all x hx
  unfold zgX
  rw [zkO h1 h2,zkO h3 h4,zzn h3]
  cases b with
  |true=>rfl
  |false =>
   cases ((!((x.Locals.length:Int) == m.Locals))||decide (m.Stack<(x.Stack.length:Int))) with
   |true=>rfl
   |false =>
    cases ziZ x.Locals with
    |false=>rfl
    |true=>cases ziZ x.Stack <;> rfl
 have hl:zl (fun z=>zgY m z) 0=_:=znp (bad:=zCF m) h.len (fun i x hx=>by
  have hm:=List.mem_of_getElem? hx
  have hi:=(List.getElem?_eq_some_iff.1 hx).1
  have hlen:=h.len
  have hcode:=h.code
  unfold zkB at hlen hcode
  show zgY m (i:Int)=_
  unfold zgY zCF
  rw [zd9 hx,zr,hx]
  simp only [Option.bind_some,cond_true]
  have hb:zs x.At 0 (IntKind.i64.wrap ((m.Code.length:Int)-1))=(decide (0≤x.At)&&decide (x.At<(m.Code.length:Int))):=by
   show (decide (0≤x.At)&&decide (x.At≤IntKind.i64.wrap ((m.Code.length:Int)-1)))=_
   rw [zlX (by omega) (by omega)]
   congr 1
   exact decide_eq_decide.2 (by omega)
  rw [hb]
  cases (decide (0≤x.At)&&decide (x.At<(m.Code.length:Int))) with
  |false=>exact j2 i x true hm
  |true =>
   rcases Nat.eq_zero_or_pos i with h0 |h0
   ·subst h0
    exact j2 0 x false hm
   ·rw [decide_eq_true (show (0:Int)<(i:Int) by omega),zu0 hi h0]
    have e:IntKind.i64.wrap ((i:Int)-1)=((i-1:Nat):Int):=by
     rw [zlX (by omega) (by omega)];omega
    rw [e,zr,List.getElem?_eq_getElem (show i-1<m.Maps.length by omega)]
    exact j2 i x _ hm) (by show zgY m (m.Maps.length:Int)=_;unfold zgY;rw [zeD];rfl)
 unfold znl ztd
 rw [hl]
 cases gB (zCF m) [] m.Maps <;> rfl
theorem zB4(v:List UInt8):(cond (!(v == [84])&&!(v == [78])) (!zfz v) false)=!zoB v:=by
 by_cases h1:v=[73]
 ·subst h1;decide +kernel
 by_cases h2:v=[78]
 ·subst h2;decide +kernel
 by_cases h3:v=[84]
 ·subst h3;decide +kernel
 unfold zoB zqg
 rw [beq_eq_false_iff_ne.2 h1,beq_eq_false_iff_ne.2 h2,beq_eq_false_iff_ne.2 h3]
 simp
theorem zB5(v:List UInt8):(cond (!(v == [78])) (!zfz v) false)=(!zoB v||([84] == v)):=by
 by_cases h1:v=[73]
 ·subst h1;decide +kernel
 by_cases h2:v=[78]
 ·subst h2;decide +kernel
 by_cases h3:v=[84]
 ·subst h3;decide +kernel
 unfold zoB zqg
 rw [beq_eq_false_iff_ne.2 h1,beq_eq_false_iff_ne.2 h2,beq_eq_false_iff_ne.2 h3,beq_eq_false_iff_ne.2 (Ne.symm h3)]
 simp
theorem zEq{α:Type}(l:List α)(p q:α→Bool):l.any (fun x=>p x||q x)=(l.any p||l.any q):=by
 induction l with
 |nil=>rfl
 |cons x l ih =>
  simp only [List.any_cons,ih]
  cases p x <;> cases q x <;> simp
theorem zuK{m:zb}(h:zys m):zo8 m=some (ztd m):=by
 have l7:∀x:zS,x∈m.Maps→zl (fun z=>zgQ x z) 0=some (cond (!ziZ x.Locals) (.inr false) (.inl ())):=fun x hx=>by
  obtain ⟨⟨h1,h2⟩,h3,h4⟩:=h.all x hx
  have:=zkW (body:=fun z=>zgQ x z) (bad:=fun v=>!zoB v) h1 (fun i v hv=>by
   show zgQ x (i:Int)=_
   unfold zgQ
   rw [zd9 hv,zr,hv]
   simp only [Option.bind_some,cond_true]
   rw [zf3 (h2 v (List.mem_of_getElem? hv)),←zB4]
   cases (!(v == [84])&&!(v == [78])) <;> rfl) (by show zgQ x (x.Locals.length:Int)=_;unfold zgQ;rw [zeD];rfl)
  rw [this]
  unfold ziZ
  rw [Bool.not_not]
 have l9:∀x:zS,x∈m.Maps→zl (fun z=>zgR x z) 0=some (cond (!ziZ x.Stack||x.Stack.any (fun y=>[84] == y)) (.inr false) (.inl ())):=fun x hx=>by
  obtain ⟨⟨h1,h2⟩,h3,h4⟩:=h.all x hx
  have:=zkW (body:=fun z=>zgR x z) (bad:=fun v=>!zoB v||([84] == v)) h3 (fun i v hv=>by
   show zgR x (i:Int)=_
   unfold zgR
   rw [zd9 hv,zr,hv]
   simp only [Option.bind_some,cond_true]
   rw [zf3 (h4 v (List.mem_of_getElem? hv)),←zB5]
   cases (!(v == [78])) <;> rfl) (by show zgR x (x.Stack.length:Int)=_;unfold zgR;rw [zeD];rfl)
  rw [this,zEq]
  unfold ziZ
  rw [Bool.not_not]
 have j6:∀(i:Nat) (x:zS) (b:Bool),x∈m.Maps→zcV (i:Int) x b=cond (b||((!ziZ x.Locals||!ziZ x.Stack)||x.Stack.any (fun y=>[84] == y))) (some (.inr (.inr false))) (some (.inl (IntKind.i64.wrap ((i:Int)+1)))):=fun i x b hx=>by
  unfold zcV
  rw [l7 x hx]
  cases b with
  |true=>rfl
  |false =>
   cases ziZ x.Locals with
   |false=>rfl
   |true =>
    show zm0 (i:Int) x=_
    unfold zm0
    rw [l9 x hx]
    cases ziZ x.Stack with
    |false=>rfl
    |true=>cases x.Stack.any (fun y=>[84] == y) <;> rfl
 have hl:zl (fun z=>zg6 m z) 0=_:=znp (bad:=zCF m) h.len (fun i x hx=>by
  have hm:=List.mem_of_getElem? hx
  have hi:=(List.getElem?_eq_some_iff.1 hx).1
  have hlen:=h.len
  have hcode:=h.code
  unfold zkB at hlen hcode
  show zg6 m (i:Int)=_
  unfold zg6 zCF
  rw [zd9 hx,zr,hx]
  simp only [Option.bind_some,cond_true]
  by_cases h1:x.At<0
  ·rw [decide_eq_true h1,decide_eq_false (show ¬0≤x.At by omega)]
   exact j6 i x true hm
  rw [decide_eq_false h1,decide_eq_true (show 0≤x.At by omega)]
  by_cases h2:(m.Code.length:Int)≤x.At
  ·rw [decide_eq_true h2,decide_eq_false (show ¬x.At<(m.Code.length:Int) by omega)]
   exact j6 i x true hm
  rw [decide_eq_false h2,decide_eq_true (show x.At<(m.Code.length:Int) by omega)]
  rcases Nat.eq_zero_or_pos i with h0 |h0
  ·subst h0
   show cond (!((x.Locals.length:Int) == m.Locals)) (zcV ((0:Nat):Int) x true) (zcV ((0:Nat):Int) x (decide (m.Stack<(x.Stack.length:Int))))=_
   cases (!((x.Locals.length:Int) == m.Locals)) with
   |true=>exact j6 0 x true hm
   |false=>exact j6 0 x _ hm
  ·rw [decide_eq_true (show (0:Int)<(i:Int) by omega),zu0 hi h0]
   have e:IntKind.i64.wrap ((i:Int)-1)=((i-1:Nat):Int):=by
    rw [zlX (by omega) (by omega)];omega
   rw [e,zr,List.getElem?_eq_getElem (show i-1<m.Maps.length by omega)]
   simp only [cond_true,cond_false,Option.bind_some,Option.elim_some]
   cases decide (x.At≤m.Maps[i-1].At) with
   |true=>exact j6 i x true hm
   |false =>
    cases (!((x.Locals.length:Int) == m.Locals)) with
    |true=>exact j6 i x true hm
    |false=>exact j6 i x _ hm) (by show zg6 m (m.Maps.length:Int)=_;unfold zg6;rw [zeD];rfl)
 unfold zo8 ztd
 rw [hl]
 by_cases hn:(m.Maps.length:Int)≤100
 ·rw [decide_eq_true hn,decide_eq_false (show ¬100<(m.Maps.length:Int) by omega)]
  cases gB (zCF m) [] m.Maps <;> rfl
 ·rw [decide_eq_false hn,decide_eq_true (show 100<(m.Maps.length:Int) by omega),Bool.and_false]
  rfl
structure zCo(m:zb):Prop where
 code:zkB m.Code∧∀x∈m.Code,Len x.C∧Len x.M
 traps:zkB m.Traps∧∀x∈m.Traps,Len x.C
theorem zuI{m:zb}(h:zCo m):zo7 m=some (instrN m.Code&&zph m):=by
 have hcl:=h.code.1
 unfold zkB at hcl
 have lc:zl (fun z=>zhK m z) 0=some (cond (m.Code.any (zDH (m.Code.length:Int))) (.inr false) (.inl ())):=
  zkW h.code.1 (fun i x hx=>by
   have hm:=h.code.2 x (List.mem_of_getElem? hx)
   show zhK m (i:Int)=_
   unfold zhK
   rw [zd9 hx,zr,hx]
   simp only [Option.bind_some,cond_true]
   rw [zr8 hm.1 hm.2]
   rfl) (by show zhK m (m.Code.length:Int)=_;unfold zhK;rw [zeD];rfl)
 have lt:zl (fun z=>zhL m z) 0=some (cond (m.Traps.any (zsb (m.Code.length:Int))) (.inr false) (.inl ())):=
  zkW h.traps.1 (fun i x hx=>by
   have hm:=h.traps.2 x (List.mem_of_getElem? hx)
   show zhL m (i:Int)=_
   unfold zhL
   rw [zd9 hx,zr,hx]
   simp only [Option.bind_some,cond_true]
   rw [zg5 hm]
   have hb:(!(zs x.At 0 (IntKind.i64.wrap ((m.Code.length:Int)-1))))=(decide (x.At<0)||decide ((m.Code.length:Int)≤x.At)):=by
    show (!(decide (0≤x.At)&&decide (x.At≤IntKind.i64.wrap ((m.Code.length:Int)-1))))=_
    rw [zlX (by omega) (by omega)]
    by_cases h1:x.At<0
    ·rw [decide_eq_true h1,decide_eq_false (show ¬0≤x.At by omega)];rfl
    ·rw [decide_eq_false h1,decide_eq_true (show 0≤x.At by omega)]
     by_cases h2:(m.Code.length:Int)≤x.At
     ·rw [decide_eq_true h2,decide_eq_false (show ¬x.At≤(m.Code.length:Int)-1 by omega)];rfl
     ·rw [decide_eq_false h2,decide_eq_true (show x.At≤(m.Code.length:Int)-1 by omega)];rfl
   unfold zsb
   rw [hb]
   cases decide (x.From<0) <;> cases decide (x.To≤x.From) <;> cases decide ((m.Code.length:Int)<x.To) <;> cases decide (x.At<0) <;> cases decide ((m.Code.length:Int)≤x.At) <;> cases (x.C == []) <;> rfl) (by show zhL m (m.Traps.length:Int)=_;unfold zhL;rw [zeD];rfl)
 have hn:decide (6<(m.Traps.length:Int))=!decide ((m.Traps.length:Int)≤6):=by
  by_cases h6:(m.Traps.length:Int)≤6
  ·rw [decide_eq_true h6,decide_eq_false (show ¬6<(m.Traps.length:Int) by omega)];rfl
  ·rw [decide_eq_false h6,decide_eq_true (show 6<(m.Traps.length:Int) by omega)];rfl
 have k2:zkt m=some (!m.Traps.any (zsb (m.Code.length:Int))):=by
  unfold zkt
  rw [lt]
  cases m.Traps.any (zsb (m.Code.length:Int)) <;> rfl
 unfold zo7 zph instrN
 rw [lc,hn]
 by_cases h1:(m.Code.length:Int)<1
 ·rw [decide_eq_true h1,show zs (m.Code.length:Int) 1 100=false from by show (decide (1≤(m.Code.length:Int))&&_)=false;rw [decide_eq_false (show ¬1≤(m.Code.length:Int) by omega)];rfl]
  rfl
 by_cases h2:100<(m.Code.length:Int)
 ·rw [decide_eq_true h2,show zs (m.Code.length:Int) 1 100=false from by show (decide (1≤(m.Code.length:Int))&&decide ((m.Code.length:Int)≤100))=false;rw [decide_eq_false (show ¬(m.Code.length:Int)≤100 by omega),Bool.and_false],Bool.or_true]
  rfl
 rw [decide_eq_false h1,decide_eq_false h2,show zs (m.Code.length:Int) 1 100=true from by show (decide (1≤(m.Code.length:Int))&&decide ((m.Code.length:Int)≤100))=true;rw [decide_eq_true (show 1≤(m.Code.length:Int) by omega),decide_eq_true (show (m.Code.length:Int)≤100 by omega)];rfl]
 have e:IntKind.i64.wrap ((m.Code.length:Int)-1)=((m.Code.length-1:Nat):Int):=by
  rw [zlX (by omega) (by omega)];omega
 rw [e,zr,←List.getLast?_eq_getElem?]
 cases hg:m.Code.getLast? with
 |none =>
  rw [List.getLast?_eq_none_iff] at hg
  rw [hg] at h1
  simp at h1
 |some y =>
  simp only [Option.bind_some,Option.elim_some]
  rw [show zhY y.Op=zjP y.Op from rfl]
  cases zjP y.Op with
  |false=>rfl
  |true =>
   cases decide ((m.Traps.length:Int)≤6) with
   |false =>
    cases m.Code.any (zDH (m.Code.length:Int)) <;> cases m.Traps.any (zsb (m.Code.length:Int)) <;> rfl
   |true =>
    cases m.Code.any (zDH (m.Code.length:Int)) with
    |true=>rfl
    |false =>
     show zkt m=_
     rw [k2]
     cases m.Traps.any (zsb (m.Code.length:Int)) <;> rfl
structure GIn(m:zb):Prop where
 name:Len m.Name
 params:m.Params.length≤1000000000000∧∀s∈m.Params,Len s
 ret:Len m.Ret
 maps:zys m
 body:zCo m
 small:m.Code.length≤1000000000000∧m.Maps.length≤1000000000000∧m.Traps.length≤1000000000000
def zfu(m:zb):Bool:=
 ((!((!zre m.Name)||decide (6<(m.Params.length:Int)))&&zu2 m.Params)&&zsw m.Ret)&&cond m.Abstract (zf2 m)
  (!((m.Name == [36,105,110,105,116])&&(((!m.Static)||decide (0<(m.Params.length:Int)))||(!(m.Ret == [86]))))&&(zs m.Locals (zao m) 16&&(zs m.Stack 0 16&&((instrN m.Code&&zph m)&&ztd m))))
theorem zFT{m:zb}(h:GIn m):zkB m.Params:=by have:=h.params.1;unfold zkB;omega
theorem zp7{m:zb}(h:GIn m):zkj m=some (zfu m):=by
 unfold zkj zfu
 rw [zmN h.name,Option.bind_some,zrU (zFT h) h.params.2,zvu h.ret,zmz h.body.code.1 h.body.code.2,zsO h.maps,zrT h.body.traps.1 h.body.traps.2]
 cases ((!zre m.Name)||decide (6<(m.Params.length:Int))) with
 |true=>rfl
 |false =>
  cases zu2 m.Params with
  |false=>rfl
  |true =>
   cases zsw m.Ret with
   |false=>rfl
   |true =>
    cases m.Abstract with
    |true=>rfl
    |false =>
     cases ((m.Name == [36,105,110,105,116])&&(((!m.Static)||decide (0<(m.Params.length:Int)))||(!(m.Ret == [86])))) with
     |true=>rfl
     |false =>
      cases zs m.Locals (zao m) 16 with
      |false=>rfl
      |true =>
       cases zs m.Stack 0 16 with
       |false=>rfl
       |true=>cases instrN m.Code <;> cases ztd m <;> cases zph m <;> rfl
theorem zvP{s:List UInt8}(h:Len s):zqv s=some (zsw s):=by
 unfold zqv zsw
 rw [zf3 h]
 cases (s == [86]) <;> rfl
theorem zBb{m:zb}(h:GIn m):zf2 m=(((((((!m.Static)&&(!(m.Name == [36,105,110,105,116])))&&(m.Locals == (0:Int)))&&(m.Stack == (0:Int)))&&((m.Code.length:Int) == (0:Int)))&&((m.Maps.length:Int) == (0:Int)))&&((m.Traps.length:Int) == (0:Int))):=by
 obtain ⟨h1,h2,h3⟩:=h.small
 have key:(((m.Code.length:Int)+(m.Maps.length:Int)+(m.Traps.length:Int)) == (0:Int))=((((m.Code.length:Int) == 0)&&((m.Maps.length:Int) == 0))&&((m.Traps.length:Int) == 0)):=by
  by_cases a:(m.Code.length:Int)=0
  ·by_cases b:(m.Maps.length:Int)=0
   ·rw [a,b,Int.zero_add,Int.zero_add];rfl
   ·rw [beq_eq_false_iff_ne.2 (show ((m.Code.length:Int)+m.Maps.length+m.Traps.length)≠0 by omega),beq_eq_false_iff_ne.2 b,Bool.and_false,Bool.false_and]
  ·rw [beq_eq_false_iff_ne.2 (show ((m.Code.length:Int)+m.Maps.length+m.Traps.length)≠0 by omega),beq_eq_false_iff_ne.2 a,Bool.false_and,Bool.false_and]
 unfold zf2
 rw [zlX (n:=(m.Code.length:Int)+(m.Maps.length:Int)) (by omega) (by omega),zlX (by omega) (by omega),key]
 simp only [Bool.and_assoc]
theorem zqG(x a b:Int):(decide (x<a)||decide (b<x))=!(zs x a b):=by
 show _=!(decide (a≤x)&&decide (x≤b))
 by_cases h1:x<a
 ·rw [decide_eq_true h1,decide_eq_false (show ¬a≤x by omega)];rfl
 ·rw [decide_eq_false h1,decide_eq_true (show a≤x by omega)]
  by_cases h2:b<x
  ·rw [decide_eq_true h2,decide_eq_false (show ¬x≤b by omega)];rfl
  ·rw [decide_eq_false h2,decide_eq_true (show x≤b by omega)];rfl
theorem zpG{m:zb}(h:GIn m):zhk m=some (zfu m):=by
 have lp:zl (fun z=>zeE m z) 0=some (cond (m.Params.any fun s=>!zfz s) (.inr false) (.inl ())):=
  zkW (zFT h) (fun i x hx=>by
   show zeE m (i:Int)=_
   unfold zeE
   rw [zd9 hx,zr,hx]
   simp only [Option.bind_some,cond_true]
   rw [zf3 (h.params.2 x (List.mem_of_getElem? hx))]
   rfl) (by show zeE m (m.Params.length:Int)=_;unfold zeE;rw [zeD];rfl)
 have j3:∀a,zfT m a=some (zs m.Locals a 16&&(zs m.Stack 0 16&&((instrN m.Code&&zph m)&&ztd m))):=fun a=>by
  unfold zfT
  rw [zqG,Bool.or_assoc,zqG,zuI h.body,zuK h.maps]
  cases zs m.Locals a 16 with
  |false=>rfl
  |true =>
   cases zs m.Stack 0 16 with
   |false=>rfl
   |true=>cases (instrN m.Code&&zph m) <;> rfl
 have k2:ziv m=some (cond m.Abstract (zf2 m)
  (!((m.Name == [36,105,110,105,116])&&(((!m.Static)||decide (0<(m.Params.length:Int)))||(!(m.Ret == [86]))))&&(zs m.Locals (zao m) 16&&(zs m.Stack 0 16&&((instrN m.Code&&zph m)&&ztd m))))):=by
  unfold ziv zao
  rw [j3,j3,zBb h]
  cases m.Abstract with
  |true=>rfl
  |false =>
   cases ((m.Name == [36,105,110,105,116])&&(((!m.Static)||decide (0<(m.Params.length:Int)))||(!(m.Ret == [86])))) with
   |true=>rfl
   |false=>cases m.Static <;> rfl
 unfold zhk zfu zu2
 rw [zmZ h.name,Option.bind_some,zvP h.ret,lp]
 cases ((!zre m.Name)||decide (6<(m.Params.length:Int))) with
 |true=>rfl
 |false =>
  cases zsw m.Ret with
  |false=>rw [Bool.and_false];rfl
  |true =>
   cases m.Params.any fun s=>!zfz s with
   |true=>rfl
   |false=>exact k2
theorem zvf{l:List zb}(hl:zkB l)(h:∀m∈l,GIn m)(n:Int)(a b:List UInt8)(i:Bool)(c:List (List UInt8))(d:List zk)(e:List zb):
  zee l n a b i c d e=cond (uB (fun m=>(m.Abstract == i)&&zfu m) (·.Name) [] l) (some false) (some (decide ((l.length:Int)≤n))):=by
 unfold zee
 refine zrM (ok:=fun m=>(m.Abstract == i)&&zfu m) (nm:=(·.Name)) hl (fun j x hx=>?_) ?_
 ·have hm:=h x (List.mem_of_getElem? hx)
  have hi:=(List.getElem?_eq_some_iff.1 hx).1
  unfold zf1 zlk
  rw [zd9 hx,zr,hx]
  simp only [Option.bind_some,cond_true]
  rw [zp7 hm,zpq (by omega)]
  simp only [Option.bind_some]
  rw [zzm (by unfold zkB at *;rw [List.length_take];omega)]
  cases (x.Abstract == i) with
  |false=>rfl
  |true=>cases zfu x <;> rfl
 ·unfold zf1
  rw [zeD];rfl
structure zAO(c:za):Prop where
 name:Len c.Name
 super:Len c.Super
 impl:zkB c.Impl∧∀s∈c.Impl,Len s
 fields:zkB c.Fields∧∀f∈c.Fields,Len f.Name∧Len f.Type_
 methods:zkB c.Methods∧∀m∈c.Methods,GIn m
def zrO(c:za):Bool:=
 !(c.Interface&&((!(c.Super == [79,98,106,101,99,116]))||decide (0<(c.Fields.length:Int)))) &&
 (((((zbU c.Name&&zbU c.Super)&&(!(uB zbU id [] c.Impl)&&decide ((c.Impl.length:Int)≤4)))&&(!(uB zl2 (·.Name) [] c.Fields)&&decide ((c.Fields.length:Int)≤8)))) &&
  (!(uB (fun m=>(m.Abstract == c.Interface)&&zfu m) (·.Name) [] c.Methods)&&decide ((c.Methods.length:Int)≤8)))
theorem zsN{c:za}(h:zAO c):zoJ c=some (zrO c):=by
 have e:∀(b d:Bool),cond b (some false) (some d)=some (!b&&d):=fun b d=>by cases b <;> rfl
 unfold zoJ zrO
 rw [zyB h.fields.1 h.fields.2,zvf h.methods.1 h.methods.2,zg1 h.name,zg1 h.super,zAZ h.impl.1 h.impl.2,e,e,e]
 cases (c.Interface&&((!(c.Super == [79,98,106,101,99,116]))||decide (0<(c.Fields.length:Int)))) with
 |true=>rfl
 |false =>
  cases zbU c.Name with
  |false=>rfl
  |true=>cases zbU c.Super <;> rfl
theorem zsV{α:Type}(p:α→Bool):∀(l:List α) (k i:Nat) (x:α),l[i]?=some x→p x=true→(ixF p k l == ((k+i:Nat):Int))=!((l.take i).any p)
 | [],k,i,x,h,_=>by simp at h
 |y ::r,k,0,x,h,hp=>by
  have:y=x:=by simpa using h
  subst this
  show (cond (p y) (k:Int) (ixF p (k+1) r) == (k:Int))=true
  rw [hp]
  exact beq_self_eq_true _
 |y ::r,k,i+1,x,h,hp=>by
  have h':r[i]?=some x:=by simpa using h
  show (cond (p y) (k:Int) (ixF p (k+1) r) == ((k+(i+1):Nat):Int))=!(p y||(r.take i).any p)
  cases p y with
  |true=>exact beq_eq_false_iff_ne.2 (show (k:Int)≠((k+(i+1):Nat):Int) by omega)
  |false =>
   have:=zsV p r (k+1) i x h' hp
   rw [show k+1+i=k+(i+1) by omega] at this
   exact this
theorem zo4{c:za}(hl:zkB c.Fields)(n:List UInt8):zk2 c n=some (ixF (fun y=>y.Name == n) 0 c.Fields):=by
 unfold zk2
 rw [show ((zl (fun z=>zjs c n z) 0).bind fun o=>zD o (fun b=>zo5) some)=_ from zaD (p:=fun y:zk=>y.Name == n) hl
  (fun i x hx=>by unfold zjs;rw [zd9 hx,zr,hx];rfl) (by unfold zjs;rw [zeD];rfl)]
theorem zfw{c:za}(hl:zkB c.Methods)(n:List UInt8):zeb c n=some (ixF (fun y=>y.Name == n) 0 c.Methods):=by
 unfold zeb
 rw [show ((zl (fun z=>ziI c n z) 0).bind fun o=>zD o (fun b=>znY) some)=_ from zaD (p:=fun y:zb=>y.Name == n) hl
  (fun i x hx=>by unfold ziI;rw [zd9 hx,zr,hx];rfl) (by unfold ziI;rw [zeD];rfl)]
theorem zEr(x y:List UInt8):(x == y)=(y == x):=by
 by_cases h:x=y
 ·rw [h]
 ·rw [beq_eq_false_iff_ne.2 h,beq_eq_false_iff_ne.2 (Ne.symm h)]
theorem zvW{α:Type}(l:List α)(f:α→List UInt8)(n:List UInt8):(l.any fun y=>f y == n)=l.any fun y=>n == f y:=by
 congr 1
 funext y
 exact zEr _ _
theorem zqe{c:za}(h:zAO c):zjt c=some (zrO c):=by
 have himp:=h.impl.1
 unfold zkB at himp
 have lf:zl (fun z=>ze2 c z) 0=some (cond (uB zl2 (·.Name) [] c.Fields) (.inr false) (.inl ())):=by
  rw [zCi]
  refine znp h.fields.1 (fun i x hx=>?_) (by show ze2 c (c.Fields.length:Int)=_;unfold ze2;rw [zeD];rfl)
  have hm:=h.fields.2 x (List.mem_of_getElem? hx)
  have hfi:=zsV (fun y:zk=>y.Name == x.Name) c.Fields 0 i x hx (beq_self_eq_true _)
  rw [Nat.zero_add,zvW] at hfi
  show ze2 c (i:Int)=_
  unfold ze2 zl2
  rw [zd9 hx,zr,hx]
  simp only [Option.bind_some,cond_true]
  rw [zmZ hm.1,zf3 hm.2,zo4 h.fields.1]
  simp only [Option.bind_some]
  rw [hfi]
  cases zre x.Name with
  |false=>rfl
  |true =>
   cases (x.Name == [36,105,110,105,116]) with
   |true=>rfl
   |false =>
    cases zfz x.Type_ with
    |false=>rfl
    |true=>cases (c.Fields.take i).any fun y=>x.Name == y.Name <;> rfl
 have lm:zl (fun z=>ze3 c z) 0=some (cond (uB (fun m=>(m.Abstract == c.Interface)&&zfu m) (·.Name) [] c.Methods) (.inr false) (.inl ())):=by
  rw [zCi]
  refine znp h.methods.1 (fun i x hx=>?_) (by show ze3 c (c.Methods.length:Int)=_;unfold ze3;rw [zeD];rfl)
  have hm:=h.methods.2 x (List.mem_of_getElem? hx)
  have hfi:=zsV (fun y:zb=>y.Name == x.Name) c.Methods 0 i x hx (beq_self_eq_true _)
  rw [Nat.zero_add,zvW] at hfi
  show ze3 c (i:Int)=_
  unfold ze3
  rw [zd9 hx,zr,hx]
  simp only [Option.bind_some,cond_true]
  rw [zpG hm,zfw h.methods.1]
  simp only [Option.bind_some]
  rw [hfi]
  cases (x.Abstract == c.Interface) with
  |false=>rfl
  |true =>
   cases zfu x with
   |false=>cases (c.Methods.take i).any fun y=>x.Name == y.Name <;> rfl
   |true=>cases (c.Methods.take i).any fun y=>x.Name == y.Name <;> rfl
 have li:zl (fun z=>ze1 c z) 0=some (cond (uB zbU id [] c.Impl) (.inr false) (.inl ())):=by
  rw [zCi]
  refine znp h.impl.1 (fun i x hx=>?_) (by show ze1 c (c.Impl.length:Int)=_;unfold ze1;rw [zeD];rfl)
  have hm:=h.impl.2 x (List.mem_of_getElem? hx)
  have hi:=(List.getElem?_eq_some_iff.1 hx).1
  have hin:zl (fun z=>ze0 c (i:Int) z) 0=some (cond ((c.Impl.take i).any fun y=>y == x) (.inr false) (.inl ())):=by
   have ht:(c.Impl.take i).length=i:=by rw [List.length_take];omega
   refine zkW (by omega) (fun j y hy=>?_) ?_
   ·have hj:=(List.getElem?_eq_some_iff.1 hy).1
    rw [ht] at hj
    rw [List.getElem?_take_of_lt hj] at hy
    show ze0 c (i:Int) (j:Int)=_
    unfold ze0
    rw [decide_eq_true (show (j:Int)<(i:Int) by omega),zr,hy,zr,hx]
    rfl
   ·rw [ht]
    show ze0 c (i:Int) (i:Int)=_
    unfold ze0
    rw [decide_eq_false (show ¬(i:Int)<(i:Int) by omega)];rfl
  show ze1 c (i:Int)=_
  unfold ze1
  rw [zd9 hx,zr,hx]
  simp only [Option.bind_some,cond_true]
  rw [zg5 hm,hin,show ((c.Impl.take i).any fun y=>y == x)=(c.Impl.take i).any fun y=>id x == id y from zvW _ id x]
  cases zbU x with
  |false=>rfl
  |true=>cases (c.Impl.take i).any fun y=>id x == id y <;> rfl
 have hle:∀(n:Nat) (b:Int),decide (b<(n:Int))=!decide ((n:Int)≤b):=fun n b=>by
  by_cases hb:(n:Int)≤b
  ·rw [decide_eq_true hb,decide_eq_false (show ¬b<(n:Int) by omega)];rfl
  ·rw [decide_eq_false hb,decide_eq_true (show b<(n:Int) by omega)];rfl
 unfold zjt zl7 zl8 zrO
 rw [zg5 h.name,zg5 h.super,li,lf,lm,hle c.Impl.length 4,hle c.Fields.length 8,hle c.Methods.length 8]
 generalize (c.Interface&&((!(c.Super == [79,98,106,101,99,116]))||decide (0<(c.Fields.length:Int))))=B
 generalize uB zbU id [] c.Impl=u1
 generalize uB zl2 (·.Name) [] c.Fields=u2
 generalize uB (fun m=>(m.Abstract == c.Interface)&&zfu m) (·.Name) [] c.Methods=u3
 generalize decide ((c.Impl.length:Int)≤4)=d1
 generalize decide ((c.Fields.length:Int)≤8)=d2
 generalize decide ((c.Methods.length:Int)≤8)=d3
 cases zbU c.Name with
 |false=>cases B <;> rfl
 |true =>
  cases zbU c.Super with
  |false=>cases B <;> rfl
  |true=>cases B <;> cases u1 <;> cases u2 <;> cases u3 <;> cases d1 <;> cases d2 <;> cases d3 <;> rfl
theorem zuV{body:Int→Option (Sum Int (Sum Unit Bool))}{a b:List (List UInt8)}(hl:a.length≤1000000)(hn:a.length=b.length)
  (hb:∀(i:Nat) x y,a[i]?=some x→b[i]?=some y→body (i:Int)=cond (!(x == y)) (some (.inr (.inr false))) (some (.inl (IntKind.i64.wrap ((i:Int)+1)))))
  (he:body (a.length:Int)=some (.inr (.inl ()))):zl body 0=some (cond (a == b) (.inl ()) (.inr false)):=by
 have key:∀(r s pre pre':List (List UInt8)),pre.length=pre'.length→a=pre++r→b=pre'++s→zl body (pre.length:Int)=some (cond (r == s) (.inl ()) (.inr false)):=by
  intro r
  induction r with
  |nil =>
   intro s pre pre' hp h1 h2
   have:s=[]:=by
    have:a.length=pre.length:=by rw [h1];simp
    have:b.length=pre'.length+s.length:=by rw [h2];simp
    exact List.eq_nil_of_length_eq_zero (by omega)
   subst this
   rw [List.append_nil] at h1
   subst h1
   rw [zI,he]
   rfl
  |cons x r ih =>
   intro s pre pre' hp h1 h2
   have hlen:a.length=pre.length+(r.length+1):=by rw [h1];simp
   have hlen2:b.length=pre'.length+s.length:=by rw [h2];simp
   cases s with
   |nil=>simp at hlen2;omega
   |cons y s =>
    have hx:a[pre.length]?=some x:=by rw [h1];simp
    have hy:b[pre.length]?=some y:=by rw [h2,hp];simp
    rw [zI,hb _ x y hx hy]
    rw [show ((x ::r) == (y ::s))=((x == y)&&(r == s)) from rfl]
    cases x == y with
    |false=>rfl
    |true =>
     rw [zN (by omega)]
     have:=ih s (pre++[x]) (pre'++[y]) (by simp [hp]) (by rw [h1];simp) (by rw [h2];simp)
     rw [show (pre++[x]).length=pre.length+1 by simp] at this
     exact this
 exact key a b [] [] rfl rfl rfl
theorem zEB{α:Type}{l:List α}{i:Nat}{x:α}(h:l[i]?=some x):decide ((i:Int)<(l.length:Int))=true:=
 decide_eq_true (by have:=(List.getElem?_eq_some_iff.1 h).1;omega)
theorem zET{α:Type}{l:List α}:decide ((l.length:Int)<(l.length:Int))=false:=decide_eq_false (by omega)
theorem zCI{a b:List (List UInt8)}(h:a.length≠b.length):(a == b)=false:=by
 refine beq_eq_false_iff_ne.2 fun e=>h (by rw [e])
theorem zrD{a b:List (List UInt8)}(h:a.length≤1000000):zc5 a b=some (a == b):=by
 unfold zc5
 by_cases hl:a.length=b.length
 ·have e:((a.length:Int) == (b.length:Int))=true:=by rw [hl];exact beq_self_eq_true _
  rw [e,show zl (fun z=>zcj a b z) 0=_ from zuV h hl (fun i x y hx hy=>by
   unfold zcj
   rw [zEB hx,zr,hx,zr,hy];rfl) (by unfold zcj;rw [zET];rfl)]
  cases a == b <;> rfl
 ·have e:((a.length:Int) == (b.length:Int))=false:=beq_eq_false_iff_ne.2 (by omega)
  rw [e,zCI hl];rfl
theorem zqd{a b:List (List UInt8)}(h:a.length≤1000000):zks a b=some (a == b):=by
 unfold zks
 by_cases hl:a.length=b.length
 ·have e:((a.length:Int) == (b.length:Int))=true:=by rw [hl];exact beq_self_eq_true _
  rw [e,show zl (fun z=>zhZ a b z) 0=_ from zuV h hl (fun i x y hx hy=>by
   unfold zhZ
   rw [zEB hx,zr,hx,zr,hy];rfl) (by unfold zhZ;rw [zET];rfl)]
  cases a == b <;> rfl
 ·have e:((a.length:Int) == (b.length:Int))=false:=beq_eq_false_iff_ne.2 (by omega)
  rw [e,zCI hl];rfl
abbrev Tx:=List UInt8
def cl(L:List za)(n:Tx):Option za:=L.find? (fun c=>c.Name == n)
def atN(L:List za)(n:Tx):Int:=ixF (fun c=>c.Name == n) 0 L
def zb0(L:List za)(n:Tx):Bool:=L.any (fun c=>c.Name == n)
def isF(L:List za)(n:Tx):Bool:=match cl L n with |some c=>c.Interface |none=>false
theorem zq3{α:Type}(p:α→Bool):∀(l:List α) (k:Nat),(∃j x,ixF p k l=((k+j:Nat):Int)∧l[j]?=some x∧p x=true∧l.find? p=some x)∨(ixF p k l=-1∧l.find? p=none)
 | [],k=>.inr ⟨rfl,rfl⟩
 |y ::r,k=>by
  unfold ixF
  cases h:p y with
  |true=>exact .inl ⟨0,y,rfl,rfl,h,by simp [List.find?,h]⟩
  |false =>
   rcases zq3 p r (k+1) with ⟨j,x,h1,h2,h3,h4⟩ |⟨h1,h2⟩
   ·exact .inl ⟨j+1,x,by show ixF p (k+1) r=_;rw [h1];congr 1;omega,by simpa using h2,h3,by simp [List.find?,h,h4]⟩
   ·exact .inr ⟨h1,by simp [List.find?,h,h2]⟩
theorem zsp{α:Type}(p:α→Bool):∀(l r:List α) (k:Nat),ixF p k (l++r)=cond (l.any p) (ixF p k l) (ixF p (k+l.length) r)
 | [],r,k=>rfl
 |y ::l,r,k=>by
  show ixF p k (y ::(l++r))=_
  rw [show ixF p k (y ::(l++r))=cond (p y) (k:Int) (ixF p (k+1) (l++r)) from rfl,show ixF p k (y ::l)=cond (p y) (k:Int) (ixF p (k+1) l) from rfl,List.any_cons]
  cases h:p y with
  |true=>rfl
  |false =>
   rw [Bool.false_or,cond_false,cond_false,zsp p l r (k+1),show k+1+l.length=k+(y ::l).length by simp;omega]
theorem zqF(L:List za)(n:Tx):decide (0≤atN L n)=zb0 L n:=zem _ 0 L
theorem znJ(L:List za)(n:Tx):decide (atN L n<0)=!zb0 L n:=by
 rw [←zqF]
 by_cases h:0≤atN L n
 ·rw [decide_eq_true h,decide_eq_false (by omega)];rfl
 ·rw [decide_eq_false h,decide_eq_true (by omega)];rfl
theorem zjL(L:List za)(n:Tx):idx L (atN L n)=cl L n:=by
 unfold atN cl
 rcases zq3 (fun c:za=>c.Name == n) L 0 with ⟨j,x,h1,h2,h3,h4⟩ |⟨h1,h2⟩
 ·rw [h1,h4,zr,Nat.zero_add,h2]
 ·rw [h1,h2];rfl
theorem zyS(L:List za)(n:Tx):(cl L n).isSome=zb0 L n:=by
 unfold cl zb0
 rw [Bool.eq_iff_iff,List.any_eq_true]
 exact List.find?_isSome
theorem zbs{L:List za}{n:Tx}{c:za}(h:cl L n=some c):c∈L∧c.Name=n:=by
 unfold cl at h
 exact ⟨List.mem_of_find?_eq_some h,eq_of_beq (List.find?_some (p:=fun c:za=>c.Name == n) h)⟩
theorem zeT{L:List za}{n:Tx}(h:zb0 L n=true):∃c,cl L n=some c:=by
 rw [←zyS] at h
 exact Option.isSome_iff_exists.1 h
theorem zgL{L:List za}{n:Tx}{c:za}(h:cl L n=some c):zb0 L n=true:=by rw [←zyS,h];rfl
theorem zls{L:List za}{n:Tx}(h:cl L n=none):zb0 L n=false:=by rw [←zyS,h];rfl
theorem zi4{L:List za}{n:Tx}:zb0 L n=true↔n∈L.map (·.Name):=by
 unfold zb0
 rw [List.any_eq_true,List.mem_map]
 constructor
 ·rintro ⟨c,h1,h2⟩;exact ⟨c,h1,eq_of_beq h2⟩
 ·rintro ⟨c,h1,h2⟩;exact ⟨c,h1,beq_iff_eq.2 h2⟩
def Nd(L:List za):Prop:=∀(i j:Nat) (c d:za),L[i]?=some c→L[j]?=some d→c.Name=d.Name→i=j
theorem Nd.at{L:List za}(h:Nd L){i:Nat}{c:za}(hi:L[i]?=some c):atN L c.Name=(i:Int):=by
 unfold atN
 rcases zq3 (fun d:za=>d.Name == c.Name) L 0 with ⟨j,x,h1,h2,h3,h4⟩ |⟨h1,h2⟩
 ·rw [h1,Nat.zero_add,h j i x c h2 hi (eq_of_beq h3)]
 ·have:=List.find?_eq_none.1 h2 c (List.mem_of_getElem? hi)
  simp at this
theorem Nd.cl{L:List za}(h:Nd L){c:za}(hc:c∈L):cl L c.Name=some c:=by
 obtain ⟨i,hi,e⟩:=List.getElem_of_mem hc
 have hi':L[i]?=some c:=by rw [List.getElem?_eq_getElem hi,e]
 rw [←zjL,h.at hi',zr,hi']
theorem Nd.snoc{L:List za}(h:Nd L){c:za}(hc:zb0 L c.Name=false):Nd (L++[c]):=by
 have no:∀(i:Nat) d,L[i]?=some d→d.Name≠c.Name:=fun i d hi e=>by
  have:zb0 L c.Name=true:=zi4.2 (List.mem_map.2 ⟨d,List.mem_of_getElem? hi,e⟩)
  rw [hc] at this;cases this
 have get:∀(i:Nat) d,(L++[c])[i]?=some d→(L[i]?=some d)∨(i=L.length∧d=c):=fun i d hi=>by
  rw [List.getElem?_append] at hi
  split at hi
  ·exact .inl hi
  ·rename_i hlt
   right
   have h1:=(List.getElem?_eq_some_iff.1 hi).1
   simp at h1
   have h2:i=L.length:=by omega
   subst h2
   simp at hi
   exact ⟨rfl,hi.symm⟩
 intro i j d e hi hj hn
 rcases get i d hi with h1 |⟨h1,h1'⟩ <;> rcases get j e hj with h2 |⟨h2,h2'⟩
 ·exact h i j d e h1 h2 hn
 ·subst h2';exact absurd hn (no i d h1)
 ·subst h1';exact absurd hn.symm (no j e h2)
 ·rw [h1,h2]
theorem zBr(L:List za)(c:za)(n:Tx):zb0 (L++[c]) n=(zb0 L n||(c.Name == n)):=by
 unfold zb0;simp
theorem zst{α:Type}(k k':Tx)(x:α):∀(m:List (Tx×α)),zeI k (zhj k' x m)=if k=k' then some x else zeI k m
 | []=>by
  unfold zhj zeI zeI
  by_cases h:k=k'
  ·rw [if_pos h,decide_eq_true h];rfl
  ·rw [if_neg h,decide_eq_false h];rfl
 |(a,y)::r=>by
  unfold zhj
  by_cases h':k'=a
  ·subst h'
   rw [decide_eq_true rfl]
   show zeI k ((k',x)::r)=_
   unfold zeI
   by_cases h:k=k'
   ·rw [if_pos h,decide_eq_true h];rfl
   ·rw [if_neg h,decide_eq_false h];rfl
  ·rw [decide_eq_false h']
   show zeI k ((a,y)::zhj k' x r)=_
   unfold zeI
   rw [zst k k' x r]
   by_cases h:k=k'
   ·subst h
    rw [if_pos rfl,decide_eq_false h',if_pos rfl];rfl
   ·rw [if_neg h,if_neg h]
def zbr(L:List za)(m:List (Tx×Int)):Prop:=∀n,zeI n m=cond (zb0 L n) (some (atN L n)) none
theorem zbr.snoc{L:List za}{m:List (Tx×Int)}(h:zbr L m){c:za}(hc:zb0 L c.Name=false):zbr (L++[c]) (zhj c.Name (L.length:Int) m):=by
 intro n
 rw [zst,zBr,h n]
 unfold atN
 rw [zsp]
 show _=cond _ (some (cond (zb0 L n) _ _)) none
 by_cases e:n=c.Name
 ·subst e
  rw [if_pos rfl,hc,beq_self_eq_true]
  simp [ixF]
 ·rw [if_neg e,beq_eq_false_iff_ne.2 (Ne.symm e)]
  cases zb0 L n <;> rfl
theorem zbr.has{L:List za}{m:List (Tx×Int)}(h:zbr L m)(n:Tx):(zeI n m).isSome=zb0 L n:=by
 rw [h n];cases zb0 L n <;> rfl
theorem zbr.idx{L:List za}{m:List (Tx×Int)}(h:zbr L m){n:Tx}(hn:zb0 L n=true):idx L ((zeI n m).getD 0)=cl L n:=by
 rw [h n,hn];exact zjL L n
inductive Rc(nx:Tx→List Tx):Tx→Tx→Prop
 |one {a b}:b∈nx a→Rc nx a b
 |more {a b c}:b∈nx a→Rc nx b c→Rc nx a c
theorem Rc.snoc{nx:Tx→List Tx}{a b c:Tx}(h:Rc nx a b)(hc:c∈nx b):Rc nx a c:=by
 induction h with
 |one h=>exact .more h (.one hc)
 |more h _ ih=>exact .more h (ih hc)
theorem Rc.into{nx:Tx→List Tx}{F:Tx→Prop}(hF:∀x,F x→∀y∈nx x,F y){a b:Tx}(h:Rc nx a b):(∀y∈nx a,F y)→F b:=by
 induction h with
 |one h=>exact fun ha=>ha _ h
 |more h _ ih=>exact fun ha=>ih (hF _ (ha _ h))
theorem zzV:∀{a b:List Tx},a.Nodup→(∀x∈a,x∈b)→a.length≤b.length
 | [],b,_,_=>by simp
 |x ::r,b,h,hs=>by
  rw [List.nodup_cons] at h
  have hx:=hs x (by simp)
  have h1:=zzV (a:=r) (b:=b.erase x) h.2 (fun y hy=>(List.mem_erase_of_ne (fun e=>h.1 (by rw [←e];exact hy))).2 (hs y (by simp [hy])))
  have h2:=List.length_erase_of_mem hx
  have h3:=List.length_pos_of_mem hx
  simp only [List.length_cons]
  omega
def push(zae:List Tx):List Tx→List Tx
 | []=>zae
 |s ::r=>push (cond (zae.any fun y=>s == y) zae (zae++[s])) r
theorem zyF{s:Tx}{l:List Tx}:(l.any fun y=>s == y)=true↔s∈l:=by
 rw [List.any_eq_true]
 constructor
 ·rintro ⟨y,h1,h2⟩;rw [eq_of_beq h2];exact h1
 ·intro h;exact ⟨s,h,beq_self_eq_true _⟩
theorem zjr:∀(l zae:List Tx),∃t,push zae l=zae++t∧t.Nodup∧(∀x∈t,x ∉ zae∧x∈l)∧∀x∈l,x∈zae++t
 | [],zae=>⟨[],by simp [push],by simp,fun x h=>(by cases h),fun x h=>(by cases h)⟩
 |s ::r,zae=>by
  unfold push
  cases h:(zae.any fun y=>s == y) with
  |true =>
   obtain ⟨t,h1,h2,h3,h4⟩:=zjr r zae
   refine ⟨t,h1,h2,fun x hx=>⟨(h3 x hx).1,List.mem_cons_of_mem _ (h3 x hx).2⟩,fun x hx=>?_⟩
   rcases List.mem_cons.1 hx with e |e
   ·rw [e];exact List.mem_append_left _ (zyF.1 h)
   ·exact h4 x e
  |false =>
   have hs:s ∉ zae:=fun hm=>by rw [zyF.2 hm] at h;cases h
   obtain ⟨t,h1,h2,h3,h4⟩:=zjr r (zae++[s])
   refine ⟨s ::t,by show push (zae++[s]) r=_;rw [h1];simp,List.nodup_cons.2 ⟨fun hm=>(h3 s hm).1 (by simp),h2⟩,fun x hx=>?_,fun x hx=>?_⟩
   ·rcases List.mem_cons.1 hx with e |e
    ·rw [e];exact ⟨hs,by simp⟩
    ·exact ⟨fun hm=>(h3 x e).1 (List.mem_append_left _ hm),List.mem_cons_of_mem _ (h3 x e).2⟩
   ·rcases List.mem_cons.1 hx with e |e
    ·rw [e];simp
    ·have:=h4 x e
     simpa using this
def bfs(nx:Tx→List Tx):Nat→Nat→List Tx→List Tx
 | 0,_,zae=>zae
 |d+1,i,zae=>match zae[i]? with |none=>zae |some x=>bfs nx d (i+1) (push zae (nx x))
def fin(nx:Tx→List Tx):Nat→Nat→List Tx→Bool
 | 0,i,zae=>decide (zae.length≤i)
 |d+1,i,zae=>match zae[i]? with |none=>true |some x=>fin nx d (i+1) (push zae (nx x))
def Inv(U s0 zae:List Tx):Prop:=∃T,zae=s0++T∧T.Nodup∧(∀x∈T,x∈U) 
theorem Inv.push{U s0 zae l:List Tx}(h:Inv U s0 zae)(hU:∀y∈l,y∈U):Inv U s0 (push zae l):=by
 obtain ⟨T,h1,h2,h3⟩:=h
 obtain ⟨t,k1,k2,k3,k4⟩:=zjr l zae
 refine ⟨T++t,by rw [k1,h1];simp,List.nodup_append.2 ⟨h2,k2,fun a ha b hb e=>(k3 b hb).1 (by rw [h1,←e];exact List.mem_append_right _ ha)⟩,fun x hx=>?_⟩
 rcases List.mem_append.1 hx with e |e
 ·exact h3 x e
 ·exact hU x (k3 x e).2
theorem Inv.len{U s0 zae:List Tx}(h:Inv U s0 zae):zae.length≤s0.length+U.length:=by
 obtain ⟨T,h1,h2,h3⟩:=h
 have:=zzV h2 h3
 rw [h1,List.length_append];omega
theorem Inv.mem{U s0 zae:List Tx}(h:Inv U s0 zae)(h0:∀x∈s0,x∈U):∀x∈zae,x∈U:=by
 obtain ⟨T,h1,h2,h3⟩:=h
 intro x hx
 rw [h1] at hx
 rcases List.mem_append.1 hx with e |e
 ·exact h0 x e
 ·exact h3 x e
theorem Inv.start{U s0:List Tx}:Inv U s0 s0:=⟨[],by simp,by simp,fun x h=>(by cases h)⟩
theorem zy8{nx:Tx→List Tx}{U s0:List Tx}(hU:∀x y,y∈nx x→y∈U):∀(d i:Nat) (zae:List Tx),Inv U s0 zae→s0.length+U.length≤d+i→fin nx d i zae=true
 | 0,i,zae,h,hd=>by
  have:=h.len
  exact decide_eq_true (by omega)
 |d+1,i,zae,h,hd=>by
  unfold fin
  cases zae[i]? with
  |none=>rfl
  |some x=>exact zy8 hU d (i+1) _ (h.push (hU x)) (by omega)
theorem zoH{nx:Tx→List Tx}:∀(d i:Nat) (zae:List Tx),∃t,bfs nx d i zae=zae++t
 | 0,i,zae=>⟨[],by simp [bfs]⟩
 |d+1,i,zae=>by
  unfold bfs
  cases zae[i]? with
  |none=>exact ⟨[],by simp⟩
  |some x =>
   obtain ⟨t,h⟩:=zoH (nx:=nx) d (i+1) (push zae (nx x))
   obtain ⟨u,k,_⟩:=zjr (nx x) zae
   exact ⟨u++t,by show bfs nx d (i+1) _=_;rw [h,k];simp⟩
theorem zyK{nx:Tx→List Tx}{U s0:List Tx}(hU:∀x y,y∈nx x→y∈U):∀(d i:Nat) (zae:List Tx),Inv U s0 zae→Inv U s0 (bfs nx d i zae)
 | 0,i,zae,h=>h
 |d+1,i,zae,h=>by
  unfold bfs
  cases zae[i]? with
  |none=>exact h
  |some x=>exact zyK hU d (i+1) _ (h.push (hU x))
theorem zqH{nx:Tx→List Tx}{Q:Tx→Prop}(hQ:∀x,Q x→∀y∈nx x,Q y):∀(d i:Nat) (zae:List Tx),(∀x∈zae,Q x)→∀x∈bfs nx d i zae,Q x
 | 0,i,zae,h=>h
 |d+1,i,zae,h=>by
  unfold bfs
  cases hi:zae[i]? with
  |none=>exact h
  |some x =>
   refine zqH hQ d (i+1) _ fun y hy=>?_
   obtain ⟨u,k1,_,k3,_⟩:=zjr (nx x) zae
   rw [k1] at hy
   rcases List.mem_append.1 hy with e |e
   ·exact h y e
   ·exact hQ x (h x (List.mem_of_getElem? hi)) y (k3 y e).2
theorem zpp{nx:Tx→List Tx}:∀(d i:Nat) (zae:List Tx),fin nx d i zae=true→(∀j x,j<i→zae[j]?=some x→∀y∈nx x,y∈zae)→∀x∈bfs nx d i zae,∀y∈nx x,y∈bfs nx d i zae
 | 0,i,zae,hf,h=>fun x hx y hy=>by
  have hl:zae.length≤i:=of_decide_eq_true hf
  obtain ⟨j,hj,e⟩:=List.getElem_of_mem (show x∈zae from hx)
  exact h j x (by omega) (by rw [List.getElem?_eq_getElem hj,e]) y hy
 |d+1,i,zae,hf,h=>by
  unfold fin at hf
  unfold bfs
  cases hi:zae[i]? with
  |none =>
   intro x hx y hy
   have hl:zae.length≤i:=List.getElem?_eq_none_iff.1 hi
   obtain ⟨j,hj,e⟩:=List.getElem_of_mem (show x∈zae from hx)
   exact h j x (by omega) (by rw [List.getElem?_eq_getElem hj,e]) y hy
  |some z =>
   rw [hi] at hf
   obtain ⟨u,k1,_,k3,k4⟩:=zjr (nx z) zae
   have hlt:i<zae.length:=(List.getElem?_eq_some_iff.1 hi).1
   refine zpp d (i+1) _ hf fun j x hj hx y hy=>?_
   rw [k1] at hx ⊢
   rw [List.getElem?_append_left (by omega)] at hx
   by_cases e:j=i
   ·subst e
    rw [hi] at hx
    cases hx
    exact k4 y hy
   ·exact List.mem_append_left _ (h j x (by omega) hx y hy)
theorem zEs{nx:Tx→List Tx}{d:Nat}{a b:Tx}(hf:fin nx d 0 (nx a)=true):b∈bfs nx d 0 (nx a)↔Rc nx a b:=by
 constructor
 ·exact zqH (Q:=fun x=>Rc nx a x) (fun x hx y hy=>hx.snoc hy) d 0 _ (fun x hx=>.one hx) b
 ·intro h
  refine h.into (F:=fun x=>x∈bfs nx d 0 (nx a)) (zpp d 0 _ hf (fun j x hj=>by omega)) fun y hy=>?_
  obtain ⟨t,e⟩:=zoH (nx:=nx) d 0 (nx a)
  rw [e];exact List.mem_append_left _ hy
theorem zu5{R:Type}{I:List Tx→Prop}{nx:Tx→List Tx}{stop:Tx→Option R}{body:List Tx×Int→Option (Sum (List Tx×Int) (Sum Unit R))}
  (hb:∀(i:Nat) zae x,I zae→zae[i]?=some x→body (zae,(i:Int))=match stop x with |some r=>some (.inr (.inr r)) |none=>some (.inl (push zae (nx x),((i+1:Nat):Int))))
  (he:∀(i:Nat) zae,I zae→zae.length≤i→body (zae,(i:Int))=some (.inr (.inl ())))
  (hp:∀zae x,I zae→x∈zae→I (push zae (nx x))):∀(d i:Nat) (zae:List Tx),I zae→fin nx d i zae=true →
  zl body (zae,(i:Int))=some (match ((bfs nx d i zae).drop i).findSome? stop with |some r=>(Sum.inr r:Sum Unit R) |none=>Sum.inl ())
 | 0,i,zae,hI,hf=>by
  have hl:zae.length≤i:=of_decide_eq_true hf
  rw [zI,he i zae hI hl]
  show _=some (match (zae.drop i).findSome? stop with |some r=>(Sum.inr r:Sum Unit R) |none=>Sum.inl ())
  rw [List.drop_eq_nil_of_le hl]
  rfl
 |d+1,i,zae,hI,hf=>by
  unfold fin at hf
  unfold bfs
  cases hi:zae[i]? with
  |none =>
   have hl:zae.length≤i:=List.getElem?_eq_none_iff.1 hi
   rw [zI,he i zae hI hl]
   show _=some (match (zae.drop i).findSome? stop with |some r=>(Sum.inr r:Sum Unit R) |none=>Sum.inl ())
   rw [List.drop_eq_nil_of_le hl]
   rfl
  |some x =>
   rw [hi] at hf
   obtain ⟨t,ht⟩:=zoH (nx:=nx) d (i+1) (push zae (nx x))
   obtain ⟨u,hu,_⟩:=zjr (nx x) zae
   have hx:(bfs nx d (i+1) (push zae (nx x)))[i]?=some x:=by
    rw [ht,hu,List.append_assoc,List.getElem?_append_left (List.getElem?_eq_some_iff.1 hi).1,hi]
   obtain ⟨hlt,hge⟩:=List.getElem?_eq_some_iff.1 hx
   rw [zI,hb i zae x hI hi]
   show _=some (match ((bfs nx d (i+1) (push zae (nx x))).drop i).findSome? stop with |some r=>(Sum.inr r:Sum Unit R) |none=>Sum.inl ())
   rw [List.drop_eq_getElem_cons hlt,List.findSome?_cons,hge]
   cases stop x with
   |some r=>rfl
   |none=>exact zu5 hb he hp d (i+1) _ (hp _ _ hI (List.mem_of_getElem? hi)) hf
def nxA(L:List za)(n:Tx):List Tx:=match cl L n with |none=>[] |some c=>(c.Super ::c.Impl).filter (fun s=>!(s == []))
def nxI(L:List za)(n:Tx):List Tx:=match cl L n with |none=>[] |some c=>c.Impl
structure zAS(L:List za):Prop where
 nd:Nd L
 noE:zb0 L []=false
 closed:∀c∈L,∀s∈c.Super ::c.Impl,s≠[]→zb0 L s=true
 implE:∀c∈L,[] ∉ c.Impl
structure Wf(L:List za):Prop extends zAS L where
 acyc:∀n,¬Rc (nxA L) n n
 superF:∀c∈L,isF L c.Super=false
 implF:∀c∈L,∀s∈c.Impl,isF L s=true
theorem zAS.nxA_in{L:List za}(h:zAS L)(x y:Tx)(hy:y∈nxA L x):y∈L.map (·.Name):=by
 unfold nxA at hy
 split at hy
 ·cases hy
 ·rename_i c hc
  rw [List.mem_filter] at hy
  exact zi4.1 (h.closed c (zbs hc).1 y hy.1 (by have:=hy.2;simpa using this))
theorem zAS.nxI_in{L:List za}(h:zAS L)(x y:Tx)(hy:y∈nxI L x):y∈L.map (·.Name):=by
 unfold nxI at hy
 split at hy
 ·cases hy
 ·rename_i c hc
  exact zi4.1 (h.closed c (zbs hc).1 y (List.mem_cons_of_mem _ hy) (fun e=>h.implE c (zbs hc).1 (by rw [←e];exact hy)))
def sup(L:List za):Nat→Tx→List Tx
 | 0,_=>[]
 |d+1,n=>match cl L n with |none=>[] |some c=>n ::sup L d c.Super
def zyp(L:List za):Nat→Tx→Bool
 | 0,n=>!zb0 L n
 |d+1,n=>match cl L n with |none=>true |some c=>zyp L d c.Super
theorem zxa{L:List za}(h:Wf L):∀(d:Nat) (n:Tx),zyp L d n=false→zb0 L n=true∧∃r,sup L (d+1) n=n ::r∧r.length=d∧(n ::r).Nodup∧(∀x∈r,x∈L.map (·.Name)∧Rc (nxA L) n x)
 | 0,n,hf=>by
  have hn:zb0 L n=true:=by simpa [zyp] using hf
  obtain ⟨c,hc⟩:=zeT hn
  exact ⟨hn,[],by simp [sup,hc],rfl,by simp,fun x h=>(by cases h)⟩
 |d+1,n,hf=>by
  unfold zyp at hf
  split at hf
  ·cases hf
  ·rename_i c hc
   obtain ⟨h0,r,h1,h2,h3,h4⟩:=zxa h d c.Super hf
   have hs:c.Super∈nxA L n:=by
    unfold nxA
    rw [hc]
    refine List.mem_filter.2 ⟨by simp,?_⟩
    have:c.Super≠[]:=fun e=>by rw [e,h.noE] at h0;cases h0
    simpa using this
   have h5:∀x∈c.Super ::r,x∈L.map (·.Name)∧Rc (nxA L) n x:=fun x hx=>by
    rcases List.mem_cons.1 hx with e |e
    ·rw [e];exact ⟨zi4.1 h0,.one hs⟩
    ·exact ⟨(h4 x e).1,.more hs (h4 x e).2⟩
   refine ⟨zgL hc,c.Super ::r,?_,by simp [h2],List.nodup_cons.2 ⟨fun hm=>h.acyc n (h5 n hm).2,h3⟩,h5⟩
   show (match cl L n with |none=>[] |some c=>n ::sup L (d+1) c.Super)=_
   rw [hc]
   show n ::sup L (d+1) c.Super=_
   rw [h1]
theorem zw9{L:List za}(h:Wf L)(n:Tx):zyp L L.length n=true:=by
 cases hf:zyp L L.length n with
 |true=>rfl
 |false =>
  obtain ⟨h0,r,h1,h2,h3,h4⟩:=zxa h _ n hf
  have:=zzV h3 (b:=L.map (·.Name)) (fun x hx=>by
   rcases List.mem_cons.1 hx with e |e
   ·rw [e];exact zi4.1 h0
   ·exact (h4 x e).1)
  simp at this
  omega
def zyq:Tx:=[79,98,106,101,99,116]
def zCg:Tx:=[84,104,114,111,119,110]
def gC(n s:Tx):za:=za.mk n s false [] [] []
def giv:List za:=[gC zyq [],gC zCg zyq,gC [78,117,108,108,69,114,114] zCg,gC [82,97,110,103,101,69,114,114] zCg,gC [77,97,116,104,69,114,114] zCg,gC [67,97,115,116,69,114,114] zCg,
 gC [83,105,122,101,69,114,114] zCg,gC [83,116,111,114,101,69,114,114] zCg,gC [73,110,105,116,69,114,114] zCg,gC [67,108,97,115,115,69,114,114] zCg]
theorem zsX:zpw=some giv:=by kernel_rfl
theorem ztA:zpI=some giv:=by kernel_rfl
def zuu(k:Nat)(m:List (Tx×Int)):List za→List (Tx×Int)
 | []=>m
 |c ::r=>zuu (k+1) (zhj c.Name (k:Int) m) r
def fresh(pre:List za):List za→Bool
 | []=>true
 |c ::r=>!zb0 pre c.Name&&fresh (pre++[c]) r
theorem zwM:∀(r pre:List za) (m:List (Tx×Int)),zbr pre m→fresh pre r=true→zbr (pre++r) (zuu pre.length m r)
 | [],pre,m,h,_=>by simpa [zuu] using h
 |c ::r,pre,m,h,hf=>by
  simp only [fresh,Bool.and_eq_true,Bool.not_eq_true'] at hf
  have:=zwM r (pre++[c]) _ (h.snoc hf.1) hf.2
  simpa [zuu] using this
theorem zwx:∀(r pre:List za),Nd pre→fresh pre r=true→Nd (pre++r)
 | [],pre,h,_=>by simpa using h
 |c ::r,pre,h,hf=>by
  simp only [fresh,Bool.and_eq_true,Bool.not_eq_true'] at hf
  have:=zwx r (pre++[c]) (h.snoc hf.1) hf.2
  simpa using this
theorem zDy:zl (fun z=>zq2 giv z.1 z.2) ([],0)=some (.inl (zuu 0 [] giv)):=by kernel_rfl
theorem zzi:zbr giv (zuu 0 [] giv):=zwM giv [] [] (fun n=>rfl) (by decide +kernel)
theorem zso:Nd giv:=zwx giv [] (fun i j c d h=>by simp at h) (by decide +kernel)
def lay:List za→List za→Option (List za)
 |L,[]=>some L
 |L,c ::r=>cond (zb0 L c.Name||!zrO c) none (lay (L++[c]) r)
theorem zsr:∀(r L L':List za),Nd L→lay L r=some L'→L'=L++r∧Nd L'∧∀c∈r,zrO c=true
 | [],L,L',h,e=>by
  unfold lay at e
  cases e
  exact ⟨by simp,h,fun c hc=>by cases hc⟩
 |c ::r,L,L',h,e=>by
  unfold lay at e
  cases h1:zb0 L c.Name with
  |true=>rw [h1] at e;cases e
  |false =>
   cases h2:zrO c with
   |false=>rw [h1,h2] at e;cases e
   |true =>
    rw [h1,h2] at e
    obtain ⟨k1,k2,k3⟩:=zsr r (L++[c]) L' (h.snoc h1) e
    refine ⟨by rw [k1];simp,k2,fun d hd=>?_⟩
    rcases List.mem_cons.1 hd with e |e
    ·rw [e];exact h2
    ·exact k3 d e
theorem zFP{w:Nat}{L:List za}{c:za}(h:L.length≤1000)(hw:w≤1000):zh9 w L [c]=some (L++[c]):=by
 refine zc3 ?_ (by simp;omega)
 have:(L.length+[c].length)*w≤1001*1000:=Nat.mul_le_mul (by simp;omega) hw
 omega
theorem zwF{l:List za}(hl:l.length≤16)(hc:∀c∈l,zAO c):∀(r pre L:List za) (m:List (Tx×Int)),l=pre++r→zbr L m→L.length=10+pre.length →
  (lay L r=none→zl (fun z=>zeH l z.1 z.2.1 z.2.2) (L,m,(pre.length:Int))=some (.inr (none,1))) ∧
  (∀L',lay L r=some L'→∃m',zbr L' m'∧zl (fun z=>zeH l z.1 z.2.1 z.2.2) (L,m,(pre.length:Int))=some (.inl (L',m')))
 | [],pre,L,m,e,hm,hL=>by
  rw [List.append_nil] at e
  subst e
  unfold lay
  refine ⟨fun h=>(by cases h),fun L' h=>?_⟩
  cases h
  refine ⟨m,hm,?_⟩
  rw [zI]
  show (zeH l L m (l.length:Int)).bind _=_
  unfold zeH
  rw [zeD];rfl
 |c ::r,pre,L,m,e,hm,hL=>by
  have hlen:l.length=pre.length+(r.length+1):=by rw [e];simp
  have hx:l[pre.length]?=some c:=by rw [e];simp
  have hcm:c∈l:=List.mem_of_getElem? hx
  have step:zl (fun z=>zeH l z.1 z.2.1 z.2.2) (L,m,(pre.length:Int))=(cond (zb0 L c.Name||!zrO c) (some (.inr (.inr (none,1)))) (some (.inl (L++[c],zhj c.Name (L.length:Int) m,((pre.length+1:Nat):Int))))).bind (Sum.elim (zl (fun z=>zeH l z.1 z.2.1 z.2.2)) some):=by
   rw [zI]
   show (zeH l L m (pre.length:Int)).bind _=_
   congr 1
   unfold zeH
   rw [zd9 hx,zr,hx]
   simp only [cond_true,Option.bind_some]
   rw [hm.has,zsN (hc c hcm),zFP (by omega) (by omega),zN (by omega)]
   cases zb0 L c.Name <;> cases zrO c <;> rfl
  rw [step]
  unfold lay
  cases h1:(zb0 L c.Name||!zrO c) with
  |true=>exact ⟨fun _=>rfl,fun L' h=>by cases h⟩
  |false =>
   rw [Bool.or_eq_false_iff] at h1
   have:=zwF hl hc r (pre++[c]) (L++[c]) _ (by rw [e];simp) (hm.snoc h1.1) (by simp;omega)
   rw [show (pre++[c]).length=pre.length+1 by simp] at this
   exact this
structure Okc(c:za):Prop where
 name:c.Name≠[]
 impl:c.Impl.length≤4
 implE:∀s∈c.Impl,s≠[]
theorem zkN{s:Tx}(h:zbU s=true):s≠[]:=by
 intro e
 subst e
 unfold zbU at h
 simp at h
theorem zsE{α:Type}{ok:α→Bool}{nm:α→List UInt8}:∀{l pre:List α},uB ok nm pre l=false→∀x∈l,ok x=true
 | [],_,_,x,hx=>by cases hx
 |y ::r,pre,h,x,hx=>by
  unfold uB at h
  simp only [Bool.or_eq_false_iff,Bool.not_eq_false'] at h
  rcases List.mem_cons.1 hx with e |e
  ·rw [e];exact h.1.1
  ·exact zsE h.2 x e
theorem zDQ{c:za}(h:zrO c=true):Okc c:=by
 unfold zrO at h
 simp only [Bool.and_eq_true,Bool.not_eq_true',decide_eq_true_eq] at h
 obtain ⟨_,⟨⟨⟨⟨h1,h2⟩,h3,h4⟩,h5⟩,h6⟩⟩:=h
 exact ⟨zkN h1,by omega,fun s hs=>zkN (zsE h3 s hs)⟩
theorem zDA:∀c∈giv,Okc c:=by
 intro c hc
 have h:giv.all (fun c=>!(c.Name == [])&&(c.Impl == []))=true:=by decide +kernel
 have:=List.all_eq_true.1 h c hc
 simp only [Bool.and_eq_true,Bool.not_eq_true',beq_eq_false_iff_ne,beq_iff_eq] at this
 exact ⟨this.1,by rw [this.2];simp,fun s hs=>by rw [this.2] at hs;cases hs⟩
theorem zs5{l L:List za}(h:lay giv l=some L):∀c∈L,Okc c:=by
 obtain ⟨h1,h2,h3⟩:=zsr l giv L zso h
 intro c hc
 rw [h1] at hc
 rcases List.mem_append.1 hc with e |e
 ·exact zDA c e
 ·exact zDQ (h3 c e)
theorem zv4{c:za}(h:c.Impl.length≤4):zh9 16 [c.Super] c.Impl=some (c.Super ::c.Impl):=zc3 (by simp;omega) (by simp;omega)
theorem zlt{c:za}(h:c.Impl.length≤4):zjz c=some (c.Super ::c.Impl):=by
 unfold zjz;rw [zv4 h];rfl
theorem zyV{l:List Tx}{L:List za}{m:List (Tx×Int)}(hm:zbr L m)(hl:l.length≤1000):zay l L m=some (l.any fun s=>!zb0 L s):=by
 unfold zay zcL
 rw [show ((zl (fun z=>zbf l L m z) 0).bind fun o=>zD o (fun b=>zew) some)=_ from zaD (l:=l) (p:=fun s=>!zb0 L s) (by omega)
  (fun i x hx=>by unfold zbf znr zbm;rw [zd9 hx,zr,hx];simp only [cond_true,Option.bind_some];rw [hm.has]) (by unfold zbf;rw [zeD];rfl)]
 exact congrArg some (zem _ 0 l)
theorem zsn{L:List za}{m:List (Tx×Int)}(hm:zbr L m){n:Tx}(hn:zb0 L n=true):zdC L m n=cl L n:=by
 unfold zdC
 rw [hm.idx hn]
 cases cl L n <;> rfl
theorem zyW{l:List Tx}{L:List za}{m:List (Tx×Int)}(hm:zbr L m)(hl:l.length≤1000)(hh:∀s∈l,zb0 L s=true):zaz l L m=some (l.any fun s=>!isF L s):=by
 unfold zaz zcM
 rw [show ((zl (fun z=>zbg l L m z) 0).bind fun o=>zD o (fun b=>zex) some)=_ from zaD (l:=l) (p:=fun s=>!isF L s) (by omega)
  (fun i x hx=>by
   obtain ⟨c,hc⟩:=zeT (hh x (List.mem_of_getElem? hx))
   unfold zbg zi6 isF
   rw [zd9 hx,zr,hx];simp only [cond_true,Option.bind_some];rw [zsn hm (zgL hc),hc];rfl) (by unfold zbg;rw [zeD];rfl)]
 exact congrArg some (zem _ 0 l)
def cyc(L:List za)(n:Tx):Bool:=@decide (Rc (nxA L) n n) (Classical.propDecidable _)
theorem zsT{L:List za}{n:Tx}:cyc L n=true↔Rc (nxA L) n n:=by unfold cyc;exact @decide_eq_true_iff _ (Classical.propDecidable _)
def zt6(L:List za)(c:za):Bool:=isF L c.Super||(c.Impl.any (fun s=>!isF L s)||cyc L c.Name)
theorem zrn{R:Type}{body:List Tx×Int→Option (Sum (List Tx×Int) (Sum (List Tx) R))}{l:List Tx}{p:Tx→Bool}(hl:l.length≤100)
  (hb:∀(i:Nat) x zae,zae.length≤1000→l[i]?=some x→body (zae,(i:Int))=some (.inl (cond (p x&&!(zae.any fun y=>x == y)) (zae++[x]) zae,IntKind.i64.wrap ((i:Int)+1))))
  (he:∀zae,body (zae,(l.length:Int))=some (.inr (.inl zae))):∀(r pre zae:List Tx),l=pre++r→zae.length+r.length≤1000→zl body (zae,(pre.length:Int))=some (.inl (push zae (r.filter p)))
 | [],pre,zae,e,hs=>by
  rw [List.append_nil] at e
  subst e
  rw [zI,he];rfl
 |x ::r,pre,zae,e,hs=>by
  have hlen:l.length=pre.length+(r.length+1):=by rw [e];simp
  have hx:l[pre.length]?=some x:=by rw [e];simp
  simp only [List.length_cons] at hs
  rw [zI,hb _ x zae (by omega) hx,zN (by omega)]
  have ih:=fun s h=>zrn hl hb he r (pre++[x]) s (by rw [e];simp) h
  rw [show (pre++[x]).length=pre.length+1 by simp] at ih
  cases h1:p x with
  |false =>
   rw [List.filter_cons_of_neg (by rw [h1];exact Bool.false_ne_true)]
   exact ih zae (by omega)
  |true =>
   rw [List.filter_cons_of_pos h1]
   unfold push
   cases h2:(zae.any fun y=>x == y) with
   |true=>exact ih zae (by omega)
   |false=>exact ih (zae++[x]) (by simp;omega)
theorem zql{l:List Tx}(hl:l.length≤1000)(n:Tx):zP l n=some (l.any fun y=>n == y):=zzn (by unfold zkB;omega) n
theorem zza{l zae:List Tx}(hl:l.length≤100)(hs:zae.length+l.length≤1000):zl (fun z=>zeB l z.1 z.2) (zae,0)=some (.inl (push zae (l.filter (fun s=>!(s == []))))):=by
 refine zrn (l:=l) (p:=fun s=>!(s == [])) hl (fun i x s h hx=>?_) (fun s=>?_) l [] zae rfl hs
 ·show zeB l s (i:Int)=_
  unfold zeB zgZ
  rw [zd9 hx,zr,hx]
  simp only [cond_true,Option.bind_some]
  rw [zql h,zc3 (w:=16) (l:=s) (x:=[x]) (by simp;omega) (by simp;omega)]
  cases (x == []) <;> cases (s.any fun y=>x == y) <;> rfl
 ·show zeB l s (l.length:Int)=_
  unfold zeB
  rw [zeD];rfl
theorem zrg{L:List za}{n:Tx}{c:za}(h:cl L n=some c):nxA L n=(c.Super ::c.Impl).filter (fun s=>!(s == [])):=by unfold nxA;rw [h]
theorem zCK{L:List za}(hL:∀c∈L,Okc c)(n:Tx):(nxA L n).length≤5:=by
 unfold nxA
 split
 ·simp
 ·rename_i c hc
  have:=(hL c (zbs hc).1).impl
  exact Nat.le_trans (List.length_filter_le _ _) (by simp;omega)
theorem zBR(l zae:List Tx):(push zae l).length≤zae.length+l.length:=by
 induction l generalizing zae with
 |nil=>simp [push]
 |cons x r ih =>
  unfold push
  cases (zae.any fun y=>x == y) with
  |true=>have:=ih zae;simp only [cond_true,List.length_cons];omega
  |false=>have:=ih (zae++[x]);simp only [cond_false,List.length_cons];simp at this;omega
theorem zDv{L:List za}{m:List (Tx×Int)}(hm:zbr L m)(h:zAS L)(hO:∀c∈L,Okc c)(hlen:L.length≤100){c:za}(hc:c∈L)(hs:c.Super≠[]):zgr L m c=some (!zt6 L c):=by
 have hcs:=h.closed c hc
 have hsup:zb0 L c.Super=true:=hcs c.Super (by simp) hs
 obtain ⟨x,hx⟩:=zeT hsup
 have himp:∀s∈c.Impl,zb0 L s=true:=fun s hm=>hcs s (by simp [hm]) ((hO c hc).implE s hm)
 have hi4:=(hO c hc).impl
 have e0:(c.Super ::c.Impl)=nxA L c.Name:=by
  rw [zrg (h.nd.cl hc),List.filter_eq_self.2]
  intro s hsm
  rcases List.mem_cons.1 hsm with e |e
  ·rw [e];simpa using hs
  ·simpa using (hO c hc).implE s e
 unfold zgr
 rw [zsn hm hsup,hx,zyW hm (by omega) himp,zlt hi4]
 simp only [Option.bind_some]
 have eF:isF L c.Super=x.Interface:=by unfold isF;rw [hx]
 unfold zt6
 rw [eF]
 cases x.Interface with
 |true=>rfl
 |false =>
  cases c.Impl.any (fun s=>!isF L s) with
  |true=>rfl
  |false =>
   have hfin:fin (nxA L) (5+L.length) 0 (nxA L c.Name)=true:=zy8 (U:=L.map (·.Name)) (s0:=nxA L c.Name) h.nxA_in _ _ _ .start (by have:=zCK hO c.Name;simp;omega)
   have hw:=zu5 (R:=Bool) (I:=fun s=>Inv (List.map (fun c:za=>c.Name) L) (nxA L c.Name) s) (nx:=nxA L) (stop:=fun y=>cond (y == c.Name) (some false) none) (body:=fun z=>zda L m c z.1 z.2)
    (fun i zae y hI hy=>by
     have hsl:=hI.len
     have h5:=zCK hO c.Name
     have hym:zb0 L y=true:=zi4.2 (hI.mem (fun z hz=>h.nxA_in _ z hz) y (List.mem_of_getElem? hy))
     obtain ⟨d,hd⟩:=zeT hym
     have hd4:=(hO d (zbs hd).1).impl
     have hpl:=zBR (nxA L y) zae
     simp only [List.length_map] at hsl
     show zda L m c zae (i:Int)=_
     unfold zda zkR
     rw [zd9 hy,zr,hy]
     simp only [cond_true,Option.bind_some]
     have hilt:=(List.getElem?_eq_some_iff.1 hy).1
     rw [zsn hm hym,hd]
     simp only [Option.bind_some]
     rw [zlt hd4]
     simp only [Option.bind_some]
     rw [zza (by simp;omega) (by simp;omega),←zrg hd,zN (by omega)]
     cases y == c.Name <;> rfl)
    (fun i zae hI hle=>by
     show zda L m c zae (i:Int)=_
     unfold zda
     rw [decide_eq_false (by omega)];rfl)
    (fun zae y hI hy=>hI.push (h.nxA_in y)) (5+L.length) 0 (nxA L c.Name) .start hfin
   rw [e0]
   rw [show zl (fun z=>zda L m c z.1 z.2) (nxA L c.Name,0)=_ from hw,List.drop_zero,zY]
   have:(bfs (nxA L) (5+L.length) 0 (nxA L c.Name)).any (fun y=>y == c.Name)=cyc L c.Name:=by
    rw [Bool.eq_iff_iff,zsT,←zEs hfin,List.any_eq_true]
    constructor
    ·rintro ⟨y,h1,h2⟩;obtain rfl:=eq_of_beq h2;exact h1
    ·intro h1;exact ⟨_,h1,beq_self_eq_true _⟩
   rw [this]
   cases cyc L c.Name <;> rfl
def onB(inn:List Bool)(n:Nat):Bool:=inn.getD n false
def zrf(L:List za)(inn:List Bool)(s:Tx):Bool:=zb0 L s&&!onB inn (atN L s).toNat
def mk1(L:List za)(inn:List Bool)(s:Tx):List Bool:=cond (zrf L inn s) (inn.set (atN L s).toNat true) inn
def mkS(L:List za):List Bool→List Tx→List Bool
 |inn,[]=>inn
 |inn,s ::r=>mkS L (mk1 L inn s) r
theorem zvh{L:List za}{s:Tx}(h:zb0 L s=true):0≤atN L s∧(atN L s).toNat<L.length:=by
 unfold zb0 at h
 unfold atN
 rcases zq3 (fun c:za=>c.Name == s) L 0 with ⟨j,x,h1,h2,h3,h4⟩ |⟨h1,h2⟩
 ·have:=(List.getElem?_eq_some_iff.1 h2).1
  rw [h1]
  omega
 ·rw [List.any_eq_true] at h
  obtain ⟨c,k1,k2⟩:=h
  have:=List.find?_eq_none.1 h2 c k1
  exact absurd k2 this
theorem ztj(L:List za)(inn:List Bool)(s:Tx):(mk1 L inn s).length=inn.length:=by
 unfold mk1
 cases zrf L inn s <;> simp
theorem zom(L:List za):∀(l:List Tx) (inn:List Bool),(mkS L inn l).length=inn.length
 | [],inn=>rfl
 |s ::r,inn=>by unfold mkS;rw [zom L r,ztj]
theorem zCL{inn:List Bool}{n k:Nat}(h:n<inn.length):onB (inn.set n true) k=(onB inn k||Nat.beq k n):=by
 unfold onB
 rw [List.getD_eq_getElem?_getD,List.getD_eq_getElem?_getD,List.getElem?_set]
 by_cases e:n=k
 ·subst e
  simp [h]
 ·rw [if_neg e]
  have:Nat.beq k n=false:=by
   cases hb:Nat.beq k n with
   |false=>rfl
   |true=>exact absurd (Nat.eq_of_beq_eq_true hb).symm e
  rw [this,Bool.or_false]
theorem zEJ{L:List za}{inn:List Bool}(hl:inn.length=L.length)(s:Tx)(k:Nat):onB (mk1 L inn s) k=(onB inn k||(zb0 L s&&Nat.beq k (atN L s).toNat)):=by
 unfold mk1 zrf
 cases h:zb0 L s with
 |false=>simp
 |true =>
  cases h2:onB inn (atN L s).toNat with
  |false =>
   simp only [Bool.not_false,Bool.and_self,cond_true,Bool.true_and]
   exact zCL (by rw [hl];exact (zvh h).2)
  |true =>
   simp only [Bool.not_true,Bool.and_false,cond_false,Bool.true_and]
   cases h3:Nat.beq k (atN L s).toNat with
   |false=>simp
   |true=>rw [Nat.eq_of_beq_eq_true h3,h2];rfl
theorem zwL{L:List za}:∀(l:List Tx) (inn:List Bool),inn.length=L.length→∀k,onB (mkS L inn l) k=(onB inn k||l.any (fun s=>zb0 L s&&Nat.beq k (atN L s).toNat))
 | [],inn,hl,k=>by simp [mkS]
 |s ::r,inn,hl,k=>by
  unfold mkS
  rw [zwL r _ (by rw [ztj];exact hl),zEJ hl,List.any_cons,Bool.or_assoc]
theorem zut{L:List za}:∀(l:List Tx) (inn:List Bool),l.any (zrf L inn)=false→mkS L inn l=inn
 | [],inn,_=>rfl
 |s ::r,inn,h=>by
  rw [List.any_cons,Bool.or_eq_false_iff] at h
  unfold mkS
  have:mk1 L inn s=inn:=by unfold mk1;rw [h.1];rfl
  rw [this,zut r inn h.2]
theorem zpz{R:Type}{L:List za}{l:List Tx}{body:List Bool×Bool×Int→Option (Sum (List Bool×Bool×Int) (Sum (List Bool×Bool) R))}(hl:l.length≤1000)
  (hb:∀(j:Nat) s inn more,inn.length=L.length→l[j]?=some s→body (inn,more,(j:Int))=some (.inl (mk1 L inn s,more||zrf L inn s,IntKind.i64.wrap ((j:Int)+1))))
  (he:∀inn more,body (inn,more,(l.length:Int))=some (.inr (.inl (inn,more)))):
  ∀(r pre:List Tx) (inn:List Bool) (more:Bool),l=pre++r→inn.length=L.length→zl body (inn,more,(pre.length:Int))=some (.inl (mkS L inn r,more||r.any (zrf L inn)))
 | [],pre,inn,more,e,hi=>by
  rw [List.append_nil] at e
  subst e
  rw [zI,he]
  show some _=some _
  simp [mkS]
 |s ::r,pre,inn,more,e,hi=>by
  have hlen:l.length=pre.length+(r.length+1):=by rw [e];simp
  have hx:l[pre.length]?=some s:=by rw [e];simp
  rw [zI,hb _ s inn more hi hx,zN (by omega)]
  have ih:=fun i m h=>zpz hl hb he r (pre++[s]) i m (by rw [e];simp) h
  rw [show (pre++[s]).length=pre.length+1 by simp] at ih
  show zl body (mk1 L inn s,more||zrf L inn s,((pre.length+1:Nat):Int))=_
  rw [ih _ _ (by rw [ztj];exact hi),List.any_cons,show mkS L inn (s ::r)=mkS L (mk1 L inn s) r from rfl]
  cases h:zrf L inn s with
  |true=>simp
  |false =>
   have:mk1 L inn s=inn:=by unfold mk1;rw [h];rfl
   rw [this];simp
def zjq(L:List za)(nx:za→List Tx)(act:Nat→Bool):List Bool→Nat→List za→List Bool
 |inn,_,[]=>inn
 |inn,k,c ::r=>zjq L nx act (cond (onB inn k||act k) (mkS L inn (nx c)) inn) (k+1) r
def znF(L:List za)(nx:za→List Tx)(act:Nat→Bool):List Bool→Nat→List za→Bool
 |_,_,[]=>false
 |inn,k,c ::r=>cond (onB inn k||act k) ((nx c).any (zrf L inn)) false||znF L nx act (cond (onB inn k||act k) (mkS L inn (nx c)) inn) (k+1) r
section
variable {L : List za} {nx : za → List Tx} {act : Nat → Bool}
theorem ztq:∀(r:List za) (k:Nat) (inn:List Bool),(zjq L nx act inn k r).length=inn.length
 | [],k,inn=>rfl
 |c ::r,k,inn=>by
  unfold zjq
  rw [ztq r]
  cases onB inn k||act k
  ·rfl
  ·exact zom L _ _
theorem zAl{inn:List Bool}(hl:inn.length=L.length)(b:Bool)(l:List Tx)(n:Nat)(h:onB inn n=true):onB (cond b (mkS L inn l) inn) n=true:=by
 cases b with
 |false=>exact h
 |true=>show onB (mkS L inn l) n=true;rw [zwL l inn hl,h];rfl
theorem zrk:∀(r:List za) (k:Nat) (inn:List Bool),inn.length=L.length→∀n,onB inn n=true→onB (zjq L nx act inn k r) n=true
 | [],k,inn,hl,n,h=>h
 |c ::r,k,inn,hl,n,h=>by
  unfold zjq
  refine zrk r (k+1) _ ?_ n (zAl hl _ _ n h)
  cases onB inn k||act k
  ·exact hl
  ·exact (zom L _ _).trans hl
theorem znu:∀(r:List za) (k:Nat) (inn:List Bool),znF L nx act inn k r=false→zjq L nx act inn k r=inn∧∀(j:Nat) c,r[j]?=some c→(onB inn (k+j)||act (k+j))=true→(nx c).any (zrf L inn)=false
 | [],k,inn,_=>⟨rfl,fun j c h=>by simp at h⟩
 |c ::r,k,inn,h=>by
  unfold znF at h
  unfold zjq
  rw [Bool.or_eq_false_iff] at h
  have e:cond (onB inn k||act k) (mkS L inn (nx c)) inn=inn:=by
   cases hb:onB inn k||act k with
   |false=>rfl
   |true=>rw [hb] at h;exact zut _ _ h.1
  rw [e] at h ⊢
  obtain ⟨h1,h2⟩:=znu r (k+1) inn h.2
  refine ⟨h1,fun j d hj hb=>?_⟩
  cases j with
  |zero =>
   have:c=d:=by simpa using hj
   subst this
   rw [Nat.add_zero] at hb
   rw [hb] at h
   exact h.1
  |succ j=>exact h2 j d (by simpa using hj) (by rw [show k+1+j=k+(j+1) by omega];exact hb)
theorem zwX:∀(r:List za) (k:Nat) (inn:List Bool),inn.length=L.length→∀(j:Nat) c,r[j]?=some c→(onB inn (k+j)||act (k+j))=true→∀s∈nx c,zb0 L s=true→onB (zjq L nx act inn k r) (atN L s).toNat=true
 | [],k,inn,hl,j,c,h,_=>by simp at h
 |d ::r,k,inn,hl,j,c,hj,hb=>by
  intro s hs hh
  unfold zjq
  have hl2:(cond (onB inn k||act k) (mkS L inn (nx d)) inn).length=L.length:=by
   cases onB inn k||act k
   ·exact hl
   ·exact (zom L _ _).trans hl
  cases j with
  |zero =>
   have:d=c:=by simpa using hj
   subst this
   rw [Nat.add_zero] at hb
   refine zrk r (k+1) _ hl2 _ ?_
   rw [hb]
   show onB (mkS L inn (nx d)) _=true
   rw [zwL _ _ hl,Bool.or_eq_true]
   right
   rw [List.any_eq_true]
   exact ⟨s,hs,by rw [hh,Bool.true_and];exact Nat.beq_refl _⟩
  |succ j =>
   refine zwX r (k+1) _ hl2 j c (by simpa using hj) ?_ s hs hh
   rw [show k+1+j=k+(j+1) by omega]
   rw [Bool.or_eq_true] at hb ⊢
   rcases hb with hb |hb
   ·exact .inl (zAl hl _ _ _ hb)
   ·exact .inr hb
theorem zpD{Q:Nat→Prop}:∀(r:List za) (k:Nat) (inn:List Bool),inn.length=L.length→(∀(j:Nat) c,r[j]?=some c→(Q (k+j)∨act (k+j)=true)→∀s∈nx c,zb0 L s=true→Q (atN L s).toNat) →
  (∀n,onB inn n=true→Q n)→∀n,onB (zjq L nx act inn k r) n=true→Q n
 | [],k,inn,hl,hQ,h=>h
 |c ::r,k,inn,hl,hQ,h=>by
  unfold zjq
  refine zpD r (k+1) _ ?_ (fun j d hj hor=>?_) (fun n hn=>?_)
  ·cases onB inn k||act k
   ·exact hl
   ·exact (zom L _ _).trans hl
  ·rw [show k+1+j=k+(j+1) by omega] at hor
   exact hQ (j+1) d (by simpa using hj) hor
  ·cases hb:onB inn k||act k with
   |false=>rw [hb] at hn;exact h n hn
   |true =>
    rw [hb] at hn
    have hn:onB (mkS L inn (nx c)) n=true:=hn
    rw [zwL _ _ hl,Bool.or_eq_true] at hn
    rcases hn with hn |hn
    ·exact h n hn
    ·rw [List.any_eq_true] at hn
     obtain ⟨s,hs,hs2⟩:=hn
     rw [Bool.and_eq_true] at hs2
     rw [Nat.eq_of_beq_eq_true hs2.2]
     refine hQ 0 c rfl ?_ s hs hs2.1
     rw [Nat.add_zero]
     rw [Bool.or_eq_true] at hb
     exact hb.imp (h k) id
def cnt(inn:List Bool):Nat:=inn.count true
theorem zyU:∀(inn:List Bool) (n:Nat),n<inn.length→onB inn n=false→cnt (inn.set n true)=cnt inn+1
 | [],n,h,_=>by simp at h
 |b ::r,0,h,hb=>by
  have:b=false:=by simpa [onB] using hb
  subst this
  simp [cnt]
 |b ::r,n+1,h,hb=>by
  have:=zyU r n (by simpa using h) (by simpa [onB] using hb)
  unfold cnt at this ⊢
  rw [List.set_cons_succ,List.count_cons,List.count_cons,this]
  omega
theorem zDm{inn:List Bool}(hl:inn.length=L.length)(s:Tx):cnt (mk1 L inn s)=cnt inn+cond (zrf L inn s) 1 0:=by
 unfold mk1
 cases h:zrf L inn s with
 |false=>rfl
 |true =>
  unfold zrf at h
  rw [Bool.and_eq_true,Bool.not_eq_true'] at h
  exact zyU inn _ (by rw [hl];exact (zvh h.1).2) h.2
theorem zyT:∀(l:List Tx) (inn:List Bool),inn.length=L.length→cnt inn+cond (l.any (zrf L inn)) 1 0≤cnt (mkS L inn l)
 | [],inn,hl=>by simp [mkS]
 |s ::r,inn,hl=>by
  have ih:=zyT r (mk1 L inn s) (by rw [ztj];exact hl)
  have h1:=zDm hl s
  unfold mkS
  rw [List.any_cons]
  cases h:zrf L inn s with
  |true=>rw [h] at h1;simp only [cond_true] at h1;simp only [Bool.true_or,cond_true];omega
  |false =>
   have e:mk1 L inn s=inn:=by unfold mk1;rw [h];rfl
   rw [e] at ih ⊢
   simpa using ih
theorem zwh:∀(r:List za) (k:Nat) (inn:List Bool),inn.length=L.length→cnt inn+cond (znF L nx act inn k r) 1 0≤cnt (zjq L nx act inn k r)
 | [],k,inn,hl=>by simp [zjq,znF]
 |c ::r,k,inn,hl=>by
  unfold zjq znF
  have hl2:(cond (onB inn k||act k) (mkS L inn (nx c)) inn).length=L.length:=by
   cases onB inn k||act k
   ·exact hl
   ·exact (zom L _ _).trans hl
  have ih:=zwh r (k+1) _ hl2
  have h1:cnt inn+cond (cond (onB inn k||act k) ((nx c).any (zrf L inn)) false) 1 0≤cnt (cond (onB inn k||act k) (mkS L inn (nx c)) inn):=by
   cases onB inn k||act k with
   |false=>simp
   |true=>exact zyT _ _ hl
  generalize cond (onB inn k||act k) ((nx c).any (zrf L inn)) false=x at *
  generalize znF L nx act (cond (onB inn k||act k) (mkS L inn (nx c)) inn) (k+1) r=y at *
  cases x <;> cases y <;> simp only [Bool.or_false,Bool.or_true,cond_true,cond_false] at*<;> omega
theorem zEx(inn:List Bool):cnt inn≤inn.length:=List.count_le_length
theorem zrj{R X:Type}{st:List Bool→Bool→Int→X}{body:X→Option (Sum X (Sum (List Bool×Bool) R))}(hL:L.length≤1000)
  (hb:∀(k:Nat) c inn more,inn.length=L.length→L[k]?=some c→body (st inn more (k:Int))=some (.inl (cond (onB inn k||act k) (st (mkS L inn (nx c)) (more||(nx c).any (zrf L inn)) ((k+1:Nat):Int)) (st inn more ((k+1:Nat):Int)))))
  (he:∀inn more,body (st inn more (L.length:Int))=some (.inr (.inl (inn,more)))):
  ∀(r pre:List za) (inn:List Bool) (more:Bool),L=pre++r→inn.length=L.length→zl body (st inn more (pre.length:Int))=some (.inl (zjq L nx act inn pre.length r,more||znF L nx act inn pre.length r))
 | [],pre,inn,more,e,hi=>by
  rw [List.append_nil] at e
  subst e
  rw [zI,he]
  show some _=some _
  simp [zjq,znF]
 |c ::r,pre,inn,more,e,hi=>by
  have hx:L[pre.length]?=some c:=by rw [e];simp
  rw [zI,hb _ c inn more hi hx]
  have ih:=fun i m h=>zrj hL hb he r (pre++[c]) i m (by rw [e];simp) h
  rw [show (pre++[c]).length=pre.length+1 by simp] at ih
  unfold zjq znF
  cases onB inn pre.length||act pre.length with
  |false =>
   show zl body (st inn more ((pre.length+1:Nat):Int))=_
   rw [ih _ _ hi]
   simp
  |true =>
   show zl body (st (mkS L inn (nx c)) _ ((pre.length+1:Nat):Int))=_
   rw [ih _ _ (by rw [zom];exact hi),Bool.or_assoc]
   rfl
def zFp(L:List za)(nx:za→List Tx)(act:Nat→Bool)(R:List Bool):Prop:=
 ∀(k:Nat) c,L[k]?=some c→(onB R k||act k)=true→∀s∈nx c,zb0 L s=true→onB R (atN L s).toNat=true
theorem zD7{inn:List Bool}(h:znF L nx act inn 0 L=false):zFp L nx act inn:=fun k c hk hb s hs hh=>by
 have:=(znu L 0 inn h).2 k c hk (by rw [Nat.zero_add];exact hb)
 rw [List.any_eq_false] at this
 have:=this s hs
 unfold zrf at this
 rw [hh,Bool.true_and,Bool.not_eq_true',Bool.not_eq_false] at this
 exact this
theorem zpC{R X:Type}{st:List Bool→Bool→X}{body:X→Option (Sum X (Sum (List Bool) R))}{Q:Nat→Prop}
  (hb:∀inn,inn.length=L.length→body (st inn true)=some (.inl (st (zjq L nx act inn 0 L) (znF L nx act inn 0 L))))
  (he:∀inn,inn.length=L.length→body (st inn false)=some (.inr (.inl inn)))
  (hQ:∀(j:Nat) c,L[j]?=some c→(Q j∨act j=true)→∀s∈nx c,zb0 L s=true→Q (atN L s).toNat):
  ∀(d:Nat) (inn:List Bool),inn.length=L.length→L.length≤d+cnt inn→(∀n,onB inn n=true→Q n) →
  ∃F,zl body (st inn true)=some (.inl F)∧F.length=L.length∧zFp L nx act F∧(∀n,onB inn n=true→onB F n=true)∧(∀n,onB F n=true→Q n)
 |d,inn,hl,hd,hq=>by
  have hl2:(zjq L nx act inn 0 L).length=L.length:=(ztq L 0 inn).trans hl
  rw [zI,hb inn hl]
  cases hg:znF L nx act inn 0 L with
  |false =>
   have e:=(znu L 0 inn hg).1
   refine ⟨inn,?_,hl,zD7 hg,fun n h=>h,hq⟩
   show zl body (st _ false)=_
   rw [zI,he _ hl2,e];rfl
  |true =>
   have hc:=zwh (nx:=nx) (act:=act) L 0 inn hl
   rw [hg] at hc
   simp only [cond_true] at hc
   have hle:=zEx (zjq L nx act inn 0 L)
   have hq2:∀n,onB (zjq L nx act inn 0 L) n=true→Q n:=zpD L 0 inn hl (fun j c hj hor=>by rw [Nat.zero_add] at hor;exact hQ j c hj hor) hq
   cases d with
   |zero=>omega
   |succ d =>
    obtain ⟨F,k1,k2,k3,k4,k5⟩:=zpC hb he hQ d _ hl2 (by omega) hq2
    exact ⟨F,k1,k2,k3,fun n h=>k4 n (zrk L 0 inn hl n h),k5⟩
end

end
end Go.Proofs.YtjbdfkapnffjnaaGreat
