/- LayoutOver: for every input the law returns true, and each argument reads as it read before. No further condition. Part 6 of 8. -/
import Derived.Test.YthmnlfenkhmmhaaGreatSv5
namespace Go.Proofs.YthmnlfenkhmmhaaGreat
noncomputable section
set_option linter.unusedSimpArgs false
set_option linter.unusedVariables false
set_option maxRecDepth 100000
set_option maxHeartbeats 4000000
def zs (d:List zc) (e:List (List UInt8×Int)) (f:List UInt8) (i:ze) (j:List (List UInt8)) (a:List (List UInt8)) (l:Bool) (b:List UInt8):Option ((List (List UInt8))) :=
  (zjq 16 a [b]).bind fun c=>some c
theorem zr (b:List zc) (c:List (List UInt8×Int)) (d:List UInt8) (e:ze) (a:List (List UInt8)) (i:List (List UInt8)) (j:Bool) (l:List UInt8) {r:(List (List UInt8))} (h:zs b c d e a i j l=some r):SC Tryz.prog 281 [.mpt 0 0 0,sA l] [.one 15 (vK b c d e (.msl 1 0 (List.length a)) (.msl 2 0 (List.length i)) (bA j)),.many 1 (List.map zi a),.many 1 (List.map zi i)] (.tup []) [.one 15 (vK b c d e (.msl 1 0 (List.length a)) (.msl 3 0 (List.length r)) (bA j)),.many 1 (List.map zi a),.no,.many 1 (List.map zi r)]:=by
 refine ⟨⟨j5,zeU (sz:=1) (fun _=>j0),j5,zeU (sz:=1) (fun _=>j0),j5⟩,zad Tryz.func281 j0 (by kernel_rfl) j0 ?_⟩
 unfold zs at h
 obtain ⟨n,m,h⟩:=bs h
 refine rl j0<|u<|mv j0<|u<|mv j0<|u<|nc j0 j0<|u<|fa zS j0 j0 j0<|u<|ld zM j0 j0<|u<|mv j0<|u<|bl 3 zM j0 ti9 j0 (by decide) (by decide) j0 j0 j0<|u<|apM 4 zM j0 ti9 j0 j0 (by decide) zM j0 j0 j0 j0 (roX (f:=zi) (z:=[l]) j0 j0) (fun _=>j0) j0 m<|u<|nc j0 j0<|u<|fa zS j0 j0 j0<|u<|sto zM j0 j0 j0<|za ?_
 obtain rfl:=sm h
 exact ⟨_,j0,[.old 0,.old 1,.dead,.old 4],z8 j5,j0,⟨⟨_,j0,zg (zQ j0 (by exact ⟨.msl j0,.msl j0,ci j0,j5⟩))⟩,⟨_,j0,zd (fun _=>j0)⟩,⟨_,j0,zd (fun _=>j0)⟩,j5⟩,j0,j1⟩
def z2 (e:List zc) (f:List (List UInt8×Int)) (i:List UInt8) (j:ze) (l:List (List UInt8)) (a:List (List UInt8)) (b:Bool):Option ((List UInt8)×(List (List UInt8))×Bool) :=
  cond (((List.length a):Int) == (0:Int)) (some ([84],a,true)) ((idx a (IntKind.i64.wrap (((List.length a):Int) - 1))).bind fun c=>(zmE a 0 (IntKind.i64.wrap (((List.length a):Int) - 1))).bind fun d=>some (c,d,b))
theorem zX (e:List zc) (i:List (List UInt8×Int)) (j:List UInt8) (m:ze) (d:List (List UInt8)) (a:List (List UInt8)) (o:Bool) {r:(List UInt8)×(List (List UInt8))×Bool} (h:z2 e i j m d a o=some r):SC Tryz.prog 341 [.mpt 0 0 0] [.one 15 (vK e i j m (.msl 1 0 (List.length d)) (.msl 2 0 (List.length a)) (bA o)),.many 1 (List.map zi d),.many 1 (List.map zi a)] (sA r.1) [.one 15 (vK e i j m (.msl 1 0 (List.length d)) (.msl 2 0 (List.length r.2.1)) (bA r.2.2)),.many 1 (List.map zi d),.many 1 (List.map zi r.2.1)]:=by
 refine ⟨⟨j5,zeU (sz:=1) (fun _=>j0),zeU (sz:=1) (fun _=>j0),j5⟩,zad Tryz.func341 j0 (by kernel_rfl) j0 ?_⟩
 unfold z2 at h
 refine rg j0<|u<|asg j0<|za ?_
 refine zl ?_
 refine rg j0<|u<|mv j0<|u<|nc j0 j0<|u<|fa zS j0 j0 j0<|u<|ld zM j0 j0<|u<|lnM zM j0 j0 j0<|u<|eql ti3 j0 j0<|za ?_
 refine zh j0 (fun n=>?_) (fun n=>?_)
 ·
  replace h:=bT n h
  refine rg j0<|u<|mv j0<|u<|nc j0 j0<|u<|fa zS j0 j0 j0<|u<|sto ti4 j0 j0 j0<|za ?_
  refine rg j0<|u<|asg j0<|za ?_
  refine zj ?_
  obtain rfl:=sm h
  exact ⟨_,j0,[.old 0,.old 1,.old 2],ci j0,j0,⟨⟨_,j0,zg (zQ j0 (by exact ⟨.msl j0,.msl j0,ci j0,j5⟩))⟩,⟨_,j0,zd (fun _=>j0)⟩,⟨_,j0,zd (fun _=>j0)⟩,j5⟩,j0,j1⟩
 ·
  replace h:=bF n h
  refine zk ?_
  obtain ⟨p,s,h⟩:=bs h
  refine rd [(0,.mpt 0 0 0),(3,sA p)] [some (15,[(vK e i j m (.msl 1 0 (List.length d)) (.msl 2 0 (List.length a)) (bA o))]),some (1,List.map zi d),some (1,List.map zi a)] [] [12,11,10,9,8,7,6,5,4,3,2,1,0] [(3,sA p),(24,sA p),(23,.mpt 2 (Int.toNat (IntKind.i64.wrap (((List.length a):Int) - 1))) 0),(22,iA (IntKind.i64.wrap (((List.length a):Int) - 1))),(21,iA ((List.length a):Int)),(20,.msl 2 0 (List.length a)),(19,.mpt 0 0 13),(18,.mpt 0 0 0),(17,.mpt 0 0 0),(16,.msl 2 0 (List.length a)),(15,.mpt 0 0 13),(14,.mpt 0 0 0),(13,.mpt 0 0 0)] 0 (by kernel_rfl) (by kernel_rfl) j0 (by kernel_rfl) (dt0 ⟨(fun _=>pa j0 j0 j0 j0 (asg j0<|j4)),(fun _=>pa j0 j0 j0 j0 (ldM ti9 j0 j0 (zp s).2.2 j0<|j4)),(fun _=>pa j0 j0 j0 j0 (ixM zM j0 ti9 j0 j0 j0 j0 s<|j4)),(fun _=>pa j0 j0 j0 j0 (sub ti3 j0 j0<|j4)),(fun _=>pa j0 j0 j0 j0 (lnM zM j0 j0 j0<|j4)),(fun _=>pa j0 j0 j0 j0 (ld zM j0 j0<|j4)),(fun _=>pa j0 j0 j0 j0 (fa zS j0 j0 j0<|j4)),(fun _=>pa j0 j0 j0 j0 (nc j0 j0<|j4)),(fun _=>pa j0 j0 j0 j0 (mv j0<|j4)),(fun _=>pa j0 j0 j0 j0 (ld zM j0 j0<|j4)),(fun _=>pa j0 j0 j0 j0 (fa zS j0 j0 j0<|j4)),(fun _=>pa j0 j0 j0 j0 (nc j0 j0<|j4)),(fun _=>pa j0 j0 j0 j0 (mv j0<|j4)),j5⟩ (by kernel_rfl) j0 ⟨[.old 0,.old 1,.old 2],cv j0 (.mpt j0)<|ce j0 j0<|cn,j0,⟨⟨_,j0,zg (zQ j0 (by exact ⟨.msl j0,.msl j0,ci j0,j5⟩))⟩,⟨_,j0,zd (fun _=>j0)⟩,⟨_,j0,zd (fun _=>j0)⟩,j5⟩,j0,j1⟩) ?_
  obtain ⟨v,q,h⟩:=bs h
  refine rd [(3,sA p)] [some (15,[(vK e i j m (.msl 1 0 (List.length d)) (.msl 2 0 (List.length v)) (bA o))]),some (1,List.map zi d),some (1,List.map zi a)] [14] [13,12,11,10,9,8,7,6,5,4,3,2,1,0] [(38,.mpt 0 0 13),(37,.mpt 0 0 0),(36,.msl 2 0 (List.length v)),(35,iA (IntKind.i64.wrap (((List.length a):Int) - 1))),(34,iA ((List.length a):Int)),(33,.msl 2 0 (List.length a)),(32,.mpt 0 0 13),(31,.mpt 0 0 0),(30,.mpt 0 0 0),(29,.msl 2 0 (List.length a)),(28,.mpt 0 0 13),(27,.mpt 0 0 0),(26,.mpt 0 0 0),(25,.mpt 0 0 0)] 1 (by kernel_rfl) (by kernel_rfl) j0 (by kernel_rfl) (dtS ⟨(fun _=>pa j0 j0 j0 j0 (fa zS j0 j0 j0<|j4)),(fun _=>pa j0 j0 j0 j0 (nc j0 j0<|j4)),(fun _=>pa j0 j0 j0 j0 (slM (l:=a) (c:=(IntKind.i64.wrap (((List.length a):Int) - 1))) zM j0 ti9 j0 j0 j0 (zn8 j0 q) q<|j4)),(fun _=>pa j0 j0 j0 j0 (sub ti3 j0 j0<|j4)),(fun _=>pa j0 j0 j0 j0 (lnM zM j0 j0 j0<|j4)),(fun _=>pa j0 j0 j0 j0 (ld zM j0 j0<|j4)),(fun _=>pa j0 j0 j0 j0 (fa zS j0 j0 j0<|j4)),(fun _=>pa j0 j0 j0 j0 (nc j0 j0<|j4)),(fun _=>pa j0 j0 j0 j0 (mv j0<|j4)),(fun _=>pa j0 j0 j0 j0 (ld zM j0 j0<|j4)),(fun _=>pa j0 j0 j0 j0 (fa zS j0 j0 j0<|j4)),(fun _=>pa j0 j0 j0 j0 (nc j0 j0<|j4)),(fun _=>pa j0 j0 j0 j0 (mv j0<|j4)),(fun _=>pa j0 j0 j0 j0 (mv j0<|j4)),j5⟩ (by kernel_rfl) j0 ⟨(fun _ _=>⟨_,j0,j0,sto zM j0 j0 j0<|⟨.any,[],[],j0,j0,by kernel_rfl,j5,dt0 ⟨(fun h=>by cases h),(fun _=>pa j0 j0 j0 j0 (nc j0 j0<|j4)),(fun h=>by cases h),(fun h=>by cases h),(fun h=>by cases h),(fun h=>by cases h),(fun h=>by cases h),(fun h=>by cases h),(fun h=>by cases h),(fun h=>by cases h),(fun h=>by cases h),(fun h=>by cases h),(fun h=>by cases h),(fun h=>by cases h),j5⟩ (by kernel_rfl) j0 ⟨[.old 0,.old 1,.old 2],ce j0 j0<|cn,j0,⟨⟨_,j0,zg (zQ j0 (by exact ⟨.msl j0,.msl j0,ci j0,j5⟩))⟩,⟨_,j0,zd (fun _=>j0)⟩,⟨_,j0,zd (fun _=>j0)⟩,j5⟩,j0,j1⟩⟩⟩),j5⟩) ?_
  refine zv3 (b:=2) (l:=a) (f:=zi) (c:=(IntKind.i64.wrap (((List.length a):Int) - 1))) j0 j0 q ?_
  refine rg j0<|u<|mv j0<|u<|asg j0<|za ?_
  refine zj ?_
  obtain rfl:=sm h
  exact ⟨_,j0,[.old 0,.old 1,.old 2],ci j0,j0,⟨⟨_,j0,zg (zQ j0 (by exact ⟨.msl j0,.msl j0,ci j0,j5⟩))⟩,⟨_,j0,zd (fun _=>j0)⟩,⟨_,j0,zd (fun _=>j0)⟩,j5⟩,j0,j1⟩
def zcd (i:List zc) (j:List (List UInt8×Int)) (l:List UInt8) (m:ze) (a:List (List UInt8)) (b:List (List UInt8)) (c:Bool) (n:zA) (d:Bool):Option ((List (List UInt8))×(List (List UInt8))×Bool) :=
  cond d (some (a,b,true)) ((idx a n.A).bind fun e=>(zs i j l m a b c e).bind fun f=>some (a,f,c))
def zfs (c:List zc) (d:List (List UInt8×Int)) (e:List UInt8) (f:ze) (a:List (List UInt8)) (l:List (List UInt8)) (i:Bool) (b:zA):Option ((List (List UInt8))×(List (List UInt8))×Bool) :=
  cond (b.Op == (1:Int)) ((zs c d e f a l i [73]).bind fun E=>some (a,E,i)) (cond (b.Op == (2:Int)) ((zs c d e f a l i [78]).bind fun s=>some (a,s,i)) (cond (b.Op == (3:Int)) (cond (decide (((List.length a):Int)≤b.A)) (zcd c d e f a l i b true) ((idx a b.A).bind fun v=>zcd c d e f a l i b (v == [84]))) (cond (b.Op == (4:Int)) ((z2 c d e f a l i).bind fun n=>cond (decide (((List.length a):Int)≤b.A)) (some (a,n.2.1,true)) ((zoe a).bind fun p=>(idx p b.A).bind fun F=>some ((List.set p (Int.toNat b.A) n.1),n.2.1,n.2.2))) (cond (b.Op == (5:Int)) ((z2 c d e f a l i).bind fun q=>some (a,q.2.1,q.2.2)) (cond (b.Op == (6:Int)) ((z2 c d e f a l i).bind fun j=>(zs c d e f a j.2.1 j.2.2 j.1).bind fun x=>(zs c d e f a x j.2.2 j.1).bind fun B=>some (a,B,j.2.2)) (cond (b.Op == (7:Int)) ((z2 c d e f a l i).bind fun o=>(z2 c d e f a o.2.1 o.2.2).bind fun m=>(zs c d e f a m.2.1 m.2.2 o.1).bind fun C=>(zs c d e f a C m.2.2 m.1).bind fun D=>some (a,D,m.2.2)) (some (a,l,i))))))))
theorem ziv (f:List zc) (i:List (List UInt8×Int)) (j:List UInt8) (l:ze) (a:List (List UInt8)) (p:List (List UInt8)) (o:Bool) (c:zA) {r:(List (List UInt8))×(List (List UInt8))×Bool} (h:zfs f i j l a p o c=some r):SC Tryz.prog 279 [.mpt 0 0 0,.agg (zw c)] [.one 15 (vK f i j l (.msl 1 0 (List.length a)) (.msl 2 0 (List.length p)) (bA o)),.many 1 (List.map zi a),.many 1 (List.map zi p)] (.tup []) [.one 15 (vK f i j l (.msl 3 0 (List.length r.1)) (.msl 4 0 (List.length r.2.1)) (bA r.2.2)),.no,.no,.many 1 (List.map zi r.1),.many 1 (List.map zi r.2.1)]:=by
 refine ⟨⟨j5,j5,j5,zeU (sz:=1) (fun _=>j0),zeU (sz:=1) (fun _=>j0),j5⟩,zad Tryz.func279 j0 (by kernel_rfl) j0 ?_⟩
 unfold zfs at h
 refine rg j0<|u<|bx 3 4 j0 j0 j0 j0<|za ?_
 refine rg j0<|u<|fa zcI j0 j0 j0<|u<|ld ti3 j0 j0<|za ?_
 refine zq ?_
 refine rg j0<|u<|eql ti3 j0 j0<|u<|asg j0<|za ?_
 refine zh j0 (fun F=>?_) (fun F=>?_)
 ·
  replace h:=bT F h
  obtain ⟨T,q2,h⟩:=bs h
  refine rl j0<|u<|mv j0<|u<|sc [0,1,2] (zr f i j l a p o [73] q2) j0 j0 j0 j0 ⟨(.mpt j0),(rnI j0),j5⟩ ⟨⟨_,j0,(zcH j0 ⟨(.msl j0),(.msl j0),(rnI j0),j5⟩)⟩,⟨j0,mkI (fun _=>j0)⟩,⟨j0,mkI (fun _=>j0)⟩,j5⟩<|zB (env0:=[]) (st0:=[some (15,[(vK f i j l (.msl 1 0 (List.length a)) (.msl 3 0 (List.length T)) (bA o))]),some (1,List.map zi a),none,some (1,List.map zi T)]) ⟨[.old 0,.old 1,.dead,.old 4],cn,j0,⟨⟨_,j0,zg (zQ j0 (by exact ⟨.msl j0,.msl j0,ci j0,j5⟩))⟩,⟨_,j0,zd (fun _=>j0)⟩,⟨_,j0,zd (fun _=>j0)⟩,j5⟩,j0,j1⟩<|za ?_
  obtain rfl:=sm h
  exact ⟨_,j0,[.old 0,.dead,.dead,.old 1,.old 3],z8 j5,j0,⟨⟨_,j0,zg (zQ j0 (by exact ⟨.msl j0,.msl j0,ci j0,j5⟩))⟩,⟨_,j0,zd (fun _=>j0)⟩,⟨_,j0,zd (fun _=>j0)⟩,j5⟩,j0,j1⟩
 ·
  replace h:=bF F h
  refine rg j0<|u<|eql ti3 j0 j0<|u<|asg j0<|za ?_
  refine zh j0 (fun G=>?_) (fun G=>?_)
  ·
   replace h:=bT G h
   obtain ⟨M,q4,h⟩:=bs h
   refine rl j0<|u<|mv j0<|u<|sc [0,1,2] (zr f i j l a p o [78] q4) j0 j0 j0 j0 ⟨(.mpt j0),(rnI j0),j5⟩ ⟨⟨_,j0,(zcH j0 ⟨(.msl j0),(.msl j0),(rnI j0),j5⟩)⟩,⟨j0,mkI (fun _=>j0)⟩,⟨j0,mkI (fun _=>j0)⟩,j5⟩<|zB (env0:=[]) (st0:=[some (15,[(vK f i j l (.msl 1 0 (List.length a)) (.msl 3 0 (List.length M)) (bA o))]),some (1,List.map zi a),none,some (1,List.map zi M)]) ⟨[.old 0,.old 1,.dead,.old 4],cn,j0,⟨⟨_,j0,zg (zQ j0 (by exact ⟨.msl j0,.msl j0,ci j0,j5⟩))⟩,⟨_,j0,zd (fun _=>j0)⟩,⟨_,j0,zd (fun _=>j0)⟩,j5⟩,j0,j1⟩<|za ?_
   obtain rfl:=sm h
   exact ⟨_,j0,[.old 0,.dead,.dead,.old 1,.old 3],z8 j5,j0,⟨⟨_,j0,zg (zQ j0 (by exact ⟨.msl j0,.msl j0,ci j0,j5⟩))⟩,⟨_,j0,zd (fun _=>j0)⟩,⟨_,j0,zd (fun _=>j0)⟩,j5⟩,j0,j1⟩
  ·
   replace h:=bF G h
   refine rg j0<|u<|eql ti3 j0 j0<|u<|asg j0<|za ?_
   refine zh j0 (fun H=>?_) (fun H=>?_)
   ·
    replace h:=bT H h
    refine zl ?_
    refine zcD (X:=Bool) (fun z=>[(0,.mpt 0 0 0),(3,.mpt 3 0 0),(38,bA z)]) (fun z=>[some (15,[(vK f i j l (.msl 1 0 (List.length a)) (.msl 2 0 (List.length p)) (bA o))]),some (1,List.map zi a),some (1,List.map zi p),some (4,[(zw c)])]) (fun z=>zcd f i j l a p o c z=some r) ?_ ?_
    ·
     rcases bb (decide (((List.length a):Int)≤c.A)) with d | d
     ·
      replace h:=bT d h
      exact za4 [] [18,17,16,15,14,13,12,11,10,9,8,7,6,5,4,3,2,1,0] [(38,bA true),(37,.lit undef),(36,.lit undef),(35,.lit undef),(34,.lit undef),(33,.lit undef),(32,.lit undef),(31,.lit undef),(30,.lit undef),(29,.lit undef),(28,bA (decide (((List.length a):Int)≤c.A))),(27,bA (decide (((List.length a):Int)≤c.A))),(26,iA ((List.length a):Int)),(25,.msl 1 0 (List.length a)),(24,.mpt 0 0 12),(23,.mpt 0 0 0),(22,.mpt 0 0 0),(21,iA c.A),(20,.mpt 3 0 1)] 0 (by kernel_rfl) (by kernel_rfl) j0 (by kernel_rfl) (dt0 ⟨(fun _=>pa j0 j0 j0 j0 (pkb j0 d j0<|j4)),(fun _=>pas (b:=(decide (((List.length a):Int)≤c.A))) j0 j0 j0 j0 d j0),(fun _=>pas (b:=(decide (((List.length a):Int)≤c.A))) j0 j0 j0 j0 d j0),(fun _=>pas (b:=(decide (((List.length a):Int)≤c.A))) j0 j0 j0 j0 d j0),(fun _=>pas (b:=(decide (((List.length a):Int)≤c.A))) j0 j0 j0 j0 d j0),(fun _=>pas (b:=(decide (((List.length a):Int)≤c.A))) j0 j0 j0 j0 d j0),(fun _=>pas (b:=(decide (((List.length a):Int)≤c.A))) j0 j0 j0 j0 d j0),(fun _=>pas (b:=(decide (((List.length a):Int)≤c.A))) j0 j0 j0 j0 d j0),(fun _=>pas (b:=(decide (((List.length a):Int)≤c.A))) j0 j0 j0 j0 d j0),(fun _=>pas (b:=(decide (((List.length a):Int)≤c.A))) j0 j0 j0 j0 d j0),(fun _=>pa j0 j0 j0 j0 (mv j0<|j4)),(fun _=>pa j0 j0 j0 j0 (geq ti3 j0 j0<|j4)),(fun _=>pa j0 j0 j0 j0 (lnM zM j0 j0 j0<|j4)),(fun _=>pa j0 j0 j0 j0 (ld zM j0 j0<|j4)),(fun _=>pa j0 j0 j0 j0 (fa zS j0 j0 j0<|j4)),(fun _=>pa j0 j0 j0 j0 (nc j0 j0<|j4)),(fun _=>pa j0 j0 j0 j0 (mv j0<|j4)),(fun _=>pa j0 j0 j0 j0 (ld ti3 j0 j0<|j4)),(fun _=>pa j0 j0 j0 j0 (fa zcI j0 j0 j0<|j4)),j5⟩ (by kernel_rfl) j0 ⟨true,h,[.old 0,.old 1,.old 2,.old 3],cv j0 (.mpt j0)<|cv j0 (.mpt j0)<|ce j0 j0<|cn,j0,⟨⟨_,j0,zg (zQ j0 (by exact ⟨.msl j0,.msl j0,ci j0,j5⟩))⟩,⟨_,j0,zd (fun _=>j0)⟩,⟨_,j0,zd (fun _=>j0)⟩,⟨_,j0,zg (ciL j0)⟩,j5⟩,j0,j1⟩)
     ·
      replace h:=bF d h
      obtain ⟨E,U,h⟩:=bs h
      exact za4 [] [18,17,16,15,14,13,12,11,10,9,8,7,6,5,4,3,2,1,0] [(38,bA (E == [84])),(37,bA (E == [84])),(36,sA E),(35,.mpt 1 (Int.toNat c.A) 0),(34,iA c.A),(33,.mpt 3 0 1),(32,.msl 1 0 (List.length a)),(31,.mpt 0 0 12),(30,.mpt 0 0 0),(29,.mpt 0 0 0),(28,bA (decide (((List.length a):Int)≤c.A))),(27,bA (decide (((List.length a):Int)≤c.A))),(26,iA ((List.length a):Int)),(25,.msl 1 0 (List.length a)),(24,.mpt 0 0 12),(23,.mpt 0 0 0),(22,.mpt 0 0 0),(21,iA c.A),(20,.mpt 3 0 1)] 0 (by kernel_rfl) (by kernel_rfl) j0 (by kernel_rfl) (dt0 ⟨(fun _=>pa j0 j0 j0 j0 (pkb j0 d j0<|j4)),(fun _=>pag (b:=(decide (((List.length a):Int)≤c.A))) j0 j0 j0 j0 d j0 (seq ti9 j0 j0<|j4)),(fun _=>pag (b:=(decide (((List.length a):Int)≤c.A))) j0 j0 j0 j0 d j0 (ldM ti9 j0 j0 (zp U).2.2 j0<|j4)),(fun _=>pag (b:=(decide (((List.length a):Int)≤c.A))) j0 j0 j0 j0 d j0 (ixM zM j0 ti9 j0 j0 j0 j0 U<|j4)),(fun _=>pag (b:=(decide (((List.length a):Int)≤c.A))) j0 j0 j0 j0 d j0 (ld ti3 j0 j0<|j4)),(fun _=>pag (b:=(decide (((List.length a):Int)≤c.A))) j0 j0 j0 j0 d j0 (fa zcI j0 j0 j0<|j4)),(fun _=>pag (b:=(decide (((List.length a):Int)≤c.A))) j0 j0 j0 j0 d j0 (ld zM j0 j0<|j4)),(fun _=>pag (b:=(decide (((List.length a):Int)≤c.A))) j0 j0 j0 j0 d j0 (fa zS j0 j0 j0<|j4)),(fun _=>pag (b:=(decide (((List.length a):Int)≤c.A))) j0 j0 j0 j0 d j0 (nc j0 j0<|j4)),(fun _=>pag (b:=(decide (((List.length a):Int)≤c.A))) j0 j0 j0 j0 d j0 (mv j0<|j4)),(fun _=>pa j0 j0 j0 j0 (mv j0<|j4)),(fun _=>pa j0 j0 j0 j0 (geq ti3 j0 j0<|j4)),(fun _=>pa j0 j0 j0 j0 (lnM zM j0 j0 j0<|j4)),(fun _=>pa j0 j0 j0 j0 (ld zM j0 j0<|j4)),(fun _=>pa j0 j0 j0 j0 (fa zS j0 j0 j0<|j4)),(fun _=>pa j0 j0 j0 j0 (nc j0 j0<|j4)),(fun _=>pa j0 j0 j0 j0 (mv j0<|j4)),(fun _=>pa j0 j0 j0 j0 (ld ti3 j0 j0<|j4)),(fun _=>pa j0 j0 j0 j0 (fa zcI j0 j0 j0<|j4)),j5⟩ (by kernel_rfl) j0 ⟨(E == [84]),h,[.old 0,.old 1,.old 2,.old 3],cv j0 (.mpt j0)<|cv j0 (.mpt j0)<|ce j0 j0<|cn,j0,⟨⟨_,j0,zg (zQ j0 (by exact ⟨.msl j0,.msl j0,ci j0,j5⟩))⟩,⟨_,j0,zd (fun _=>j0)⟩,⟨_,j0,zd (fun _=>j0)⟩,⟨_,j0,zg (ciL j0)⟩,j5⟩,j0,j1⟩)
    ·
     rintro V h
     replace h:zcd f i j l a p o c V=some r:=h
     unfold zcd at h
     refine zh j0 (fun I=>?_) (fun I=>?_)
     ·
      replace h:=bT I h
      refine rg j0<|u<|mv j0<|u<|nc j0 j0<|u<|fa zS j0 j0 j0<|u<|sto ti4 j0 j0 j0<|za ?_
      refine zj ?_
      obtain rfl:=sm h
      exact ⟨_,j0,[.old 0,.dead,.dead,.old 1,.old 2],z8 j5,j0,⟨⟨_,j0,zg (zQ j0 (by exact ⟨.msl j0,.msl j0,ci j0,j5⟩))⟩,⟨_,j0,zd (fun _=>j0)⟩,⟨_,j0,zd (fun _=>j0)⟩,j5⟩,j0,j1⟩
     ·
      replace h:=bF I h
      refine zk ?_
      obtain ⟨N,S,h⟩:=bs h
      obtain ⟨O,W,h⟩:=bs h
      refine rdL [] [some (15,[(vK f i j l (.msl 1 0 (List.length a)) (.msl 3 0 (List.length O)) (bA o))]),some (1,List.map zi a),none,some (1,List.map zi O)] [9] [8,7,6,5,4,3,2,1,0] [(50,sA N),(49,.mpt 1 (Int.toNat c.A) 0),(48,iA c.A),(47,.mpt 3 0 1),(46,.msl 1 0 (List.length a)),(45,.mpt 0 0 12),(44,.mpt 0 0 0),(43,.mpt 0 0 0),(42,.mpt 0 0 0)] 1 (by kernel_rfl) (by kernel_rfl) j0 (by kernel_rfl) (dtS ⟨(fun _=>pa j0 j0 j0 j0 (ldM ti9 j0 j0 (zp S).2.2 j0<|j4)),(fun _=>pa j0 j0 j0 j0 (ixM zM j0 ti9 j0 j0 j0 j0 S<|j4)),(fun _=>pa j0 j0 j0 j0 (ld ti3 j0 j0<|j4)),(fun _=>pa j0 j0 j0 j0 (fa zcI j0 j0 j0<|j4)),(fun _=>pa j0 j0 j0 j0 (ld zM j0 j0<|j4)),(fun _=>pa j0 j0 j0 j0 (fa zS j0 j0 j0<|j4)),(fun _=>pa j0 j0 j0 j0 (nc j0 j0<|j4)),(fun _=>pa j0 j0 j0 j0 (mv j0<|j4)),(fun _=>pa j0 j0 j0 j0 (mv j0<|j4)),j5⟩ (by kernel_rfl) j0 ⟨(fun _ _=>⟨_,j0,j0,sc [0,1,2] (zr f i j l a p o N W) j0 j0 j0 j0 ⟨(.mpt j0),(rnI j0),j5⟩ ⟨⟨_,j0,(zcH j0 ⟨(.msl j0),(.msl j0),(rnI j0),j5⟩)⟩,⟨j0,mkI (fun _=>j0)⟩,⟨j0,mkI (fun _=>j0)⟩,j5⟩<|⟨(.tup []),[],[(51,.tup [])],j0,j0,by kernel_rfl,j0,dt0 ⟨(fun h=>by cases h),(fun _=>pa j0 j0 j0 j0 (ixM zM j0 ti9 j0 j0 j0 j0 S<|j4)),(fun _=>pa j0 j0 j0 j0 (ld ti3 j0 j0<|j4)),(fun _=>pa j0 j0 j0 j0 (fa zcI j0 j0 j0<|j4)),(fun _=>pa j0 j0 j0 j0 (ld zM j0 j0<|j4)),(fun _=>pa j0 j0 j0 j0 (fa zS j0 j0 j0<|j4)),(fun _=>pa j0 j0 j0 j0 (nc j0 j0<|j4)),(fun _=>pa j0 j0 j0 j0 (mv j0<|j4)),(fun h=>by cases h),j5⟩ (by kernel_rfl) j0 ⟨[.old 0,.old 1,.dead,.old 4],cn,j0,⟨⟨_,j0,zg (zQ j0 (by exact ⟨.msl j0,.msl j0,ci j0,j5⟩))⟩,⟨_,j0,zd (fun _=>j0)⟩,⟨_,j0,zd (fun _=>j0)⟩,j5⟩,j0,j1⟩⟩⟩),j5⟩) ?_
      obtain rfl:=sm h
      exact ⟨_,j0,[.old 0,.dead,.dead,.old 1,.old 3],z8 j5,j0,⟨⟨_,j0,zg (zQ j0 (by exact ⟨.msl j0,.msl j0,ci j0,j5⟩))⟩,⟨_,j0,zd (fun _=>j0)⟩,⟨_,j0,zd (fun _=>j0)⟩,j5⟩,j0,j1⟩
   ·
    replace h:=bF H h
    refine rg j0<|u<|eql ti3 j0 j0<|u<|asg j0<|za ?_
    refine zh j0 (fun v=>?_) (fun v=>?_)
    ·
     replace h:=bT v h
     obtain ⟨e,Y,h⟩:=bs h
     refine rg j0<|u<|mv j0<|u<|sc [0,1,2] (zX f i j l a p o Y) j0 j0 j0 j0 ⟨(.mpt j0),j5⟩ ⟨⟨_,j0,(zcH j0 ⟨(.msl j0),(.msl j0),(rnI j0),j5⟩)⟩,⟨j0,mkI (fun _=>j0)⟩,⟨j0,mkI (fun _=>j0)⟩,j5⟩<|zB (env0:=[(0,.mpt 0 0 0),(3,.mpt 3 0 0),(55,sA e.1)]) (st0:=[some (15,[(vK f i j l (.msl 1 0 (List.length a)) (.msl 2 0 (List.length e.2.1)) (bA e.2.2))]),some (1,List.map zi a),some (1,List.map zi e.2.1),some (4,[(zw c)])]) ⟨[.old 0,.old 1,.old 2,.old 3],cv j0 (.mpt j0)<|cv j0 (.mpt j0)<|ce j0 j0<|cn,j0,⟨⟨_,j0,zg (zQ j0 (by exact ⟨.msl j0,.msl j0,ci j0,j5⟩))⟩,⟨_,j0,zd (fun _=>j0)⟩,⟨_,j0,zd (fun _=>j0)⟩,⟨_,j0,zg (ciL j0)⟩,j5⟩,j0,j1⟩<|u<|asg j0<|za ?_
     refine zl ?_
     refine rd [(0,.mpt 0 0 0),(3,.mpt 3 0 0),(4,sA e.1),(63,bA (decide (((List.length a):Int)≤c.A)))] [some (15,[(vK f i j l (.msl 1 0 (List.length a)) (.msl 2 0 (List.length e.2.1)) (bA e.2.2))]),some (1,List.map zi a),some (1,List.map zi e.2.1),some (4,[(zw c)])] [] [7,6,5,4,3,2,1,0] [(63,bA (decide (((List.length a):Int)≤c.A))),(62,iA ((List.length a):Int)),(61,.msl 1 0 (List.length a)),(60,.mpt 0 0 12),(59,.mpt 0 0 0),(58,.mpt 0 0 0),(57,iA c.A),(56,.mpt 3 0 1)] 0 (by kernel_rfl) (by kernel_rfl) j0 (by kernel_rfl) (dt0 ⟨(fun _=>pa j0 j0 j0 j0 (geq ti3 j0 j0<|j4)),(fun _=>pa j0 j0 j0 j0 (lnM zM j0 j0 j0<|j4)),(fun _=>pa j0 j0 j0 j0 (ld zM j0 j0<|j4)),(fun _=>pa j0 j0 j0 j0 (fa zS j0 j0 j0<|j4)),(fun _=>pa j0 j0 j0 j0 (nc j0 j0<|j4)),(fun _=>pa j0 j0 j0 j0 (mv j0<|j4)),(fun _=>pa j0 j0 j0 j0 (ld ti3 j0 j0<|j4)),(fun _=>pa j0 j0 j0 j0 (fa zcI j0 j0 j0<|j4)),j5⟩ (by kernel_rfl) j0 ⟨[.old 0,.old 1,.old 2,.old 3],cv j0 (.mpt j0)<|cv j0 (.mpt j0)<|ce j0 j0<|ce j0 j0<|cn,j0,⟨⟨_,j0,zg (zQ j0 (by exact ⟨.msl j0,.msl j0,ci j0,j5⟩))⟩,⟨_,j0,zd (fun _=>j0)⟩,⟨_,j0,zd (fun _=>j0)⟩,⟨_,j0,zg (ciL j0)⟩,j5⟩,j0,j1⟩) ?_
     refine zh j0 (fun x=>?_) (fun x=>?_)
     ·
      replace h:=bT x h
      refine rg j0<|u<|mv j0<|u<|nc j0 j0<|u<|fa zS j0 j0 j0<|u<|sto ti4 j0 j0 j0<|za ?_
      refine zj ?_
      obtain rfl:=sm h
      exact ⟨_,j0,[.old 0,.dead,.dead,.old 1,.old 2],z8 j5,j0,⟨⟨_,j0,zg (zQ j0 (by exact ⟨.msl j0,.msl j0,ci j0,j5⟩))⟩,⟨_,j0,zd (fun _=>j0)⟩,⟨_,j0,zd (fun _=>j0)⟩,j5⟩,j0,j1⟩
     ·
      replace h:=bF x h
      refine zk ?_
      obtain ⟨s,Z,h⟩:=bs h
      refine rg j0<|u<|mv j0<|u<|mv j0<|u<|nc j0 j0<|u<|fa zS j0 j0 j0<|u<|ld zM j0 j0<|zB (env0:=[(0,.mpt 0 0 0),(3,.mpt 3 0 0),(4,sA e.1),(67,.mpt 0 0 0),(71,.isl 1 (List.map zi a))]) (st0:=[some (15,[(vK f i j l (.isl 1 (List.map zi a)) (.msl 2 0 (List.length e.2.1)) (bA e.2.2))]),none,some (1,List.map zi e.2.1),some (4,[(zw c)])]) ⟨[.old 0,.dead,.old 2,.old 3],cv j0 (.mpt j0)<|cv j0 (.mpt j0)<|ce j0 j0<|cv j0 (.mpt j0)<|cv j0 (zjy j0 j0 (fun _=>j0))<|cn,j0,⟨⟨_,j0,zg (zQ j0 (by exact ⟨zjy j0 j0 (fun _=>j0),.msl j0,ci j0,j5⟩))⟩,⟨_,j0,zd (fun _=>j0)⟩,⟨_,j0,zg (ciL j0)⟩,j5⟩,j0,j1⟩<|u<|sc [] (zl2 a Z) j0 j0 j0 j0 ⟨(rnI j0),j5⟩ j5<|zB (env0:=[(0,.mpt 0 0 0),(3,.mpt 3 0 0),(4,sA e.1),(67,.mpt 0 0 0),(72,.msl 4 0 (List.length s))]) (st0:=[some (15,[(vK f i j l (.isl 1 (List.map zi a)) (.msl 2 0 (List.length e.2.1)) (bA e.2.2))]),none,some (1,List.map zi e.2.1),some (4,[(zw c)]),some (1,List.map zi s)]) ⟨[.old 0,.dead,.old 2,.old 3,.old 4],cv j0 (.mpt j0)<|cv j0 (.mpt j0)<|ce j0 j0<|cv j0 (.mpt j0)<|cv j0 (.msl j0)<|cn,j0,⟨⟨_,j0,zg (zQ j0 (by exact ⟨ci j0,.msl j0,ci j0,j5⟩))⟩,⟨_,j0,zd (fun _=>j0)⟩,⟨_,j0,zg (ciL j0)⟩,⟨_,j0,zd (fun _=>j0)⟩,j5⟩,j0,j1⟩<|u<|nc j0 j0<|u<|fa zS j0 j0 j0<|u<|sto zM j0 j0 j0<|za ?_
      obtain ⟨v17,P,h⟩:=bs h
      refine rdL [] [some (15,[(vK f i j l (.msl 3 0 (List.length (List.set s (Int.toNat c.A) e.1))) (.msl 2 0 (List.length e.2.1)) (bA e.2.2))]),none,some (1,List.map zi e.2.1),some (1,List.map zi (List.set s (Int.toNat c.A) e.1))] [8] [7,6,5,4,3,2,1,0] [(82,.mpt 4 (Int.toNat c.A) 0),(81,sA e.1),(80,iA c.A),(79,.mpt 3 0 1),(78,.msl 4 0 (List.length s)),(77,.mpt 0 0 12),(76,.mpt 0 0 0),(75,.mpt 0 0 0)] 1 (by kernel_rfl) (by kernel_rfl) j0 (by kernel_rfl) (dtS ⟨(fun _=>pa j0 j0 j0 j0 (ixM zM j0 ti9 j0 j0 j0 j0 P<|j4)),(fun _=>pa j0 j0 j0 j0 (mv j0<|j4)),(fun _=>pa j0 j0 j0 j0 (ld ti3 j0 j0<|j4)),(fun _=>pa j0 j0 j0 j0 (fa zcI j0 j0 j0<|j4)),(fun _=>pa j0 j0 j0 j0 (ld zM j0 j0<|j4)),(fun _=>pa j0 j0 j0 j0 (fa zS j0 j0 j0<|j4)),(fun _=>pa j0 j0 j0 j0 (nc j0 j0<|j4)),(fun _=>pa j0 j0 j0 j0 (mv j0<|j4)),j5⟩ (by kernel_rfl) j0 ⟨(fun _ _=>⟨_,j0,j0,zv0 (c':=e.1) ti9 j0 j0 (zp P).2.2 j0 j0 j0 j0 j0<|⟨.any,[],[],j0,j0,by kernel_rfl,j5,dt0 ⟨(fun h=>by cases h),(fun h=>by cases h),(fun h=>by cases h),(fun h=>by cases h),(fun h=>by cases h),(fun h=>by cases h),(fun h=>by cases h),(fun h=>by cases h),j5⟩ (by kernel_rfl) j0 ⟨[.old 0,.dead,.old 2,.old 4],cn,j0,⟨⟨_,j0,zg (zQ j0 (by exact ⟨zvo (by simp) j0,.msl j0,ci j0,j5⟩))⟩,⟨_,j0,zd (fun _=>j0)⟩,⟨_,j0,zd (fun _=>j0)⟩,j5⟩,j0,j1⟩⟩⟩),j5⟩) ?_
      obtain rfl:=sm h
      exact ⟨_,j0,[.old 0,.dead,.dead,.old 3,.old 2],z8 j5,j0,⟨⟨_,j0,zg (zQ j0 (by exact ⟨.msl j0,.msl j0,ci j0,j5⟩))⟩,⟨_,j0,zd (fun _=>j0)⟩,⟨_,j0,zd (fun _=>j0)⟩,j5⟩,j0,j1⟩
    ·
     replace h:=bF v h
     refine rg j0<|u<|eql ti3 j0 j0<|u<|asg j0<|za ?_
     refine zh j0 (fun B=>?_) (fun B=>?_)
     ·
      replace h:=bT B h
      obtain ⟨J,q17,h⟩:=bs h
      refine rl j0<|u<|mv j0<|u<|sc [0,1,2] (zX f i j l a p o q17) j0 j0 j0 j0 ⟨(.mpt j0),j5⟩ ⟨⟨_,j0,(zcH j0 ⟨(.msl j0),(.msl j0),(rnI j0),j5⟩)⟩,⟨j0,mkI (fun _=>j0)⟩,⟨j0,mkI (fun _=>j0)⟩,j5⟩<|zB (env0:=[]) (st0:=[some (15,[(vK f i j l (.msl 1 0 (List.length a)) (.msl 2 0 (List.length J.2.1)) (bA J.2.2))]),some (1,List.map zi a),some (1,List.map zi J.2.1)]) ⟨[.old 0,.old 1,.old 2],cn,j0,⟨⟨_,j0,zg (zQ j0 (by exact ⟨.msl j0,.msl j0,ci j0,j5⟩))⟩,⟨_,j0,zd (fun _=>j0)⟩,⟨_,j0,zd (fun _=>j0)⟩,j5⟩,j0,j1⟩<|za ?_
      obtain rfl:=sm h
      exact ⟨_,j0,[.old 0,.dead,.dead,.old 1,.old 2],z8 j5,j0,⟨⟨_,j0,zg (zQ j0 (by exact ⟨.msl j0,.msl j0,ci j0,j5⟩))⟩,⟨_,j0,zd (fun _=>j0)⟩,⟨_,j0,zd (fun _=>j0)⟩,j5⟩,j0,j1⟩
     ·
      replace h:=bF B h
      refine rg j0<|u<|eql ti3 j0 j0<|u<|asg j0<|za ?_
      refine zh j0 (fun C=>?_) (fun C=>?_)
      ·
       replace h:=bT C h
       obtain ⟨m,q19,h⟩:=bs h
       refine rg j0<|u<|mv j0<|u<|sc [0,1,2] (zX f i j l a p o q19) j0 j0 j0 j0 ⟨(.mpt j0),j5⟩ ⟨⟨_,j0,(zcH j0 ⟨(.msl j0),(.msl j0),(rnI j0),j5⟩)⟩,⟨j0,mkI (fun _=>j0)⟩,⟨j0,mkI (fun _=>j0)⟩,j5⟩<|zB (env0:=[(0,.mpt 0 0 0),(90,sA m.1)]) (st0:=[some (15,[(vK f i j l (.msl 1 0 (List.length a)) (.msl 2 0 (List.length m.2.1)) (bA m.2.2))]),some (1,List.map zi a),some (1,List.map zi m.2.1)]) ⟨[.old 0,.old 1,.old 2],cv j0 (.mpt j0)<|ce j0 j0<|cn,j0,⟨⟨_,j0,zg (zQ j0 (by exact ⟨.msl j0,.msl j0,ci j0,j5⟩))⟩,⟨_,j0,zd (fun _=>j0)⟩,⟨_,j0,zd (fun _=>j0)⟩,j5⟩,j0,j1⟩<|u<|asg j0<|za ?_
       obtain ⟨K,q20,h⟩:=bs h
       refine rg j0<|u<|mv j0<|u<|mv j0<|u<|sc [0,1,2] (zr f i j l a m.2.1 m.2.2 m.1 q20) j0 j0 j0 j0 ⟨(.mpt j0),(rnI j0),j5⟩ ⟨⟨_,j0,(zcH j0 ⟨(.msl j0),(.msl j0),(rnI j0),j5⟩)⟩,⟨j0,mkI (fun _=>j0)⟩,⟨j0,mkI (fun _=>j0)⟩,j5⟩<|zB (env0:=[(0,.mpt 0 0 0),(5,sA m.1)]) (st0:=[some (15,[(vK f i j l (.msl 1 0 (List.length a)) (.msl 3 0 (List.length K)) (bA m.2.2))]),some (1,List.map zi a),none,some (1,List.map zi K)]) ⟨[.old 0,.old 1,.dead,.old 3],cv j0 (.mpt j0)<|ce j0 j0<|cn,j0,⟨⟨_,j0,zg (zQ j0 (by exact ⟨.msl j0,.msl j0,ci j0,j5⟩))⟩,⟨_,j0,zd (fun _=>j0)⟩,⟨_,j0,zd (fun _=>j0)⟩,j5⟩,j0,j1⟩<|za ?_
       obtain ⟨Q,q21,h⟩:=bs h
       refine rl j0<|u<|mv j0<|u<|mv j0<|u<|sc [0,1,3] (zr f i j l a K m.2.2 m.1 q21) j0 j0 j0 j0 ⟨(.mpt j0),(rnI j0),j5⟩ ⟨⟨_,j0,(zcH j0 ⟨(.msl j0),(.msl j0),(rnI j0),j5⟩)⟩,⟨j0,mkI (fun _=>j0)⟩,⟨j0,mkI (fun _=>j0)⟩,j5⟩<|zB (env0:=[]) (st0:=[some (15,[(vK f i j l (.msl 1 0 (List.length a)) (.msl 3 0 (List.length Q)) (bA m.2.2))]),some (1,List.map zi a),none,some (1,List.map zi Q)]) ⟨[.old 0,.old 1,.dead,.old 4],cn,j0,⟨⟨_,j0,zg (zQ j0 (by exact ⟨.msl j0,.msl j0,ci j0,j5⟩))⟩,⟨_,j0,zd (fun _=>j0)⟩,⟨_,j0,zd (fun _=>j0)⟩,j5⟩,j0,j1⟩<|za ?_
       obtain rfl:=sm h
       exact ⟨_,j0,[.old 0,.dead,.dead,.old 1,.old 3],z8 j5,j0,⟨⟨_,j0,zg (zQ j0 (by exact ⟨.msl j0,.msl j0,ci j0,j5⟩))⟩,⟨_,j0,zd (fun _=>j0)⟩,⟨_,j0,zd (fun _=>j0)⟩,j5⟩,j0,j1⟩
      ·
       replace h:=bF C h
       refine rg j0<|u<|eql ti3 j0 j0<|u<|asg j0<|za ?_
       refine zh j0 (fun D=>?_) (fun D=>?_)
       ·
        replace h:=bT D h
        obtain ⟨q,q23,h⟩:=bs h
        obtain ⟨n,q24,h⟩:=bs h
        refine rg j0<|u<|mv j0<|u<|sc [0,1,2] (zX f i j l a p o q23) j0 j0 j0 j0 ⟨(.mpt j0),j5⟩ ⟨⟨_,j0,(zcH j0 ⟨(.msl j0),(.msl j0),(rnI j0),j5⟩)⟩,⟨j0,mkI (fun _=>j0)⟩,⟨j0,mkI (fun _=>j0)⟩,j5⟩<|zB (env0:=[(0,.mpt 0 0 0),(100,sA q.1)]) (st0:=[some (15,[(vK f i j l (.msl 1 0 (List.length a)) (.msl 2 0 (List.length q.2.1)) (bA q.2.2))]),some (1,List.map zi a),some (1,List.map zi q.2.1)]) ⟨[.old 0,.old 1,.old 2],cv j0 (.mpt j0)<|ce j0 j0<|cn,j0,⟨⟨_,j0,zg (zQ j0 (by exact ⟨.msl j0,.msl j0,ci j0,j5⟩))⟩,⟨_,j0,zd (fun _=>j0)⟩,⟨_,j0,zd (fun _=>j0)⟩,j5⟩,j0,j1⟩<|u<|mv j0<|u<|sc [0,1,2] (zX f i j l a q.2.1 q.2.2 q24) j0 j0 j0 j0 ⟨(.mpt j0),j5⟩ ⟨⟨_,j0,(zcH j0 ⟨(.msl j0),(.msl j0),(rnI j0),j5⟩)⟩,⟨j0,mkI (fun _=>j0)⟩,⟨j0,mkI (fun _=>j0)⟩,j5⟩<|zB (env0:=[(0,.mpt 0 0 0),(100,sA q.1),(102,sA n.1)]) (st0:=[some (15,[(vK f i j l (.msl 1 0 (List.length a)) (.msl 2 0 (List.length n.2.1)) (bA n.2.2))]),some (1,List.map zi a),some (1,List.map zi n.2.1)]) ⟨[.old 0,.old 1,.old 2],cv j0 (.mpt j0)<|ce j0 j0<|ce j0 j0<|cn,j0,⟨⟨_,j0,zg (zQ j0 (by exact ⟨.msl j0,.msl j0,ci j0,j5⟩))⟩,⟨_,j0,zd (fun _=>j0)⟩,⟨_,j0,zd (fun _=>j0)⟩,j5⟩,j0,j1⟩<|u<|asg j0<|u<|asg j0<|za ?_
        obtain ⟨L,q25,h⟩:=bs h
        refine rg j0<|u<|mv j0<|u<|mv j0<|u<|sc [0,1,2] (zr f i j l a n.2.1 n.2.2 q.1 q25) j0 j0 j0 j0 ⟨(.mpt j0),(rnI j0),j5⟩ ⟨⟨_,j0,(zcH j0 ⟨(.msl j0),(.msl j0),(rnI j0),j5⟩)⟩,⟨j0,mkI (fun _=>j0)⟩,⟨j0,mkI (fun _=>j0)⟩,j5⟩<|zB (env0:=[(0,.mpt 0 0 0),(7,sA n.1)]) (st0:=[some (15,[(vK f i j l (.msl 1 0 (List.length a)) (.msl 3 0 (List.length L)) (bA n.2.2))]),some (1,List.map zi a),none,some (1,List.map zi L)]) ⟨[.old 0,.old 1,.dead,.old 3],cv j0 (.mpt j0)<|ce j0 j0<|cn,j0,⟨⟨_,j0,zg (zQ j0 (by exact ⟨.msl j0,.msl j0,ci j0,j5⟩))⟩,⟨_,j0,zd (fun _=>j0)⟩,⟨_,j0,zd (fun _=>j0)⟩,j5⟩,j0,j1⟩<|za ?_
        obtain ⟨R,q26,h⟩:=bs h
        refine rl j0<|u<|mv j0<|u<|mv j0<|u<|sc [0,1,3] (zr f i j l a L n.2.2 n.1 q26) j0 j0 j0 j0 ⟨(.mpt j0),(rnI j0),j5⟩ ⟨⟨_,j0,(zcH j0 ⟨(.msl j0),(.msl j0),(rnI j0),j5⟩)⟩,⟨j0,mkI (fun _=>j0)⟩,⟨j0,mkI (fun _=>j0)⟩,j5⟩<|zB (env0:=[]) (st0:=[some (15,[(vK f i j l (.msl 1 0 (List.length a)) (.msl 3 0 (List.length R)) (bA n.2.2))]),some (1,List.map zi a),none,some (1,List.map zi R)]) ⟨[.old 0,.old 1,.dead,.old 4],cn,j0,⟨⟨_,j0,zg (zQ j0 (by exact ⟨.msl j0,.msl j0,ci j0,j5⟩))⟩,⟨_,j0,zd (fun _=>j0)⟩,⟨_,j0,zd (fun _=>j0)⟩,j5⟩,j0,j1⟩<|za ?_
        obtain rfl:=sm h
        exact ⟨_,j0,[.old 0,.dead,.dead,.old 1,.old 3],z8 j5,j0,⟨⟨_,j0,zg (zQ j0 (by exact ⟨.msl j0,.msl j0,ci j0,j5⟩))⟩,⟨_,j0,zd (fun _=>j0)⟩,⟨_,j0,zd (fun _=>j0)⟩,j5⟩,j0,j1⟩
       ·
        replace h:=bF D h
        refine zk ?_
        obtain rfl:=sm h
        exact ⟨_,j0,[.old 0,.dead,.dead,.old 1,.old 2],z8 j5,j0,⟨⟨_,j0,zg (zQ j0 (by exact ⟨.msl j0,.msl j0,ci j0,j5⟩))⟩,⟨_,j0,zd (fun _=>j0)⟩,⟨_,j0,zd (fun _=>j0)⟩,j5⟩,j0,j1⟩
def zd3 (a:List (List UInt8)) (b:Bool):Option ((List (List UInt8))×Bool) :=
  some (a,b)
def zd4 (e:List zc) (f:List (List UInt8×Int)) (l:List UInt8) (m:ze) (n:List (List UInt8)) (o:List (List UInt8)) (c:List (List UInt8)) (d:Bool) (a:Int):Option (Sum ((List (List UInt8))×Bool×Int) (Sum ((List (List UInt8))×Bool) ((List (List UInt8))×Bool))) :=
  cond (decide (0≤a)) ((idx o a).bind fun i=>(z2 e f l m n c d).bind fun b=>(zeJ e f b.1 i).bind fun j=>some (.inl (b.2.1,(b.2.2||(!j)),(IntKind.i64.wrap (a - 1))))) (some (.inr (.inl (c,d))))
def zx (c:List zc) (d:List (List UInt8×Int)) (e:List UInt8) (f:ze) (i:List (List UInt8)) (j:List (List UInt8)) (l:Bool) (a:List (List UInt8)):Option ((List (List UInt8))×Bool) :=
  (zab (fun z=>zd4 c d e f i a z.1 z.2.1 z.2.2) (j,l,(IntKind.i64.wrap ((List.length a:Int) - 1)))).bind fun o=>zaJ o (fun b=>zd3 b.1 b.2) some
theorem zt (d:List zc) (e:List (List UInt8×Int)) (f:List UInt8) (i:ze) (a:List (List UInt8)) (C:List (List UInt8)) (D:Bool) (j:List (List UInt8)) {r:(List (List UInt8))×Bool} (h:zx d e f i a C D j=some r):SC Tryz.prog 280 [.mpt 0 0 0,.isl 1 (List.map zi j)] [.one 15 (vK d e f i (.msl 1 0 (List.length a)) (.msl 2 0 (List.length C)) (bA D)),.many 1 (List.map zi a),.many 1 (List.map zi C)] (.tup []) [.one 15 (vK d e f i (.msl 1 0 (List.length a)) (.msl 2 0 (List.length r.1)) (bA r.2)),.many 1 (List.map zi a),.many 1 (List.map zi r.1)]:=by
 refine ⟨⟨j5,zeU (sz:=1) (fun _=>j0),zeU (sz:=1) (fun _=>j0),j5⟩,zad Tryz.func280 j0 (by kernel_rfl) j0 ?_⟩
 unfold zx at h
 refine rg j0<|u<|mv j0<|u<|lnI zM j0 j0<|u<|sub ti3 j0 j0<|u<|asg j0<|za ?_
 obtain ⟨o,ho,h⟩:=bs h
 refine zT (X:=(List (List UInt8))×Bool×Int) (B:=(List (List UInt8))×Bool) (R:=(List (List UInt8))×Bool) (fun z=>[(0,.mpt 0 0 0),(1,.isl 1 (List.map zi j)),(4,iA z.2.2)]) (fun z=>[some (15,[(vK d e f i (.msl 1 0 (List.length a)) (.msl 2 0 (List.length z.1)) (bA z.2.1))]),some (1,List.map zi a),some (1,List.map zi z.1)]) (fun b=>[]) (fun b=>[some (15,[(vK d e f i (.msl 1 0 (List.length a)) (.msl 2 0 (List.length b.1)) (bA b.2))]),some (1,List.map zi a),some (1,List.map zi b.1)]) (fun r env st=>zaC Tryz.prog Tryz.f280 3 (.tup []) [some (15,[(vK d e f i (.msl 1 0 (List.length a)) (.msl 2 0 (List.length r.1)) (bA r.2))]),some (1,List.map zi a),some (1,List.map zi r.1)] env st) ho ⟨[.old 0,.old 1,.old 2],cv j0 (.mpt j0)<|ce j0 j0<|ce j0 j0<|cn,j0,⟨⟨_,j0,zg (zQ j0 (by exact ⟨.msl j0,.msl j0,ci j0,j5⟩))⟩,⟨_,j0,zd (fun _=>j0)⟩,⟨_,j0,zd (fun _=>j0)⟩,j5⟩,j0,j1⟩ ?_ ?_ ?_
 ·
  rintro ⟨q,s,l⟩ r h
  replace h:zd4 d e f i a j q s l=some r:=h
  unfold zd4 at h
  refine zl ?_
  refine rg j0<|u<|mv j0<|u<|geq ti3 j0 j0<|za ?_
  refine zh j0 (fun n=>?_) (fun n=>?_)
  ·
   replace h:=bT n h
   refine zk ?_
   refine zl ?_
   refine zq ?_
   obtain ⟨v,m,h⟩:=bs h
   obtain ⟨c,G,h⟩:=bs h
   obtain ⟨p,H,h⟩:=bs h
   refine rdL [(0,.mpt 0 0 0),(1,.isl 1 (List.map zi j)),(4,iA l)] [some (15,[(vK d e f i (.msl 1 0 (List.length a)) (.msl 2 0 (List.length c.2.1)) (bA (c.2.2||(!p))))]),some (1,List.map zi a),some (1,List.map zi c.2.1)] [6,12] [10,9,8,7,5,4,3,2,1,0] [(22,sA v),(21,.ipt 1 (List.map zi j) (Int.toNat l) 0),(20,iA l),(19,.isl 1 (List.map zi j)),(17,.mpt 0 0 0),(16,.ipt 2 [[.isl 6 (List.map zb d),.imp (List.map (rKV (fun x=>iA x)) e)]] 0 0),(15,.mpt 0 0 0),(14,.mpt 0 0 0),(13,.mpt 0 0 0),(12,.mpt 0 0 0)] 2 (by kernel_rfl) (by kernel_rfl) j0 (by kernel_rfl) (dtS ⟨(fun _=>pa j0 j0 j0 j0 (ldI ti9 j0 (zp m).2.2 j0<|j4)),(fun _=>pa j0 j0 j0 j0 (ixI zM j0 ti9 j0 j0 j0 m<|j4)),(fun _=>pa j0 j0 j0 j0 (mv j0<|j4)),(fun _=>pa j0 j0 j0 j0 (mv j0<|j4)),(fun _=>pa j0 j0 j0 j0 (mv j0<|j4)),(fun _=>pa j0 j0 j0 j0 (ld zez j0 j0<|j4)),(fun _=>pa j0 j0 j0 j0 (fa zS j0 j0 j0<|j4)),(fun _=>pa j0 j0 j0 j0 (nc j0 j0<|j4)),(fun _=>pa j0 j0 j0 j0 (mv j0<|j4)),(fun _=>pa j0 j0 j0 j0 (mv j0<|j4)),j5⟩ (by kernel_rfl) j0 ⟨(fun _ _=>⟨_,j0,j0,sc [0,1,2] (zX d e f i a q s G) j0 j0 j0 j0 ⟨(.mpt j0),j5⟩ ⟨⟨_,j0,(zcH j0 ⟨(.msl j0),(.msl j0),(rnI j0),j5⟩)⟩,⟨j0,mkI (fun _=>j0)⟩,⟨j0,mkI (fun _=>j0)⟩,j5⟩<|⟨(sA c.1),[11],[(23,bA p),(18,sA c.1)],j0,j0,by kernel_rfl,j0,dtS ⟨(fun _=>pa j0 j0 j0 j0 (pc (zZ d e c.1 v H) j0 j0 j0<|j4)),(fun _=>pa j0 j0 j0 j0 (ldI ti9 j0 (zp m).2.2 j0<|j4)),(fun _=>pa j0 j0 j0 j0 (ixI zM j0 ti9 j0 j0 j0 m<|j4)),(fun _=>pa j0 j0 j0 j0 (mv j0<|j4)),(fun _=>pa j0 j0 j0 j0 (mv j0<|j4)),(fun h=>by cases h),(fun _=>pa j0 j0 j0 j0 (ld zez j0 j0<|j4)),(fun _=>pa j0 j0 j0 j0 (fa zS j0 j0 j0<|j4)),(fun _=>pa j0 j0 j0 j0 (nc j0 j0<|j4)),(fun _=>pa j0 j0 j0 j0 (mv j0<|j4)),(fun _=>pa j0 j0 j0 j0 (mv j0<|j4)),j5⟩ (by kernel_rfl) j0 ⟨(fun h=>by cases h),(fun _ _=>⟨_,j0,j0,sc [0,1,2] (zo d e f i a c.2.1 c.2.2 p j0) j0 j0 j0 j0 ⟨(.mpt j0),(rnI j0),j5⟩ ⟨⟨_,j0,(zcH j0 ⟨(.msl j0),(.msl j0),(rnI j0),j5⟩)⟩,⟨j0,mkI (fun _=>j0)⟩,⟨j0,mkI (fun _=>j0)⟩,j5⟩<|⟨(.tup []),[],[(24,.tup [])],j0,j0,by kernel_rfl,j0,dt0 ⟨(fun h=>by cases h),(fun _=>pa j0 j0 j0 j0 (ldI ti9 j0 (zp m).2.2 j0<|j4)),(fun _=>pa j0 j0 j0 j0 (ixI zM j0 ti9 j0 j0 j0 m<|j4)),(fun _=>pa j0 j0 j0 j0 (mv j0<|j4)),(fun _=>pa j0 j0 j0 j0 (mv j0<|j4)),(fun h=>by cases h),(fun _=>pa j0 j0 j0 j0 (ld zez j0 j0<|j4)),(fun _=>pa j0 j0 j0 j0 (fa zS j0 j0 j0<|j4)),(fun _=>pa j0 j0 j0 j0 (nc j0 j0<|j4)),(fun _=>pa j0 j0 j0 j0 (mv j0<|j4)),(fun h=>by cases h),j5⟩ (by kernel_rfl) j0 ⟨[.old 0,.old 1,.old 2],cv j0 (.mpt j0)<|ce j0 j0<|ce j0 j0<|cn,j0,⟨⟨_,j0,zg (zQ j0 (by exact ⟨.msl j0,.msl j0,ci j0,j5⟩))⟩,⟨_,j0,zd (fun _=>j0)⟩,⟨_,j0,zd (fun _=>j0)⟩,j5⟩,j0,j1⟩⟩⟩),j5⟩⟩⟩),(fun _ h=>by cases h),j5⟩) ?_
   refine rl j0<|u<|mv j0<|u<|sub ti3 j0 j0<|u<|asg j0<|za ?_
   obtain rfl:=sm h
   exact ⟨_,j0,[.old 0,.old 1,.old 2],cv j0 (.mpt j0)<|ce j0 j0<|ce j0 j0<|cn,j0,⟨⟨_,j0,zg (zQ j0 (by exact ⟨.msl j0,.msl j0,ci j0,j5⟩))⟩,⟨_,j0,zd (fun _=>j0)⟩,⟨_,j0,zd (fun _=>j0)⟩,j5⟩,j0,j1⟩
  ·
   replace h:=bF n h
   refine zz ?_
   obtain rfl:=sm h
   exact ⟨j0,_,j0,[.old 0,.old 1,.old 2],cn,j0,⟨⟨_,j0,zg (zQ j0 (by exact ⟨.msl j0,.msl j0,ci j0,j5⟩))⟩,⟨_,j0,zd (fun _=>j0)⟩,⟨_,j0,zd (fun _=>j0)⟩,j5⟩,j0,j1⟩
 ·
  rintro ⟨E,F⟩ rfl
  replace h:zd3 E F=some r:=h
  unfold zd3 at h
  refine zv ?_
  obtain rfl:=sm h
  exact ⟨_,j0,[.old 0,.old 1,.old 2],z8 j5,j0,⟨⟨_,j0,zg (zQ j0 (by exact ⟨.msl j0,.msl j0,ci j0,j5⟩))⟩,⟨_,j0,zd (fun _=>j0)⟩,⟨_,j0,zd (fun _=>j0)⟩,j5⟩,j0,j1⟩
 ·
  rintro r' rfl env st hp
  obtain rfl:=sm h
  exact hp
def zb3 (c:List zc) (d:List (List UInt8×Int)) (e:List UInt8) (f:ze) (i:List (List UInt8)) (j:List (List UInt8)) (l:Bool):Option ((List UInt8)×(List (List UInt8))×Bool) :=
  (z2 c d e f i j l).bind fun a=>(cond (a.1 == [78]) (some true) ((zjf a.1).bind fun m=>some m)).bind fun b=>some (a.1,a.2.1,(a.2.2||(!b)))
theorem zcs (c:List zc) (d:List (List UInt8×Int)) (e:List UInt8) (f:ze) (a:List (List UInt8)) (n:List (List UInt8)) (o:Bool) {r:(List UInt8)×(List (List UInt8))×Bool} (h:zb3 c d e f a n o=some r):SC Tryz.prog 282 [.mpt 0 0 0] [.one 15 (vK c d e f (.msl 1 0 (List.length a)) (.msl 2 0 (List.length n)) (bA o)),.many 1 (List.map zi a),.many 1 (List.map zi n)] (sA r.1) [.one 15 (vK c d e f (.msl 1 0 (List.length a)) (.msl 2 0 (List.length r.2.1)) (bA r.2.2)),.many 1 (List.map zi a),.many 1 (List.map zi r.2.1)]:=by
 refine ⟨⟨j5,zeU (sz:=1) (fun _=>j0),zeU (sz:=1) (fun _=>j0),j5⟩,zad Tryz.func282 j0 (by kernel_rfl) j0 ?_⟩
 unfold zb3 at h
 refine rg j0<|u<|asg j0<|za ?_
 obtain ⟨b,p,h⟩:=bs h
 refine rg j0<|u<|mv j0<|u<|sc [0,1,2] (zX c d e f a n o p) j0 j0 j0 j0 ⟨(.mpt j0),j5⟩ ⟨⟨_,j0,(zcH j0 ⟨(.msl j0),(.msl j0),(rnI j0),j5⟩)⟩,⟨j0,mkI (fun _=>j0)⟩,⟨j0,mkI (fun _=>j0)⟩,j5⟩<|zB (env0:=[(0,.mpt 0 0 0),(5,sA b.1)]) (st0:=[some (15,[(vK c d e f (.msl 1 0 (List.length a)) (.msl 2 0 (List.length b.2.1)) (bA b.2.2))]),some (1,List.map zi a),some (1,List.map zi b.2.1)]) ⟨[.old 0,.old 1,.old 2],cv j0 (.mpt j0)<|ce j0 j0<|cn,j0,⟨⟨_,j0,zg (zQ j0 (by exact ⟨.msl j0,.msl j0,ci j0,j5⟩))⟩,⟨_,j0,zd (fun _=>j0)⟩,⟨_,j0,zd (fun _=>j0)⟩,j5⟩,j0,j1⟩<|u<|asg j0<|za ?_
 obtain ⟨l,i,h⟩:=bs h
 refine rg j0<|u<|mv j0<|u<|mv j0<|u<|seq ti9 j0 j0<|u<|mv j0<|zfo (x:=l) (j:=3) 2 j0 j0 j0 j0 j0 gpn (fun m=>by replace i:=bF m i; obtain ⟨s,q,i⟩:=bs i; obtain rfl:=sm i; exact g j0 m<|mv j0<|g j0 m<|pc (zh9 b.1 q) j0 j0 j0<|za (eg [10,11] 2 j0 j0 j0 j0)) (fun hb=>(sm (bT hb i)).symm)<|u<|sc [0,1,2] (zo c d e f a b.2.1 b.2.2 l j0) j0 j0 j0 j0 ⟨(.mpt j0),(rnI j0),j5⟩ ⟨⟨_,j0,(zcH j0 ⟨(.msl j0),(.msl j0),(rnI j0),j5⟩)⟩,⟨j0,mkI (fun _=>j0)⟩,⟨j0,mkI (fun _=>j0)⟩,j5⟩<|zB (env0:=[(3,sA b.1)]) (st0:=[some (15,[(vK c d e f (.msl 1 0 (List.length a)) (.msl 2 0 (List.length b.2.1)) (bA (b.2.2||(!l))))]),some (1,List.map zi a),some (1,List.map zi b.2.1)]) ⟨[.old 0,.old 1,.old 2],ce j0 j0<|cn,j0,⟨⟨_,j0,zg (zQ j0 (by exact ⟨.msl j0,.msl j0,ci j0,j5⟩))⟩,⟨_,j0,zd (fun _=>j0)⟩,⟨_,j0,zd (fun _=>j0)⟩,j5⟩,j0,j1⟩<|za ?_
 refine rg j0<|u<|mv j0<|u<|asg j0<|za ?_
 refine zj ?_
 obtain rfl:=sm h
 exact ⟨_,j0,[.old 0,.old 1,.old 2],ci j0,j0,⟨⟨_,j0,zg (zQ j0 (by exact ⟨.msl j0,.msl j0,ci j0,j5⟩))⟩,⟨_,j0,zd (fun _=>j0)⟩,⟨_,j0,zd (fun _=>j0)⟩,j5⟩,j0,j1⟩
end
end Go.Proofs.YthmnlfenkhmmhaaGreat
namespace Go.Proofs.YthmnlfenkhmmhaaGreat
noncomputable section
set_option linter.unusedSimpArgs false
set_option linter.unusedVariables false
set_option maxRecDepth 100000
set_option maxHeartbeats 4000000
def zeR (c:List zc) (d:List (List UInt8×Int)) (f:List UInt8) (i:ze) (j:List (List UInt8)) (l:List (List UInt8)) (e:Bool) (b:zA):Option ((List (List UInt8))×Bool) :=
  cond (b.Op == (37:Int)) ((zE c d b.C).bind fun n=>(zs c d f i j l (e||(!(n.2&&(!n.1.Interface)))) b.C).bind fun q=>some (q,(e||(!(n.2&&(!n.1.Interface)))))) ((zgD c d b.C b.M).bind fun a=>cond (b.Op == (38:Int)) ((zx c d f i j l (e||(!(a.2.2&&(a.2.1.Static == ((b.Op == (40:Int))||(b.Op == (41:Int))))))) [b.C]).bind fun m=>(zs c d f i j m.1 m.2 a.2.1.Type_).bind fun s=>some (s,m.2)) (cond (b.Op == (39:Int)) ((zx c d f i j l (e||(!(a.2.2&&(a.2.1.Static == ((b.Op == (40:Int))||(b.Op == (41:Int))))))) [b.C,a.2.1.Type_]).bind fun o=>some (o.1,o.2)) (cond (b.Op == (40:Int)) ((zs c d f i j l (e||(!(a.2.2&&(a.2.1.Static == ((b.Op == (40:Int))||(b.Op == (41:Int))))))) a.2.1.Type_).bind fun v=>some (v,(e||(!(a.2.2&&(a.2.1.Static == ((b.Op == (40:Int))||(b.Op == (41:Int))))))))) ((zx c d f i j l (e||(!(a.2.2&&(a.2.1.Static == ((b.Op == (40:Int))||(b.Op == (41:Int))))))) [a.2.1.Type_]).bind fun p=>some (p.1,p.2)))))
theorem zii (d:List zc) (e:List (List UInt8×Int)) (f:List UInt8) (i:ze) (c:List (List UInt8)) (l:List (List UInt8)) (m:Bool) (b:zA) {r:(List (List UInt8))×Bool} (h:zeR d e f i c l m b=some r):SC Tryz.prog 283 [.mpt 0 0 0,.agg (zw b)] [.one 15 (vK d e f i (.msl 1 0 (List.length c)) (.msl 2 0 (List.length l)) (bA m)),.many 1 (List.map zi c),.many 1 (List.map zi l)] (.tup []) [.one 15 (vK d e f i (.msl 1 0 (List.length c)) (.msl 3 0 (List.length r.1)) (bA r.2)),.many 1 (List.map zi c),.no,.many 1 (List.map zi r.1)]:=by
 refine ⟨⟨j5,zeU (sz:=1) (fun _=>j0),j5,zeU (sz:=1) (fun _=>j0),j5⟩,zad Tryz.func283 j0 (by kernel_rfl) j0 ?_⟩
 unfold zeR at h
 refine rg j0<|u<|bx 3 4 j0 j0 j0 j0<|za ?_
 refine zl ?_
 refine rg j0<|u<|fa zcI j0 j0 j0<|u<|ld ti3 j0 j0<|u<|eql ti3 j0 j0<|za ?_
 refine zh j0 (fun D=>?_) (fun D=>?_)
 ·
  replace h:=bT D h
  obtain ⟨n,K,h⟩:=bs h
  refine rd [(0,.mpt 0 0 0),(3,.mpt 3 0 0),(4,.mpt 4 0 0),(5,bA n.2)] [some (15,[(vK d e f i (.msl 1 0 (List.length c)) (.msl 2 0 (List.length l)) (bA m))]),some (1,List.map zi c),some (1,List.map zi l),some (4,[(zw b)]),some (6,[(zb n.1)])] [10,11] [9,8,7,6,5,4,3,2,1,0] [(21,bA n.2),(20,.agg (zb n.1)),(12,.tup [.agg (zb n.1),bA n.2]),(19,.tup [.agg (zb n.1),bA n.2]),(18,sA b.C),(17,.mpt 3 0 2),(16,.ipt 2 [[.isl 6 (List.map zb d),.imp (List.map (rKV (fun x=>iA x)) e)]] 0 0),(15,.mpt 0 0 0),(14,.mpt 0 0 0),(13,.mpt 0 0 0)] 2 (by kernel_rfl) (by kernel_rfl) j0 (by kernel_rfl) (dtS ⟨(fun _=>pa j0 j0 j0 j0 (ex j0 j0<|j4)),(fun _=>pa j0 j0 j0 j0 (ex j0 j0<|j4)),(fun _=>pa j0 j0 j0 j0 (mv j0<|j4)),(fun _=>pa j0 j0 j0 j0 (pc (zy d e b.C K) j0 j0 j0<|j4)),(fun _=>pa j0 j0 j0 j0 (ld ti9 j0 j0<|j4)),(fun _=>pa j0 j0 j0 j0 (fa zcI j0 j0 j0<|j4)),(fun _=>pa j0 j0 j0 j0 (ld zez j0 j0<|j4)),(fun _=>pa j0 j0 j0 j0 (fa zS j0 j0 j0<|j4)),(fun _=>pa j0 j0 j0 j0 (nc j0 j0<|j4)),(fun _=>pa j0 j0 j0 j0 (mv j0<|j4)),j5⟩ (by kernel_rfl) j0 ⟨(fun _ _=>⟨_,j0,j0,al 4 zaf j0<|⟨(.mpt 4 0 0),[],[(4,.mpt 4 0 0)],j0,j0,by kernel_rfl,j0,dtS ⟨(fun _=>pa j0 j0 j0 j0 (ex j0 j0<|j4)),(fun _=>pa j0 j0 j0 j0 (ex j0 j0<|j4)),(fun _=>pa j0 j0 j0 j0 (mv j0<|j4)),(fun _=>pa j0 j0 j0 j0 (pc (zy d e b.C K) j0 j0 j0<|j4)),(fun _=>pa j0 j0 j0 j0 (ld ti9 j0 j0<|j4)),(fun _=>pa j0 j0 j0 j0 (fa zcI j0 j0 j0<|j4)),(fun _=>pa j0 j0 j0 j0 (ld zez j0 j0<|j4)),(fun _=>pa j0 j0 j0 j0 (fa zS j0 j0 j0<|j4)),(fun _=>pa j0 j0 j0 j0 (nc j0 j0<|j4)),(fun _=>pa j0 j0 j0 j0 (mv j0<|j4)),j5⟩ (by kernel_rfl) j0 ⟨(fun h=>by cases h),(fun _ _=>⟨_,j0,j0,sto zaf j0 j0 j0<|⟨.any,[12],[(5,bA n.2)],j0,j0,by kernel_rfl,j5,dt0 ⟨(fun _=>pa j0 j0 j0 j0 (asg j0<|j4)),(fun _=>pa j0 j0 j0 j0 (ex j0 j0<|j4)),(fun h=>by cases h),(fun h=>by cases h),(fun h=>by cases h),(fun h=>by cases h),(fun h=>by cases h),(fun h=>by cases h),(fun h=>by cases h),(fun h=>by cases h),(fun h=>by cases h),j5⟩ (by kernel_rfl) j0 ⟨[.old 0,.old 1,.old 2,.old 3,.old 4],cv j0 (.mpt j0)<|cv j0 (.mpt j0)<|cv j0 (.mpt j0)<|ce j0 j0<|cn,j0,⟨⟨_,j0,zg (zQ j0 (by exact ⟨.msl j0,.msl j0,ci j0,j5⟩))⟩,⟨_,j0,zd (fun _=>j0)⟩,⟨_,j0,zd (fun _=>j0)⟩,⟨_,j0,zg (ciL j0)⟩,⟨_,j0,zg (ciL j0)⟩,j5⟩,j0,j1⟩⟩⟩),j5⟩⟩⟩),(fun _ h=>by cases h),j5⟩) ?_
  refine rg j0<|u<|mv j0<|u<|mv j0<|u<|mv j0<|za7 (j:=2) 3 j0 j0 j0 j0 j0 gpn (fun v=>g j0 v<|fa zaf j0 j0 j0<|g j0 v<|ld ti4 j0 j0<|g j0 v<|nt j0<|za (egA [25,26,27] 3 v j0 j0 j0 j0)) ziy<|u<|sc [0,1,2] (zo d e f i c l m (n.2&&(!n.1.Interface)) j0) j0 j0 j0 j0 ⟨(.mpt j0),(rnI j0),j5⟩ ⟨⟨_,j0,(zcH j0 ⟨(.msl j0),(.msl j0),(rnI j0),j5⟩)⟩,⟨j0,mkI (fun _=>j0)⟩,⟨j0,mkI (fun _=>j0)⟩,j5⟩<|zB (env0:=[(0,.mpt 0 0 0),(3,.mpt 3 0 0)]) (st0:=[some (15,[(vK d e f i (.msl 1 0 (List.length c)) (.msl 2 0 (List.length l)) (bA (m||(!(n.2&&(!n.1.Interface))))))]),some (1,List.map zi c),some (1,List.map zi l),some (4,[(zw b)])]) ⟨[.old 0,.old 1,.old 2,.old 3],cv j0 (.mpt j0)<|cv j0 (.mpt j0)<|cn,j0,⟨⟨_,j0,zg (zQ j0 (by exact ⟨.msl j0,.msl j0,ci j0,j5⟩))⟩,⟨_,j0,zd (fun _=>j0)⟩,⟨_,j0,zd (fun _=>j0)⟩,⟨_,j0,zg (ciL j0)⟩,j5⟩,j0,j1⟩<|za ?_
  obtain ⟨H,R,h⟩:=bs h
  refine rg j0<|u<|mv j0<|u<|fa zcI j0 j0 j0<|u<|ld ti9 j0 j0<|u<|sc [0,1,2] (zr d e f i c l (m||(!(n.2&&(!n.1.Interface)))) b.C R) j0 j0 j0 j0 ⟨(.mpt j0),(rnI j0),j5⟩ ⟨⟨_,j0,(zcH j0 ⟨(.msl j0),(.msl j0),(rnI j0),j5⟩)⟩,⟨j0,mkI (fun _=>j0)⟩,⟨j0,mkI (fun _=>j0)⟩,j5⟩<|zB (env0:=[]) (st0:=[some (15,[(vK d e f i (.msl 1 0 (List.length c)) (.msl 3 0 (List.length H)) (bA (m||(!(n.2&&(!n.1.Interface))))))]),some (1,List.map zi c),none,some (1,List.map zi H)]) ⟨[.old 0,.old 1,.dead,.old 4],cn,j0,⟨⟨_,j0,zg (zQ j0 (by exact ⟨.msl j0,.msl j0,ci j0,j5⟩))⟩,⟨_,j0,zd (fun _=>j0)⟩,⟨_,j0,zd (fun _=>j0)⟩,j5⟩,j0,j1⟩<|za ?_
  refine zj ?_
  obtain rfl:=sm h
  exact ⟨_,j0,[.old 0,.old 1,.dead,.old 3],z8 j5,j0,⟨⟨_,j0,zg (zQ j0 (by exact ⟨.msl j0,.msl j0,ci j0,j5⟩))⟩,⟨_,j0,zd (fun _=>j0)⟩,⟨_,j0,zd (fun _=>j0)⟩,j5⟩,j0,j1⟩
 ·
  replace h:=bF D h
  refine zk ?_
  obtain ⟨a,L,h⟩:=bs h
  refine rd [(0,.mpt 0 0 0),(3,.mpt 3 0 0),(7,.mpt 4 0 0),(8,bA a.2.2)] [some (15,[(vK d e f i (.msl 1 0 (List.length c)) (.msl 2 0 (List.length l)) (bA m))]),some (1,List.map zi c),some (1,List.map zi l),some (4,[(zw b)]),some (3,[(zH a.2.1)])] [13,15] [12,11,10,9,8,7,6,5,4,3,2,1,0] [(46,bA a.2.2),(45,.agg (zH a.2.1)),(44,sA a.1),(34,.tup [sA a.1,.agg (zH a.2.1),bA a.2.2]),(43,.tup [sA a.1,.agg (zH a.2.1),bA a.2.2]),(42,sA b.M),(41,.mpt 3 0 3),(40,sA b.C),(39,.mpt 3 0 2),(38,.ipt 2 [[.isl 6 (List.map zb d),.imp (List.map (rKV (fun x=>iA x)) e)]] 0 0),(37,.mpt 0 0 0),(36,.mpt 0 0 0),(35,.mpt 0 0 0)] 2 (by kernel_rfl) (by kernel_rfl) j0 (by kernel_rfl) (dtS ⟨(fun _=>pa j0 j0 j0 j0 (ex j0 j0<|j4)),(fun _=>pa j0 j0 j0 j0 (ex j0 j0<|j4)),(fun _=>pa j0 j0 j0 j0 (ex j0 j0<|j4)),(fun _=>pa j0 j0 j0 j0 (mv j0<|j4)),(fun _=>pa j0 j0 j0 j0 (pc (zgu d e b.C b.M L) j0 j0 j0<|j4)),(fun _=>pa j0 j0 j0 j0 (ld ti9 j0 j0<|j4)),(fun _=>pa j0 j0 j0 j0 (fa zcI j0 j0 j0<|j4)),(fun _=>pa j0 j0 j0 j0 (ld ti9 j0 j0<|j4)),(fun _=>pa j0 j0 j0 j0 (fa zcI j0 j0 j0<|j4)),(fun _=>pa j0 j0 j0 j0 (ld zez j0 j0<|j4)),(fun _=>pa j0 j0 j0 j0 (fa zS j0 j0 j0<|j4)),(fun _=>pa j0 j0 j0 j0 (nc j0 j0<|j4)),(fun _=>pa j0 j0 j0 j0 (mv j0<|j4)),j5⟩ (by kernel_rfl) j0 ⟨(fun _ _=>⟨_,j0,j0,al 4 zhG j0<|⟨(.mpt 4 0 0),[14],[(6,sA a.1),(7,.mpt 4 0 0)],j0,j0,by kernel_rfl,j0,dtS ⟨(fun _=>pa j0 j0 j0 j0 (asg j0<|j4)),(fun _=>pa j0 j0 j0 j0 (ex j0 j0<|j4)),(fun _=>pa j0 j0 j0 j0 (ex j0 j0<|j4)),(fun _=>pa j0 j0 j0 j0 (ex j0 j0<|j4)),(fun _=>pa j0 j0 j0 j0 (mv j0<|j4)),(fun _=>pa j0 j0 j0 j0 (pc (zgu d e b.C b.M L) j0 j0 j0<|j4)),(fun _=>pa j0 j0 j0 j0 (ld ti9 j0 j0<|j4)),(fun _=>pa j0 j0 j0 j0 (fa zcI j0 j0 j0<|j4)),(fun _=>pa j0 j0 j0 j0 (ld ti9 j0 j0<|j4)),(fun _=>pa j0 j0 j0 j0 (fa zcI j0 j0 j0<|j4)),(fun _=>pa j0 j0 j0 j0 (ld zez j0 j0<|j4)),(fun _=>pa j0 j0 j0 j0 (fa zS j0 j0 j0<|j4)),(fun _=>pa j0 j0 j0 j0 (nc j0 j0<|j4)),(fun _=>pa j0 j0 j0 j0 (mv j0<|j4)),j5⟩ (by kernel_rfl) j0 ⟨(fun h=>by cases h),(fun _ _=>⟨_,j0,j0,sto zhG j0 j0 j0<|⟨.any,[16],[(8,bA a.2.2)],j0,j0,by kernel_rfl,j5,dt0 ⟨(fun _=>pa j0 j0 j0 j0 (asg j0<|j4)),(fun h=>by cases h),(fun _=>pa j0 j0 j0 j0 (ex j0 j0<|j4)),(fun h=>by cases h),(fun h=>by cases h),(fun h=>by cases h),(fun h=>by cases h),(fun h=>by cases h),(fun h=>by cases h),(fun h=>by cases h),(fun h=>by cases h),(fun h=>by cases h),(fun h=>by cases h),(fun h=>by cases h),(fun h=>by cases h),j5⟩ (by kernel_rfl) j0 ⟨[.old 0,.old 1,.old 2,.old 3,.old 4],cv j0 (.mpt j0)<|cv j0 (.mpt j0)<|cv j0 (.mpt j0)<|ce j0 j0<|cn,j0,⟨⟨_,j0,zg (zQ j0 (by exact ⟨.msl j0,.msl j0,ci j0,j5⟩))⟩,⟨_,j0,zd (fun _=>j0)⟩,⟨_,j0,zd (fun _=>j0)⟩,⟨_,j0,zg (ciL j0)⟩,⟨_,j0,zg (ciL j0)⟩,j5⟩,j0,j1⟩⟩⟩),j5⟩⟩⟩),(fun _ h=>by cases h),j5⟩) ?_
  refine rg j0<|u<|mv j0<|u<|mv j0<|u<|mv j0<|za7 (j:=2) 11 j0 j0 j0 j0 j0 gpn (fun o=>g j0 o<|fa zhG j0 j0 j0<|g j0 o<|ld ti4 j0 j0<|g j0 o<|fa zcI j0 j0 j0<|g j0 o<|ld ti3 j0 j0<|g j0 o<|eql ti3 j0 j0<|g j0 o<|mv j0<|zfo (j:=8) 3 j0 j0 j0 j0 j0 (gps j0 j0 o) (fun B=>g j0 B<|fa zcI j0 j0 j0<|g j0 B<|ld ti3 j0 j0<|g j0 B<|eql ti3 j0 j0<|za (egO [56,57,58] 3 B j0 j0 j0 j0)) orT<|g j0 o<|beq ti4 j0 j0 j0<|za (egA [50,51,52,53,54,55,56,57,58,59,60] 8 o j0 j0 j0 j0)) ziy<|u<|sc [0,1,2] (zo d e f i c l m (a.2.2&&(a.2.1.Static == ((b.Op == (40:Int))||(b.Op == (41:Int))))) j0) j0 j0 j0 j0 ⟨(.mpt j0),(rnI j0),j5⟩ ⟨⟨_,j0,(zcH j0 ⟨(.msl j0),(.msl j0),(rnI j0),j5⟩)⟩,⟨j0,mkI (fun _=>j0)⟩,⟨j0,mkI (fun _=>j0)⟩,j5⟩<|zB (env0:=[(0,.mpt 0 0 0),(3,.mpt 3 0 0),(7,.mpt 4 0 0)]) (st0:=[some (15,[(vK d e f i (.msl 1 0 (List.length c)) (.msl 2 0 (List.length l)) (bA (m||(!(a.2.2&&(a.2.1.Static == ((b.Op == (40:Int))||(b.Op == (41:Int)))))))))]),some (1,List.map zi c),some (1,List.map zi l),some (4,[(zw b)]),some (3,[(zH a.2.1)])]) ⟨[.old 0,.old 1,.old 2,.old 3,.old 4],cv j0 (.mpt j0)<|cv j0 (.mpt j0)<|cv j0 (.mpt j0)<|cn,j0,⟨⟨_,j0,zg (zQ j0 (by exact ⟨.msl j0,.msl j0,ci j0,j5⟩))⟩,⟨_,j0,zd (fun _=>j0)⟩,⟨_,j0,zd (fun _=>j0)⟩,⟨_,j0,zg (ciL j0)⟩,⟨_,j0,zg (ciL j0)⟩,j5⟩,j0,j1⟩<|za ?_
  refine rg j0<|u<|fa zcI j0 j0 j0<|u<|ld ti3 j0 j0<|za ?_
  refine zq ?_
  refine rg j0<|u<|eql ti3 j0 j0<|u<|asg j0<|za ?_
  refine zh j0 (fun E=>?_) (fun E=>?_)
  ·
   replace h:=bT E h
   obtain ⟨p,S,h⟩:=bs h
   refine rg j0<|u<|mv j0<|u<|fa zcI j0 j0 j0<|u<|ld ti9 j0 j0<|u<|bl 5 zM j0 ti9 j0 (by decide) (by decide) j0 j0 j0<|zB (env0:=[(0,.mpt 0 0 0),(7,.mpt 3 0 0),(72,.mpt 0 0 0),(75,.isl 1 (List.map zi [b.C]))]) (st0:=[some (15,[(vK d e f i (.msl 1 0 (List.length c)) (.msl 2 0 (List.length l)) (bA (m||(!(a.2.2&&(a.2.1.Static == ((b.Op == (40:Int))||(b.Op == (41:Int)))))))))]),some (1,List.map zi c),some (1,List.map zi l),some (3,[(zH a.2.1)])]) ⟨[.old 0,.old 1,.old 2,.old 4],cv j0 (.mpt j0)<|cv j0 (.mpt j0)<|cv j0 (.mpt j0)<|cv j0 (zc1 j0 j0 ⟨⟨⟨ci j0,j5⟩,j0⟩,j5⟩)<|cn,j0,⟨⟨_,j0,zg (zQ j0 (by exact ⟨.msl j0,.msl j0,ci j0,j5⟩))⟩,⟨_,j0,zd (fun _=>j0)⟩,⟨_,j0,zd (fun _=>j0)⟩,⟨_,j0,zg (ciL j0)⟩,j5⟩,j0,j1⟩<|u<|sc [0,1,2] (zt d e f i c l (m||(!(a.2.2&&(a.2.1.Static == ((b.Op == (40:Int))||(b.Op == (41:Int))))))) [b.C] S) j0 j0 j0 j0 ⟨(.mpt j0),(rnI j0),j5⟩ ⟨⟨_,j0,(zcH j0 ⟨(.msl j0),(.msl j0),(rnI j0),j5⟩)⟩,⟨j0,mkI (fun _=>j0)⟩,⟨j0,mkI (fun _=>j0)⟩,j5⟩<|zB (env0:=[(0,.mpt 0 0 0),(7,.mpt 3 0 0)]) (st0:=[some (15,[(vK d e f i (.msl 1 0 (List.length c)) (.msl 2 0 (List.length p.1)) (bA p.2))]),some (1,List.map zi c),some (1,List.map zi p.1),some (3,[(zH a.2.1)])]) ⟨[.old 0,.old 1,.old 2,.old 3],cv j0 (.mpt j0)<|cv j0 (.mpt j0)<|cn,j0,⟨⟨_,j0,zg (zQ j0 (by exact ⟨.msl j0,.msl j0,ci j0,j5⟩))⟩,⟨_,j0,zd (fun _=>j0)⟩,⟨_,j0,zd (fun _=>j0)⟩,⟨_,j0,zg (ciL j0)⟩,j5⟩,j0,j1⟩<|za ?_
   obtain ⟨I,N,h⟩:=bs h
   refine rl j0<|u<|mv j0<|u<|fa zhG j0 j0 j0<|u<|ld ti9 j0 j0<|u<|sc [0,1,2] (zr d e f i c p.1 p.2 a.2.1.Type_ N) j0 j0 j0 j0 ⟨(.mpt j0),(rnI j0),j5⟩ ⟨⟨_,j0,(zcH j0 ⟨(.msl j0),(.msl j0),(rnI j0),j5⟩)⟩,⟨j0,mkI (fun _=>j0)⟩,⟨j0,mkI (fun _=>j0)⟩,j5⟩<|zB (env0:=[]) (st0:=[some (15,[(vK d e f i (.msl 1 0 (List.length c)) (.msl 3 0 (List.length I)) (bA p.2))]),some (1,List.map zi c),none,some (1,List.map zi I)]) ⟨[.old 0,.old 1,.dead,.old 4],cn,j0,⟨⟨_,j0,zg (zQ j0 (by exact ⟨.msl j0,.msl j0,ci j0,j5⟩))⟩,⟨_,j0,zd (fun _=>j0)⟩,⟨_,j0,zd (fun _=>j0)⟩,j5⟩,j0,j1⟩<|za ?_
   obtain rfl:=sm h
   exact ⟨_,j0,[.old 0,.old 1,.dead,.old 3],z8 j5,j0,⟨⟨_,j0,zg (zQ j0 (by exact ⟨.msl j0,.msl j0,ci j0,j5⟩))⟩,⟨_,j0,zd (fun _=>j0)⟩,⟨_,j0,zd (fun _=>j0)⟩,j5⟩,j0,j1⟩
  ·
   replace h:=bF E h
   refine rg j0<|u<|eql ti3 j0 j0<|u<|asg j0<|za ?_
   refine zh j0 (fun q=>?_) (fun q=>?_)
   ·
    replace h:=bT q h
    obtain ⟨F,O,h⟩:=bs h
    refine rl j0<|u<|mv j0<|u<|fa zcI j0 j0 j0<|u<|ld ti9 j0 j0<|u<|fa zhG j0 j0 j0<|u<|ld ti9 j0 j0<|u<|bl 5 zM j0 ti9 j0 (by decide) (by decide) j0 j0 j0<|zB (env0:=[(83,.mpt 0 0 0),(88,.isl 1 (List.map zi [b.C,a.2.1.Type_]))]) (st0:=[some (15,[(vK d e f i (.msl 1 0 (List.length c)) (.msl 2 0 (List.length l)) (bA (m||(!(a.2.2&&(a.2.1.Static == ((b.Op == (40:Int))||(b.Op == (41:Int)))))))))]),some (1,List.map zi c),some (1,List.map zi l)]) ⟨[.old 0,.old 1,.old 2],cv j0 (.mpt j0)<|cv j0 (zc1 j0 j0 ⟨⟨⟨ci j0,j5⟩,j0⟩,⟨⟨ci j0,j5⟩,j0⟩,j5⟩)<|cn,j0,⟨⟨_,j0,zg (zQ j0 (by exact ⟨.msl j0,.msl j0,ci j0,j5⟩))⟩,⟨_,j0,zd (fun _=>j0)⟩,⟨_,j0,zd (fun _=>j0)⟩,j5⟩,j0,j1⟩<|u<|sc [0,1,2] (zt d e f i c l (m||(!(a.2.2&&(a.2.1.Static == ((b.Op == (40:Int))||(b.Op == (41:Int))))))) [b.C,a.2.1.Type_] O) j0 j0 j0 j0 ⟨(.mpt j0),(rnI j0),j5⟩ ⟨⟨_,j0,(zcH j0 ⟨(.msl j0),(.msl j0),(rnI j0),j5⟩)⟩,⟨j0,mkI (fun _=>j0)⟩,⟨j0,mkI (fun _=>j0)⟩,j5⟩<|zB (env0:=[]) (st0:=[some (15,[(vK d e f i (.msl 1 0 (List.length c)) (.msl 2 0 (List.length F.1)) (bA F.2))]),some (1,List.map zi c),some (1,List.map zi F.1)]) ⟨[.old 0,.old 1,.old 2],cn,j0,⟨⟨_,j0,zg (zQ j0 (by exact ⟨.msl j0,.msl j0,ci j0,j5⟩))⟩,⟨_,j0,zd (fun _=>j0)⟩,⟨_,j0,zd (fun _=>j0)⟩,j5⟩,j0,j1⟩<|za ?_
    obtain rfl:=sm h
    exact ⟨_,j0,[.old 0,.old 1,.dead,.old 2],z8 j5,j0,⟨⟨_,j0,zg (zQ j0 (by exact ⟨.msl j0,.msl j0,ci j0,j5⟩))⟩,⟨_,j0,zd (fun _=>j0)⟩,⟨_,j0,zd (fun _=>j0)⟩,j5⟩,j0,j1⟩
   ·
    replace h:=bF q h
    refine rg j0<|u<|eql ti3 j0 j0<|u<|asg j0<|za ?_
    refine zh j0 (fun s=>?_) (fun s=>?_)
    ·
     replace h:=bT s h
     obtain ⟨J,P,h⟩:=bs h
     refine rl j0<|u<|mv j0<|u<|fa zhG j0 j0 j0<|u<|ld ti9 j0 j0<|u<|sc [0,1,2] (zr d e f i c l (m||(!(a.2.2&&(a.2.1.Static == ((b.Op == (40:Int))||(b.Op == (41:Int))))))) a.2.1.Type_ P) j0 j0 j0 j0 ⟨(.mpt j0),(rnI j0),j5⟩ ⟨⟨_,j0,(zcH j0 ⟨(.msl j0),(.msl j0),(rnI j0),j5⟩)⟩,⟨j0,mkI (fun _=>j0)⟩,⟨j0,mkI (fun _=>j0)⟩,j5⟩<|zB (env0:=[]) (st0:=[some (15,[(vK d e f i (.msl 1 0 (List.length c)) (.msl 3 0 (List.length J)) (bA (m||(!(a.2.2&&(a.2.1.Static == ((b.Op == (40:Int))||(b.Op == (41:Int)))))))))]),some (1,List.map zi c),none,some (1,List.map zi J)]) ⟨[.old 0,.old 1,.dead,.old 5],cn,j0,⟨⟨_,j0,zg (zQ j0 (by exact ⟨.msl j0,.msl j0,ci j0,j5⟩))⟩,⟨_,j0,zd (fun _=>j0)⟩,⟨_,j0,zd (fun _=>j0)⟩,j5⟩,j0,j1⟩<|za ?_
     obtain rfl:=sm h
     exact ⟨_,j0,[.old 0,.old 1,.dead,.old 3],z8 j5,j0,⟨⟨_,j0,zg (zQ j0 (by exact ⟨.msl j0,.msl j0,ci j0,j5⟩))⟩,⟨_,j0,zd (fun _=>j0)⟩,⟨_,j0,zd (fun _=>j0)⟩,j5⟩,j0,j1⟩
    ·
     replace h:=bF s h
     obtain ⟨G,Q,h⟩:=bs h
     refine rl j0<|u<|mv j0<|u<|fa zhG j0 j0 j0<|u<|ld ti9 j0 j0<|u<|bl 5 zM j0 ti9 j0 (by decide) (by decide) j0 j0 j0<|zB (env0:=[(65,.mpt 0 0 0),(68,.isl 1 (List.map zi [a.2.1.Type_]))]) (st0:=[some (15,[(vK d e f i (.msl 1 0 (List.length c)) (.msl 2 0 (List.length l)) (bA (m||(!(a.2.2&&(a.2.1.Static == ((b.Op == (40:Int))||(b.Op == (41:Int)))))))))]),some (1,List.map zi c),some (1,List.map zi l)]) ⟨[.old 0,.old 1,.old 2],cv j0 (.mpt j0)<|cv j0 (zc1 j0 j0 ⟨⟨⟨ci j0,j5⟩,j0⟩,j5⟩)<|cn,j0,⟨⟨_,j0,zg (zQ j0 (by exact ⟨.msl j0,.msl j0,ci j0,j5⟩))⟩,⟨_,j0,zd (fun _=>j0)⟩,⟨_,j0,zd (fun _=>j0)⟩,j5⟩,j0,j1⟩<|u<|sc [0,1,2] (zt d e f i c l (m||(!(a.2.2&&(a.2.1.Static == ((b.Op == (40:Int))||(b.Op == (41:Int))))))) [a.2.1.Type_] Q) j0 j0 j0 j0 ⟨(.mpt j0),(rnI j0),j5⟩ ⟨⟨_,j0,(zcH j0 ⟨(.msl j0),(.msl j0),(rnI j0),j5⟩)⟩,⟨j0,mkI (fun _=>j0)⟩,⟨j0,mkI (fun _=>j0)⟩,j5⟩<|zB (env0:=[]) (st0:=[some (15,[(vK d e f i (.msl 1 0 (List.length c)) (.msl 2 0 (List.length G.1)) (bA G.2))]),some (1,List.map zi c),some (1,List.map zi G.1)]) ⟨[.old 0,.old 1,.old 2],cn,j0,⟨⟨_,j0,zg (zQ j0 (by exact ⟨.msl j0,.msl j0,ci j0,j5⟩))⟩,⟨_,j0,zd (fun _=>j0)⟩,⟨_,j0,zd (fun _=>j0)⟩,j5⟩,j0,j1⟩<|za ?_
     obtain rfl:=sm h
     exact ⟨_,j0,[.old 0,.old 1,.dead,.old 2],z8 j5,j0,⟨⟨_,j0,zg (zQ j0 (by exact ⟨.msl j0,.msl j0,ci j0,j5⟩))⟩,⟨_,j0,zd (fun _=>j0)⟩,⟨_,j0,zd (fun _=>j0)⟩,j5⟩,j0,j1⟩
end
end Go.Proofs.YthmnlfenkhmmhaaGreat
namespace Go.Proofs.YthmnlfenkhmmhaaGreat
noncomputable section
set_option linter.unusedSimpArgs false
set_option linter.unusedVariables false
set_option maxRecDepth 100000
set_option maxHeartbeats 4000000
def zah (e:List zc) (f:List (List UInt8×Int)) (i:List UInt8) (j:ze) (l:List (List UInt8)) (b:ze) (c:List (List UInt8)) (a:Bool):Option ((List (List UInt8))×Bool) :=
  cond (!(b.Ret == [86])) ((zs e f i j l c a b.Ret).bind fun d=>some (d,a)) (some (c,a))
def zcc (b:List zc) (c:List (List UInt8×Int)) (e:List UInt8) (i:ze) (j:List (List UInt8)) (m:zA) (n:List UInt8) (f:ze) (d:(List (List UInt8))×Bool) (o:Bool):Option ((List (List UInt8))×Bool) :=
  cond o ((zx b c e i j d.1 d.2 [m.C]).bind fun l=>zah b c e i j f l.1 l.2) (cond (m.Op == (44:Int)) ((z2 b c e i j d.1 d.2).bind fun a=>(zeJ b c a.1 m.C).bind fun p=>cond p ((zeJ b c a.1 e).bind fun q=>cond q ((z6 b c e).bind fun s=>(zC s n).bind fun v=>zah b c e i j f a.2.1 (a.2.2||(!v))) (zah b c e i j f a.2.1 (a.2.2||(!false)))) (zah b c e i j f a.2.1 (a.2.2||(!false)))) (zah b c e i j f d.1 d.2))
def zcb (e:List zc) (f:List (List UInt8×Int)) (i:List UInt8) (j:ze) (l:List (List UInt8)) (n:List (List UInt8)) (o:Bool) (b:zA) (c:List UInt8) (a:ze) (m:Bool):Option ((List (List UInt8))×Bool) :=
  (zx e f i j l n (o||(!(m&&(a.Static == (b.Op == (42:Int)))))) a.Params).bind fun d=>cond (b.Op == (43:Int)) (zcc e f i j l b c a d (b.Op == (43:Int))) (zcc e f i j l b c a d (b.Op == (45:Int)))
def zfr (c:List zc) (d:List (List UInt8×Int)) (f:List UInt8) (i:ze) (j:List (List UInt8)) (l:List (List UInt8)) (m:Bool) (a:zA):Option ((List (List UInt8))×Bool) :=
  (zf6 c d a.C a.M).bind fun e=>cond (a.Op == (45:Int)) ((zhf c d a.C a.M).bind fun b=>zcb c d f i j l m a b.1 b.2.1 b.2.2) (zcb c d f i j l m a e.1 e.2.1 (e.2.2&&(!e.2.1.Abstract)))
theorem ziu (i:List zc) (l:List (List UInt8×Int)) (o:List UInt8) (p:ze) (m:List (List UInt8)) (D:List (List UInt8)) (H:Bool) (n:zA) {r:(List (List UInt8))×Bool} (h:zfr i l o p m D H n=some r):SC Tryz.prog 284 [.mpt 0 0 0,.agg (zw n)] [.one 15 (vK i l o p (.msl 1 0 (List.length m)) (.msl 2 0 (List.length D)) (bA H)),.many 1 (List.map zi m),.many 1 (List.map zi D)] (.tup []) [.one 15 (vK i l o p (.msl 1 0 (List.length m)) (.msl 3 0 (List.length r.1)) (bA r.2)),.many 1 (List.map zi m),.no,.many 1 (List.map zi r.1)]:=by
 refine ⟨⟨j5,zeU (sz:=1) (fun _=>j0),j5,zeU (sz:=1) (fun _=>j0),j5⟩,zad Tryz.func284 j0 (by kernel_rfl) j0 ?_⟩
 unfold zfr at h
 refine rg j0<|u<|bx 3 4 j0 j0 j0 j0<|za ?_
 obtain ⟨B,Y,h⟩:=bs h
 refine rd [(0,.mpt 0 0 0),(3,.mpt 3 0 0),(4,sA B.1),(5,.mpt 4 0 0),(6,bA B.2.2)] [some (15,[(vK i l o p (.msl 1 0 (List.length m)) (.msl 2 0 (List.length D)) (bA H))]),some (1,List.map zi m),some (1,List.map zi D),some (4,[(zw n)]),some (10,[(zf B.2.1)])] [13,15] [12,11,10,9,8,7,6,5,4,3,2,1,0] [(20,bA B.2.2),(19,.agg (zf B.2.1)),(18,sA B.1),(8,.tup [sA B.1,.agg (zf B.2.1),bA B.2.2]),(17,.tup [sA B.1,.agg (zf B.2.1),bA B.2.2]),(16,sA n.M),(15,.mpt 3 0 3),(14,sA n.C),(13,.mpt 3 0 2),(12,.ipt 2 [[.isl 6 (List.map zb i),.imp (List.map (rKV (fun x=>iA x)) l)]] 0 0),(11,.mpt 0 0 0),(10,.mpt 0 0 0),(9,.mpt 0 0 0)] 2 (by kernel_rfl) (by kernel_rfl) j0 (by kernel_rfl) (dtS ⟨(fun _=>pa j0 j0 j0 j0 (ex j0 j0<|j4)),(fun _=>pa j0 j0 j0 j0 (ex j0 j0<|j4)),(fun _=>pa j0 j0 j0 j0 (ex j0 j0<|j4)),(fun _=>pa j0 j0 j0 j0 (mv j0<|j4)),(fun _=>pa j0 j0 j0 j0 (pc (zfX i l n.C n.M Y) j0 j0 j0<|j4)),(fun _=>pa j0 j0 j0 j0 (ld ti9 j0 j0<|j4)),(fun _=>pa j0 j0 j0 j0 (fa zcI j0 j0 j0<|j4)),(fun _=>pa j0 j0 j0 j0 (ld ti9 j0 j0<|j4)),(fun _=>pa j0 j0 j0 j0 (fa zcI j0 j0 j0<|j4)),(fun _=>pa j0 j0 j0 j0 (ld zez j0 j0<|j4)),(fun _=>pa j0 j0 j0 j0 (fa zS j0 j0 j0<|j4)),(fun _=>pa j0 j0 j0 j0 (nc j0 j0<|j4)),(fun _=>pa j0 j0 j0 j0 (mv j0<|j4)),j5⟩ (by kernel_rfl) j0 ⟨(fun _ _=>⟨_,j0,j0,al 4 zN j0<|⟨(.mpt 4 0 0),[14],[(4,sA B.1),(5,.mpt 4 0 0)],j0,j0,by kernel_rfl,j0,dtS ⟨(fun _=>pa j0 j0 j0 j0 (asg j0<|j4)),(fun _=>pa j0 j0 j0 j0 (ex j0 j0<|j4)),(fun _=>pa j0 j0 j0 j0 (ex j0 j0<|j4)),(fun _=>pa j0 j0 j0 j0 (ex j0 j0<|j4)),(fun _=>pa j0 j0 j0 j0 (mv j0<|j4)),(fun _=>pa j0 j0 j0 j0 (pc (zfX i l n.C n.M Y) j0 j0 j0<|j4)),(fun _=>pa j0 j0 j0 j0 (ld ti9 j0 j0<|j4)),(fun _=>pa j0 j0 j0 j0 (fa zcI j0 j0 j0<|j4)),(fun _=>pa j0 j0 j0 j0 (ld ti9 j0 j0<|j4)),(fun _=>pa j0 j0 j0 j0 (fa zcI j0 j0 j0<|j4)),(fun _=>pa j0 j0 j0 j0 (ld zez j0 j0<|j4)),(fun _=>pa j0 j0 j0 j0 (fa zS j0 j0 j0<|j4)),(fun _=>pa j0 j0 j0 j0 (nc j0 j0<|j4)),(fun _=>pa j0 j0 j0 j0 (mv j0<|j4)),j5⟩ (by kernel_rfl) j0 ⟨(fun h=>by cases h),(fun _ _=>⟨_,j0,j0,sto zN j0 j0 j0<|⟨.any,[16],[(6,bA B.2.2)],j0,j0,by kernel_rfl,j5,dt0 ⟨(fun _=>pa j0 j0 j0 j0 (asg j0<|j4)),(fun h=>by cases h),(fun _=>pa j0 j0 j0 j0 (ex j0 j0<|j4)),(fun h=>by cases h),(fun h=>by cases h),(fun h=>by cases h),(fun h=>by cases h),(fun h=>by cases h),(fun h=>by cases h),(fun h=>by cases h),(fun h=>by cases h),(fun h=>by cases h),(fun h=>by cases h),(fun h=>by cases h),(fun h=>by cases h),j5⟩ (by kernel_rfl) j0 ⟨[.old 0,.old 1,.old 2,.old 3,.old 4],cv j0 (.mpt j0)<|cv j0 (.mpt j0)<|ce j0 j0<|cv j0 (.mpt j0)<|ce j0 j0<|cn,j0,⟨⟨_,j0,zg (zQ j0 (by exact ⟨.msl j0,.msl j0,ci j0,j5⟩))⟩,⟨_,j0,zd (fun _=>j0)⟩,⟨_,j0,zd (fun _=>j0)⟩,⟨_,j0,zg (ciL j0)⟩,⟨_,j0,zg (ciL j0)⟩,j5⟩,j0,j1⟩⟩⟩),j5⟩⟩⟩),(fun _ h=>by cases h),j5⟩) ?_
 refine rg j0<|u<|mv j0<|u<|mv j0<|za7 (j:=1) 3 j0 j0 j0 j0 j0 gpn (fun O=>g j0 O<|fa zN j0 j0 j0<|g j0 O<|ld ti4 j0 j0<|g j0 O<|nt j0<|za (egA [23,24,25] 3 O j0 j0 j0 j0)) ziy<|u<|asg j0<|za ?_
 refine zcD (X:=(List UInt8)×ze×Bool) (fun z=>[(0,.mpt 0 0 0),(3,.mpt 3 0 0),(4,sA z.1),(5,.mpt 4 0 0),(6,bA z.2.2)]) (fun z=>[some (15,[(vK i l o p (.msl 1 0 (List.length m)) (.msl 2 0 (List.length D)) (bA H))]),some (1,List.map zi m),some (1,List.map zi D),some (4,[(zw n)]),some (10,[(zf z.2.1)])]) (fun z=>zcb i l o p m D H n z.1 z.2.1 z.2.2=some r) ?_ ?_
 ·
  refine rg j0<|u<|fa zcI j0 j0 j0<|u<|ld ti3 j0 j0<|u<|eql ti3 j0 j0<|za ?_
  refine zh j0 (fun Q=>?_) (fun Q=>?_)
  ·
   replace h:=bT Q h
   obtain ⟨s,q4,h⟩:=bs h
   refine rdL [(0,.mpt 0 0 0),(3,.mpt 3 0 0),(4,sA s.1),(5,.mpt 4 0 0),(6,bA s.2.2)] [some (15,[(vK i l o p (.msl 1 0 (List.length m)) (.msl 2 0 (List.length D)) (bA H))]),some (1,List.map zi m),some (1,List.map zi D),some (4,[(zw n)]),some (10,[(zf s.2.1)])] [14] [13,12,11,10,9,8,7,6,5,4,3,2,1,0] [(4,sA s.1),(42,bA s.2.2),(41,.agg (zf s.2.1)),(40,sA s.1),(30,.tup [sA s.1,.agg (zf s.2.1),bA s.2.2]),(39,.tup [sA s.1,.agg (zf s.2.1),bA s.2.2]),(38,sA n.M),(37,.mpt 3 0 3),(36,sA n.C),(35,.mpt 3 0 2),(34,.ipt 2 [[.isl 6 (List.map zb i),.imp (List.map (rKV (fun x=>iA x)) l)]] 0 0),(33,.mpt 0 0 0),(32,.mpt 0 0 0),(31,.mpt 0 0 0)] 1 (by kernel_rfl) (by kernel_rfl) j0 (by kernel_rfl) (dtS ⟨(fun _=>pa j0 j0 j0 j0 (asg j0<|j4)),(fun _=>pa j0 j0 j0 j0 (ex j0 j0<|j4)),(fun _=>pa j0 j0 j0 j0 (ex j0 j0<|j4)),(fun _=>pa j0 j0 j0 j0 (ex j0 j0<|j4)),(fun _=>pa j0 j0 j0 j0 (mv j0<|j4)),(fun _=>pa j0 j0 j0 j0 (pc (ziW i l n.C n.M q4) j0 j0 j0<|j4)),(fun _=>pa j0 j0 j0 j0 (ld ti9 j0 j0<|j4)),(fun _=>pa j0 j0 j0 j0 (fa zcI j0 j0 j0<|j4)),(fun _=>pa j0 j0 j0 j0 (ld ti9 j0 j0<|j4)),(fun _=>pa j0 j0 j0 j0 (fa zcI j0 j0 j0<|j4)),(fun _=>pa j0 j0 j0 j0 (ld zez j0 j0<|j4)),(fun _=>pa j0 j0 j0 j0 (fa zS j0 j0 j0<|j4)),(fun _=>pa j0 j0 j0 j0 (nc j0 j0<|j4)),(fun _=>pa j0 j0 j0 j0 (mv j0<|j4)),j5⟩ (by kernel_rfl) j0 ⟨(fun _ _=>⟨_,j0,j0,sto zN j0 j0 j0<|⟨.any,[15],[(6,bA s.2.2)],j0,j0,by kernel_rfl,j5,dt0 ⟨(fun _=>pa j0 j0 j0 j0 (asg j0<|j4)),(fun h=>by cases h),(fun _=>pa j0 j0 j0 j0 (ex j0 j0<|j4)),(fun h=>by cases h),(fun h=>by cases h),(fun h=>by cases h),(fun h=>by cases h),(fun h=>by cases h),(fun h=>by cases h),(fun h=>by cases h),(fun h=>by cases h),(fun h=>by cases h),(fun h=>by cases h),(fun h=>by cases h),(fun h=>by cases h),j5⟩ (by kernel_rfl) j0 ⟨[.old 0,.old 1,.old 2,.old 3,.old 4],cv j0 (.mpt j0)<|cv j0 (.mpt j0)<|ce j0 j0<|cv j0 (.mpt j0)<|ce j0 j0<|cn,j0,⟨⟨_,j0,zg (zQ j0 (by exact ⟨.msl j0,.msl j0,ci j0,j5⟩))⟩,⟨_,j0,zd (fun _=>j0)⟩,⟨_,j0,zd (fun _=>j0)⟩,⟨_,j0,zg (ciL j0)⟩,⟨_,j0,zg (ciL j0)⟩,j5⟩,j0,j1⟩⟩⟩),j5⟩) ?_
   exact ⟨⟨s.1,s.2.1,s.2.2⟩,h,[.old 0,.old 1,.old 2,.old 3,.old 4],cv j0 (.mpt j0)<|cv j0 (.mpt j0)<|ce j0 j0<|cv j0 (.mpt j0)<|ce j0 j0<|cn,j0,⟨⟨_,j0,zg (zQ j0 (by exact ⟨.msl j0,.msl j0,ci j0,j5⟩))⟩,⟨_,j0,zd (fun _=>j0)⟩,⟨_,j0,zd (fun _=>j0)⟩,⟨_,j0,zg (ciL j0)⟩,⟨_,j0,zg (ciL j0)⟩,j5⟩,j0,j1⟩
  ·
   replace h:=bF Q h
   refine zk ?_
   exact ⟨⟨B.1,B.2.1,(B.2.2&&(!B.2.1.Abstract))⟩,h,[.old 0,.old 1,.old 2,.old 3,.old 4],cv j0 (.mpt j0)<|cv j0 (.mpt j0)<|ce j0 j0<|cv j0 (.mpt j0)<|ce j0 j0<|cn,j0,⟨⟨_,j0,zg (zQ j0 (by exact ⟨.msl j0,.msl j0,ci j0,j5⟩))⟩,⟨_,j0,zd (fun _=>j0)⟩,⟨_,j0,zd (fun _=>j0)⟩,⟨_,j0,zg (ciL j0)⟩,⟨_,j0,zg (ciL j0)⟩,j5⟩,j0,j1⟩
 ·
  rintro ⟨E,q,P⟩ h
  replace h:zcb i l o p m D H n E q P=some r:=h
  unfold zcb at h
  refine rg j0<|u<|mv j0<|u<|mv j0<|u<|mv j0<|za7 (j:=2) 6 j0 j0 j0 j0 j0 gpn (fun F=>g j0 F<|fa zN j0 j0 j0<|g j0 F<|ld ti4 j0 j0<|g j0 F<|fa zcI j0 j0 j0<|g j0 F<|ld ti3 j0 j0<|g j0 F<|eql ti3 j0 j0<|g j0 F<|beq ti4 j0 j0 j0<|za (egA [46,47,48,49,50,51] 6 F j0 j0 j0 j0)) ziy<|u<|sc [0,1,2] (zo i l o p m D H (P&&(q.Static == (n.Op == (42:Int)))) j0) j0 j0 j0 j0 ⟨(.mpt j0),(rnI j0),j5⟩ ⟨⟨_,j0,(zcH j0 ⟨(.msl j0),(.msl j0),(rnI j0),j5⟩)⟩,⟨j0,mkI (fun _=>j0)⟩,⟨j0,mkI (fun _=>j0)⟩,j5⟩<|zB (env0:=[(0,.mpt 0 0 0),(3,.mpt 3 0 0),(4,sA E),(5,.mpt 4 0 0)]) (st0:=[some (15,[(vK i l o p (.msl 1 0 (List.length m)) (.msl 2 0 (List.length D)) (bA (H||(!(P&&(q.Static == (n.Op == (42:Int))))))))]),some (1,List.map zi m),some (1,List.map zi D),some (4,[(zw n)]),some (10,[(zf q)])]) ⟨[.old 0,.old 1,.old 2,.old 3,.old 4],cv j0 (.mpt j0)<|cv j0 (.mpt j0)<|ce j0 j0<|cv j0 (.mpt j0)<|cn,j0,⟨⟨_,j0,zg (zQ j0 (by exact ⟨.msl j0,.msl j0,ci j0,j5⟩))⟩,⟨_,j0,zd (fun _=>j0)⟩,⟨_,j0,zd (fun _=>j0)⟩,⟨_,j0,zg (ciL j0)⟩,⟨_,j0,zg (ciL j0)⟩,j5⟩,j0,j1⟩<|za ?_
  obtain ⟨v,q6,h⟩:=bs h
  refine rg j0<|u<|mv j0<|u<|fa zN j0 j0 j0<|u<|ld zM j0 j0<|u<|sc [0,1,2] (zt i l o p m D (H||(!(P&&(q.Static == (n.Op == (42:Int)))))) q.Params q6) j0 j0 j0 j0 ⟨(.mpt j0),(rnI j0),j5⟩ ⟨⟨_,j0,(zcH j0 ⟨(.msl j0),(.msl j0),(rnI j0),j5⟩)⟩,⟨j0,mkI (fun _=>j0)⟩,⟨j0,mkI (fun _=>j0)⟩,j5⟩<|zB (env0:=[(0,.mpt 0 0 0),(3,.mpt 3 0 0),(4,sA E),(5,.mpt 4 0 0)]) (st0:=[some (15,[(vK i l o p (.msl 1 0 (List.length m)) (.msl 2 0 (List.length v.1)) (bA v.2))]),some (1,List.map zi m),some (1,List.map zi v.1),some (4,[(zw n)]),some (10,[(zf q)])]) ⟨[.old 0,.old 1,.old 2,.old 3,.old 4],cv j0 (.mpt j0)<|cv j0 (.mpt j0)<|ce j0 j0<|cv j0 (.mpt j0)<|cn,j0,⟨⟨_,j0,zg (zQ j0 (by exact ⟨.msl j0,.msl j0,ci j0,j5⟩))⟩,⟨_,j0,zd (fun _=>j0)⟩,⟨_,j0,zd (fun _=>j0)⟩,⟨_,j0,zg (ciL j0)⟩,⟨_,j0,zg (ciL j0)⟩,j5⟩,j0,j1⟩<|za ?_
  refine zcD (X:=(List (List UInt8))×Bool) (fun z=>[(0,.mpt 0 0 0),(5,.mpt 3 0 0)]) (fun z=>[some (15,[(vK i l o p (.msl 1 0 (List.length m)) (.msl 2 0 (List.length z.1)) (bA z.2))]),some (1,List.map zi m),some (1,List.map zi z.1),some (10,[(zf q)])]) (fun z=>zah i l o p m q z.1 z.2=some r) ?_ ?_
  ·
   refine rg j0<|u<|fa zcI j0 j0 j0<|u<|ld ti3 j0 j0<|za ?_
   refine zq ?_
   refine zcD (X:=Bool) (fun z=>[(0,.mpt 0 0 0),(3,.mpt 3 0 0),(4,sA E),(5,.mpt 4 0 0),(59,iA n.Op),(60,bA z)]) (fun z=>[some (15,[(vK i l o p (.msl 1 0 (List.length m)) (.msl 2 0 (List.length v.1)) (bA v.2))]),some (1,List.map zi m),some (1,List.map zi v.1),some (4,[(zw n)]),some (10,[(zf q)])]) (fun z=>zcc i l o p m n E q v z=some r) ?_ ?_
   ·
    refine rg j0<|u<|eql ti3 j0 j0<|u<|asg j0<|za ?_
    refine zh j0 (fun R=>?_) (fun R=>?_)
    ·
     replace h:=bT R h
     refine zk ?_
     exact ⟨(n.Op == (43:Int)),h,[.old 0,.old 1,.old 2,.old 3,.old 4],cv j0 (.mpt j0)<|cv j0 (.mpt j0)<|ce j0 j0<|cv j0 (.mpt j0)<|ce j0 j0<|ce j0 j0<|cn,j0,⟨⟨_,j0,zg (zQ j0 (by exact ⟨.msl j0,.msl j0,ci j0,j5⟩))⟩,⟨_,j0,zd (fun _=>j0)⟩,⟨_,j0,zd (fun _=>j0)⟩,⟨_,j0,zg (ciL j0)⟩,⟨_,j0,zg (ciL j0)⟩,j5⟩,j0,j1⟩
    ·
     replace h:=bF R h
     exact rl j0<|u<|eql ti3 j0 j0<|u<|asg j0<|za (⟨(n.Op == (45:Int)),h,[.old 0,.old 1,.old 2,.old 3,.old 4],cv j0 (.mpt j0)<|cv j0 (.mpt j0)<|ce j0 j0<|cv j0 (.mpt j0)<|ce j0 j0<|ce j0 j0<|cn,j0,⟨⟨_,j0,zg (zQ j0 (by exact ⟨.msl j0,.msl j0,ci j0,j5⟩))⟩,⟨_,j0,zd (fun _=>j0)⟩,⟨_,j0,zd (fun _=>j0)⟩,⟨_,j0,zg (ciL j0)⟩,⟨_,j0,zg (ciL j0)⟩,j5⟩,j0,j1⟩)
   ·
    rintro Z h
    replace h:zcc i l o p m n E q v Z=some r:=h
    unfold zcc at h
    refine zh j0 (fun S=>?_) (fun S=>?_)
    ·
     replace h:=bT S h
     obtain ⟨J,q9,h⟩:=bs h
     exact rl j0<|u<|mv j0<|u<|fa zcI j0 j0 j0<|u<|ld ti9 j0 j0<|u<|bl 5 zM j0 ti9 j0 (by decide) (by decide) j0 j0 j0<|zB (env0:=[(0,.mpt 0 0 0),(5,.mpt 3 0 0),(63,.mpt 0 0 0),(66,.isl 1 (List.map zi [n.C]))]) (st0:=[some (15,[(vK i l o p (.msl 1 0 (List.length m)) (.msl 2 0 (List.length v.1)) (bA v.2))]),some (1,List.map zi m),some (1,List.map zi v.1),some (10,[(zf q)])]) ⟨[.old 0,.old 1,.old 2,.old 4],cv j0 (.mpt j0)<|cv j0 (.mpt j0)<|cv j0 (.mpt j0)<|cv j0 (zc1 j0 j0 ⟨⟨⟨ci j0,j5⟩,j0⟩,j5⟩)<|cn,j0,⟨⟨_,j0,zg (zQ j0 (by exact ⟨.msl j0,.msl j0,ci j0,j5⟩))⟩,⟨_,j0,zd (fun _=>j0)⟩,⟨_,j0,zd (fun _=>j0)⟩,⟨_,j0,zg (ciL j0)⟩,j5⟩,j0,j1⟩<|u<|sc [0,1,2] (zt i l o p m v.1 v.2 [n.C] q9) j0 j0 j0 j0 ⟨(.mpt j0),(rnI j0),j5⟩ ⟨⟨_,j0,(zcH j0 ⟨(.msl j0),(.msl j0),(rnI j0),j5⟩)⟩,⟨j0,mkI (fun _=>j0)⟩,⟨j0,mkI (fun _=>j0)⟩,j5⟩<|zB (env0:=[(0,.mpt 0 0 0),(5,.mpt 3 0 0)]) (st0:=[some (15,[(vK i l o p (.msl 1 0 (List.length m)) (.msl 2 0 (List.length J.1)) (bA J.2))]),some (1,List.map zi m),some (1,List.map zi J.1),some (10,[(zf q)])]) ⟨[.old 0,.old 1,.old 2,.old 3],cv j0 (.mpt j0)<|cv j0 (.mpt j0)<|cn,j0,⟨⟨_,j0,zg (zQ j0 (by exact ⟨.msl j0,.msl j0,ci j0,j5⟩))⟩,⟨_,j0,zd (fun _=>j0)⟩,⟨_,j0,zd (fun _=>j0)⟩,⟨_,j0,zg (ciL j0)⟩,j5⟩,j0,j1⟩<|za (⟨⟨J.1,J.2⟩,h,[.old 0,.old 1,.old 2,.old 3],cv j0 (.mpt j0)<|cv j0 (.mpt j0)<|cn,j0,⟨⟨_,j0,zg (zQ j0 (by exact ⟨.msl j0,.msl j0,ci j0,j5⟩))⟩,⟨_,j0,zd (fun _=>j0)⟩,⟨_,j0,zd (fun _=>j0)⟩,⟨_,j0,zg (ciL j0)⟩,j5⟩,j0,j1⟩)
    ·
     replace h:=bF S h
     refine rg j0<|u<|eql ti3 j0 j0<|u<|asg j0<|za ?_
     refine zh j0 (fun L=>?_) (fun L=>?_)
     ·
      replace h:=bT L h
      obtain ⟨f,q11,h⟩:=bs h
      refine rg j0<|u<|mv j0<|u<|sc [0,1,2] (zX i l o p m v.1 v.2 q11) j0 j0 j0 j0 ⟨(.mpt j0),j5⟩ ⟨⟨_,j0,(zcH j0 ⟨(.msl j0),(.msl j0),(rnI j0),j5⟩)⟩,⟨j0,mkI (fun _=>j0)⟩,⟨j0,mkI (fun _=>j0)⟩,j5⟩<|zB (env0:=[(0,.mpt 0 0 0),(3,.mpt 3 0 0),(4,sA E),(5,.mpt 4 0 0),(71,sA f.1)]) (st0:=[some (15,[(vK i l o p (.msl 1 0 (List.length m)) (.msl 2 0 (List.length f.2.1)) (bA f.2.2))]),some (1,List.map zi m),some (1,List.map zi f.2.1),some (4,[(zw n)]),some (10,[(zf q)])]) ⟨[.old 0,.old 1,.old 2,.old 3,.old 4],cv j0 (.mpt j0)<|cv j0 (.mpt j0)<|ce j0 j0<|cv j0 (.mpt j0)<|ce j0 j0<|cn,j0,⟨⟨_,j0,zg (zQ j0 (by exact ⟨.msl j0,.msl j0,ci j0,j5⟩))⟩,⟨_,j0,zd (fun _=>j0)⟩,⟨_,j0,zd (fun _=>j0)⟩,⟨_,j0,zg (ciL j0)⟩,⟨_,j0,zg (ciL j0)⟩,j5⟩,j0,j1⟩<|u<|asg j0<|za ?_
      obtain ⟨c,G,h⟩:=bs h
      rcases bb c with a | a
      ·
       replace h:=bT a h
       obtain ⟨e,K,h⟩:=bs h
       rcases bb e with d | d
       ·
        replace h:=bT d h
        obtain ⟨T,q16,h⟩:=bs h
        obtain ⟨I,q17,h⟩:=bs h
        refine rdL [(0,.mpt 0 0 0),(5,.mpt 3 0 0)] [some (15,[(vK i l o p (.msl 1 0 (List.length m)) (.msl 2 0 (List.length f.2.1)) (bA (f.2.2||(!I))))]),some (1,List.map zi m),some (1,List.map zi f.2.1),some (10,[(zf q)])] [30,34] [31,29,28,27,26,25,24,23,22,21,20,19,18,17,16,15,14,13,12,11,10,9,8,7,6,5,4,3,2,1,0] [(103,sA E),(101,sA o),(100,.mpt 0 0 1),(99,.mpt 0 0 0),(98,.mpt 0 0 0),(97,.ipt 2 [[.isl 6 (List.map zb i),.imp (List.map (rKV (fun x=>iA x)) l)]] 0 0),(96,.mpt 0 0 0),(95,.mpt 0 0 0),(94,.mpt 0 0 0),(93,bA e),(92,bA e),(91,bA e),(90,sA o),(89,.mpt 0 0 1),(88,.mpt 0 0 0),(87,.mpt 0 0 0),(86,sA f.1),(85,.ipt 2 [[.isl 6 (List.map zb i),.imp (List.map (rKV (fun x=>iA x)) l)]] 0 0),(84,.mpt 0 0 0),(83,.mpt 0 0 0),(82,.mpt 0 0 0),(81,bA c),(80,bA c),(79,sA n.C),(78,.mpt 3 0 2),(77,sA f.1),(76,.ipt 2 [[.isl 6 (List.map zb i),.imp (List.map (rKV (fun x=>iA x)) l)]] 0 0),(75,.mpt 0 0 0),(74,.mpt 0 0 0),(73,.mpt 0 0 0),(72,.mpt 0 0 0)] 2 (by kernel_rfl) (by kernel_rfl) j0 (by kernel_rfl) (dtS ⟨(fun _=>pag (b:=e) j0 j0 j0 j0 d j0 (mv j0<|j4)),(fun _=>pag (b:=e) j0 j0 j0 j0 d j0 (ld ti9 j0 j0<|j4)),(fun _=>pag (b:=e) j0 j0 j0 j0 d j0 (fa zS j0 j0 j0<|j4)),(fun _=>pag (b:=e) j0 j0 j0 j0 d j0 (nc j0 j0<|j4)),(fun _=>pag (b:=e) j0 j0 j0 j0 d j0 (mv j0<|j4)),(fun _=>pag (b:=e) j0 j0 j0 j0 d j0 (ld zez j0 j0<|j4)),(fun _=>pag (b:=e) j0 j0 j0 j0 d j0 (fa zS j0 j0 j0<|j4)),(fun _=>pag (b:=e) j0 j0 j0 j0 d j0 (nc j0 j0<|j4)),(fun _=>pag (b:=e) j0 j0 j0 j0 d j0 (mv j0<|j4)),(fun _=>pa j0 j0 j0 j0 (mv j0<|j4)),(fun _=>pa j0 j0 j0 j0 (pkb j0 a j0<|j4)),(fun _=>pag (b:=c) j0 j0 j0 j0 a j0 (pc (zZ i l f.1 o K) j0 j0 j0<|j4)),(fun _=>pag (b:=c) j0 j0 j0 j0 a j0 (ld ti9 j0 j0<|j4)),(fun _=>pag (b:=c) j0 j0 j0 j0 a j0 (fa zS j0 j0 j0<|j4)),(fun _=>pag (b:=c) j0 j0 j0 j0 a j0 (nc j0 j0<|j4)),(fun _=>pag (b:=c) j0 j0 j0 j0 a j0 (mv j0<|j4)),(fun _=>pag (b:=c) j0 j0 j0 j0 a j0 (mv j0<|j4)),(fun _=>pag (b:=c) j0 j0 j0 j0 a j0 (ld zez j0 j0<|j4)),(fun _=>pag (b:=c) j0 j0 j0 j0 a j0 (fa zS j0 j0 j0<|j4)),(fun _=>pag (b:=c) j0 j0 j0 j0 a j0 (nc j0 j0<|j4)),(fun _=>pag (b:=c) j0 j0 j0 j0 a j0 (mv j0<|j4)),(fun _=>pa j0 j0 j0 j0 (mv j0<|j4)),(fun _=>pa j0 j0 j0 j0 (pc (zZ i l f.1 n.C G) j0 j0 j0<|j4)),(fun _=>pa j0 j0 j0 j0 (ld ti9 j0 j0<|j4)),(fun _=>pa j0 j0 j0 j0 (fa zcI j0 j0 j0<|j4)),(fun _=>pa j0 j0 j0 j0 (mv j0<|j4)),(fun _=>pa j0 j0 j0 j0 (ld zez j0 j0<|j4)),(fun _=>pa j0 j0 j0 j0 (fa zS j0 j0 j0<|j4)),(fun _=>pa j0 j0 j0 j0 (nc j0 j0<|j4)),(fun _=>pa j0 j0 j0 j0 (mv j0<|j4)),(fun _=>pa j0 j0 j0 j0 (mv j0<|j4)),j5⟩ (by kernel_rfl) j0 ⟨(fun _ _=>⟨_,j0,cg (b:=e) j0 d,sc [] (z7 i l o q16) j0 j0 j0 j0 ⟨(rnI j0),(rnI j0),j5⟩ j5<|⟨(.msl 5 0 (List.length T)),[33,32],[(105,bA I),(104,bA I),(102,.msl 5 0 (List.length T))],j0,j0,by kernel_rfl,j0,dtS ⟨(fun _=>pa j0 j0 j0 j0 (pkb j0 d j0<|j4)),(fun _=>pag (b:=e) j0 j0 j0 j0 d j0 (pcs (zI T E q17) j0 j0 (.cons (zi5 j0 (fun _=>j0)) (.cons (si j0) .nil)) zcq<|j4)),(fun _=>pag (b:=e) j0 j0 j0 j0 d j0 (mv j0<|j4)),(fun h=>by cases h),(fun _=>pag (b:=e) j0 j0 j0 j0 d j0 (fa zS j0 j0 j0<|j4)),(fun _=>pag (b:=e) j0 j0 j0 j0 d j0 (nc j0 j0<|j4)),(fun _=>pag (b:=e) j0 j0 j0 j0 d j0 (mv j0<|j4)),(fun h=>by cases h),(fun _=>pag (b:=e) j0 j0 j0 j0 d j0 (fa zS j0 j0 j0<|j4)),(fun _=>pag (b:=e) j0 j0 j0 j0 d j0 (nc j0 j0<|j4)),(fun _=>pag (b:=e) j0 j0 j0 j0 d j0 (mv j0<|j4)),(fun h=>by cases h),(fun _=>pa j0 j0 j0 j0 (pkb j0 a j0<|j4)),(fun _=>pag (b:=c) j0 j0 j0 j0 a j0 (pc (zZ i l f.1 o K) j0 j0 j0<|j4)),(fun _=>pag (b:=c) j0 j0 j0 j0 a j0 (ld ti9 j0 j0<|j4)),(fun _=>pag (b:=c) j0 j0 j0 j0 a j0 (fa zS j0 j0 j0<|j4)),(fun _=>pag (b:=c) j0 j0 j0 j0 a j0 (nc j0 j0<|j4)),(fun _=>pag (b:=c) j0 j0 j0 j0 a j0 (mv j0<|j4)),(fun _=>pag (b:=c) j0 j0 j0 j0 a j0 (mv j0<|j4)),(fun _=>pag (b:=c) j0 j0 j0 j0 a j0 (ld zez j0 j0<|j4)),(fun _=>pag (b:=c) j0 j0 j0 j0 a j0 (fa zS j0 j0 j0<|j4)),(fun _=>pag (b:=c) j0 j0 j0 j0 a j0 (nc j0 j0<|j4)),(fun _=>pag (b:=c) j0 j0 j0 j0 a j0 (mv j0<|j4)),(fun _=>pa j0 j0 j0 j0 (mv j0<|j4)),(fun _=>pa j0 j0 j0 j0 (pc (zZ i l f.1 n.C G) j0 j0 j0<|j4)),(fun _=>pa j0 j0 j0 j0 (ld ti9 j0 j0<|j4)),(fun _=>pa j0 j0 j0 j0 (fa zcI j0 j0 j0<|j4)),(fun _=>pa j0 j0 j0 j0 (mv j0<|j4)),(fun _=>pa j0 j0 j0 j0 (ld zez j0 j0<|j4)),(fun _=>pa j0 j0 j0 j0 (fa zS j0 j0 j0<|j4)),(fun _=>pa j0 j0 j0 j0 (nc j0 j0<|j4)),(fun _=>pa j0 j0 j0 j0 (mv j0<|j4)),(fun _=>pa j0 j0 j0 j0 (mv j0<|j4)),j5⟩ (by kernel_rfl) j0 ⟨(fun h=>by cases h),(fun _ _=>⟨_,j0,j0,sc [0,1,2] (args:=[.mpt 0 0 0,bA I]) (zo i l o p m f.2.1 f.2.2 I j0) j0 j0 j0 j0 ⟨(.mpt j0),(rnI j0),j5⟩ ⟨⟨_,j0,(zcH j0 ⟨(.msl j0),(.msl j0),(rnI j0),j5⟩)⟩,⟨j0,mkI (fun _=>j0)⟩,⟨j0,mkI (fun _=>j0)⟩,j5⟩<|⟨(.tup []),[],[(106,.tup [])],j0,j0,by kernel_rfl,j0,dt0 ⟨(fun h=>by cases h),(fun h=>by cases h),(fun _=>pag (b:=e) j0 j0 j0 j0 d j0 (mv j0<|j4)),(fun h=>by cases h),(fun _=>pag (b:=e) j0 j0 j0 j0 d j0 (fa zS j0 j0 j0<|j4)),(fun _=>pag (b:=e) j0 j0 j0 j0 d j0 (nc j0 j0<|j4)),(fun _=>pag (b:=e) j0 j0 j0 j0 d j0 (mv j0<|j4)),(fun h=>by cases h),(fun _=>pag (b:=e) j0 j0 j0 j0 d j0 (fa zS j0 j0 j0<|j4)),(fun _=>pag (b:=e) j0 j0 j0 j0 d j0 (nc j0 j0<|j4)),(fun _=>pag (b:=e) j0 j0 j0 j0 d j0 (mv j0<|j4)),(fun h=>by cases h),(fun _=>pa j0 j0 j0 j0 (pkb j0 a j0<|j4)),(fun _=>pag (b:=c) j0 j0 j0 j0 a j0 (pc (zZ i l f.1 o K) j0 j0 j0<|j4)),(fun _=>pag (b:=c) j0 j0 j0 j0 a j0 (ld ti9 j0 j0<|j4)),(fun _=>pag (b:=c) j0 j0 j0 j0 a j0 (fa zS j0 j0 j0<|j4)),(fun _=>pag (b:=c) j0 j0 j0 j0 a j0 (nc j0 j0<|j4)),(fun _=>pag (b:=c) j0 j0 j0 j0 a j0 (mv j0<|j4)),(fun _=>pag (b:=c) j0 j0 j0 j0 a j0 (mv j0<|j4)),(fun _=>pag (b:=c) j0 j0 j0 j0 a j0 (ld zez j0 j0<|j4)),(fun _=>pag (b:=c) j0 j0 j0 j0 a j0 (fa zS j0 j0 j0<|j4)),(fun _=>pag (b:=c) j0 j0 j0 j0 a j0 (nc j0 j0<|j4)),(fun _=>pag (b:=c) j0 j0 j0 j0 a j0 (mv j0<|j4)),(fun _=>pa j0 j0 j0 j0 (mv j0<|j4)),(fun _=>pa j0 j0 j0 j0 (pc (zZ i l f.1 n.C G) j0 j0 j0<|j4)),(fun _=>pa j0 j0 j0 j0 (ld ti9 j0 j0<|j4)),(fun _=>pa j0 j0 j0 j0 (fa zcI j0 j0 j0<|j4)),(fun _=>pa j0 j0 j0 j0 (mv j0<|j4)),(fun _=>pa j0 j0 j0 j0 (ld zez j0 j0<|j4)),(fun _=>pa j0 j0 j0 j0 (fa zS j0 j0 j0<|j4)),(fun _=>pa j0 j0 j0 j0 (nc j0 j0<|j4)),(fun _=>pa j0 j0 j0 j0 (mv j0<|j4)),(fun h=>by cases h),j5⟩ (by kernel_rfl) j0 ⟨[.old 0,.old 1,.old 2,.old 4],cv j0 (.mpt j0)<|cv j0 (.mpt j0)<|cn,j0,⟨⟨_,j0,zg (zQ j0 (by exact ⟨.msl j0,.msl j0,ci j0,j5⟩))⟩,⟨_,j0,zd (fun _=>j0)⟩,⟨_,j0,zd (fun _=>j0)⟩,⟨_,j0,zg (ciL j0)⟩,j5⟩,j0,j1⟩⟩⟩),j5⟩⟩⟩),(fun _ h=>by cases h),j5⟩) ?_
        exact ⟨⟨f.2.1,(f.2.2||(!I))⟩,h,[.old 0,.old 1,.old 2,.old 3],cv j0 (.mpt j0)<|cv j0 (.mpt j0)<|cn,j0,⟨⟨_,j0,zg (zQ j0 (by exact ⟨.msl j0,.msl j0,ci j0,j5⟩))⟩,⟨_,j0,zd (fun _=>j0)⟩,⟨_,j0,zd (fun _=>j0)⟩,⟨_,j0,zg (ciL j0)⟩,j5⟩,j0,j1⟩
       ·
        replace h:=bF d h
        refine rdL [(0,.mpt 0 0 0),(5,.mpt 3 0 0)] [some (15,[(vK i l o p (.msl 1 0 (List.length m)) (.msl 2 0 (List.length f.2.1)) (bA (f.2.2||(!false))))]),some (1,List.map zi m),some (1,List.map zi f.2.1),some (10,[(zf q)])] [34] [33,32,31,30,29,28,27,26,25,24,23,22,21,20,19,18,17,16,15,14,13,12,11,10,9,8,7,6,5,4,3,2,1,0] [(105,bA false),(104,.lit undef),(103,.lit undef),(102,.lit undef),(101,.lit undef),(100,.lit undef),(99,.lit undef),(98,.lit undef),(97,.lit undef),(96,.lit undef),(95,.lit undef),(94,.lit undef),(93,bA e),(92,bA e),(91,bA e),(90,sA o),(89,.mpt 0 0 1),(88,.mpt 0 0 0),(87,.mpt 0 0 0),(86,sA f.1),(85,.ipt 2 [[.isl 6 (List.map zb i),.imp (List.map (rKV (fun x=>iA x)) l)]] 0 0),(84,.mpt 0 0 0),(83,.mpt 0 0 0),(82,.mpt 0 0 0),(81,bA c),(80,bA c),(79,sA n.C),(78,.mpt 3 0 2),(77,sA f.1),(76,.ipt 2 [[.isl 6 (List.map zb i),.imp (List.map (rKV (fun x=>iA x)) l)]] 0 0),(75,.mpt 0 0 0),(74,.mpt 0 0 0),(73,.mpt 0 0 0),(72,.mpt 0 0 0)] 1 (by kernel_rfl) (by kernel_rfl) j0 (by kernel_rfl) (dtS ⟨(fun _=>pa j0 j0 j0 j0 (pkb j0 d j0<|j4)),(fun _=>pas (b:=e) j0 j0 j0 j0 d j0),(fun _=>pas (b:=e) j0 j0 j0 j0 d j0),(fun _=>pas (b:=e) j0 j0 j0 j0 d j0),(fun _=>pas (b:=e) j0 j0 j0 j0 d j0),(fun _=>pas (b:=e) j0 j0 j0 j0 d j0),(fun _=>pas (b:=e) j0 j0 j0 j0 d j0),(fun _=>pas (b:=e) j0 j0 j0 j0 d j0),(fun _=>pas (b:=e) j0 j0 j0 j0 d j0),(fun _=>pas (b:=e) j0 j0 j0 j0 d j0),(fun _=>pas (b:=e) j0 j0 j0 j0 d j0),(fun _=>pas (b:=e) j0 j0 j0 j0 d j0),(fun _=>pa j0 j0 j0 j0 (mv j0<|j4)),(fun _=>pa j0 j0 j0 j0 (pkb j0 a j0<|j4)),(fun _=>pag (b:=c) j0 j0 j0 j0 a j0 (pc (zZ i l f.1 o K) j0 j0 j0<|j4)),(fun _=>pag (b:=c) j0 j0 j0 j0 a j0 (ld ti9 j0 j0<|j4)),(fun _=>pag (b:=c) j0 j0 j0 j0 a j0 (fa zS j0 j0 j0<|j4)),(fun _=>pag (b:=c) j0 j0 j0 j0 a j0 (nc j0 j0<|j4)),(fun _=>pag (b:=c) j0 j0 j0 j0 a j0 (mv j0<|j4)),(fun _=>pag (b:=c) j0 j0 j0 j0 a j0 (mv j0<|j4)),(fun _=>pag (b:=c) j0 j0 j0 j0 a j0 (ld zez j0 j0<|j4)),(fun _=>pag (b:=c) j0 j0 j0 j0 a j0 (fa zS j0 j0 j0<|j4)),(fun _=>pag (b:=c) j0 j0 j0 j0 a j0 (nc j0 j0<|j4)),(fun _=>pag (b:=c) j0 j0 j0 j0 a j0 (mv j0<|j4)),(fun _=>pa j0 j0 j0 j0 (mv j0<|j4)),(fun _=>pa j0 j0 j0 j0 (pc (zZ i l f.1 n.C G) j0 j0 j0<|j4)),(fun _=>pa j0 j0 j0 j0 (ld ti9 j0 j0<|j4)),(fun _=>pa j0 j0 j0 j0 (fa zcI j0 j0 j0<|j4)),(fun _=>pa j0 j0 j0 j0 (mv j0<|j4)),(fun _=>pa j0 j0 j0 j0 (ld zez j0 j0<|j4)),(fun _=>pa j0 j0 j0 j0 (fa zS j0 j0 j0<|j4)),(fun _=>pa j0 j0 j0 j0 (nc j0 j0<|j4)),(fun _=>pa j0 j0 j0 j0 (mv j0<|j4)),(fun _=>pa j0 j0 j0 j0 (mv j0<|j4)),j5⟩ (by kernel_rfl) j0 ⟨(fun _ _=>⟨_,j0,j0,sc [0,1,2] (args:=[.mpt 0 0 0,bA false]) (zo i l o p m f.2.1 f.2.2 false j0) j0 j0 j0 j0 ⟨(.mpt j0),(rnI j0),j5⟩ ⟨⟨_,j0,(zcH j0 ⟨(.msl j0),(.msl j0),(rnI j0),j5⟩)⟩,⟨j0,mkI (fun _=>j0)⟩,⟨j0,mkI (fun _=>j0)⟩,j5⟩<|⟨(.tup []),[],[(106,.tup [])],j0,j0,by kernel_rfl,j0,dt0 ⟨(fun h=>by cases h),(fun h=>by cases h),(fun _=>pas (b:=e) j0 j0 j0 j0 d j0),(fun _=>pas (b:=e) j0 j0 j0 j0 d j0),(fun _=>pas (b:=e) j0 j0 j0 j0 d j0),(fun _=>pas (b:=e) j0 j0 j0 j0 d j0),(fun _=>pas (b:=e) j0 j0 j0 j0 d j0),(fun _=>pas (b:=e) j0 j0 j0 j0 d j0),(fun _=>pas (b:=e) j0 j0 j0 j0 d j0),(fun _=>pas (b:=e) j0 j0 j0 j0 d j0),(fun _=>pas (b:=e) j0 j0 j0 j0 d j0),(fun _=>pas (b:=e) j0 j0 j0 j0 d j0),(fun _=>pa j0 j0 j0 j0 (mv j0<|j4)),(fun _=>pa j0 j0 j0 j0 (pkb j0 a j0<|j4)),(fun _=>pag (b:=c) j0 j0 j0 j0 a j0 (pc (zZ i l f.1 o K) j0 j0 j0<|j4)),(fun _=>pag (b:=c) j0 j0 j0 j0 a j0 (ld ti9 j0 j0<|j4)),(fun _=>pag (b:=c) j0 j0 j0 j0 a j0 (fa zS j0 j0 j0<|j4)),(fun _=>pag (b:=c) j0 j0 j0 j0 a j0 (nc j0 j0<|j4)),(fun _=>pag (b:=c) j0 j0 j0 j0 a j0 (mv j0<|j4)),(fun _=>pag (b:=c) j0 j0 j0 j0 a j0 (mv j0<|j4)),(fun _=>pag (b:=c) j0 j0 j0 j0 a j0 (ld zez j0 j0<|j4)),(fun _=>pag (b:=c) j0 j0 j0 j0 a j0 (fa zS j0 j0 j0<|j4)),(fun _=>pag (b:=c) j0 j0 j0 j0 a j0 (nc j0 j0<|j4)),(fun _=>pag (b:=c) j0 j0 j0 j0 a j0 (mv j0<|j4)),(fun _=>pa j0 j0 j0 j0 (mv j0<|j4)),(fun _=>pa j0 j0 j0 j0 (pc (zZ i l f.1 n.C G) j0 j0 j0<|j4)),(fun _=>pa j0 j0 j0 j0 (ld ti9 j0 j0<|j4)),(fun _=>pa j0 j0 j0 j0 (fa zcI j0 j0 j0<|j4)),(fun _=>pa j0 j0 j0 j0 (mv j0<|j4)),(fun _=>pa j0 j0 j0 j0 (ld zez j0 j0<|j4)),(fun _=>pa j0 j0 j0 j0 (fa zS j0 j0 j0<|j4)),(fun _=>pa j0 j0 j0 j0 (nc j0 j0<|j4)),(fun _=>pa j0 j0 j0 j0 (mv j0<|j4)),(fun h=>by cases h),j5⟩ (by kernel_rfl) j0 ⟨[.old 0,.old 1,.old 2,.old 4],cv j0 (.mpt j0)<|cv j0 (.mpt j0)<|cn,j0,⟨⟨_,j0,zg (zQ j0 (by exact ⟨.msl j0,.msl j0,ci j0,j5⟩))⟩,⟨_,j0,zd (fun _=>j0)⟩,⟨_,j0,zd (fun _=>j0)⟩,⟨_,j0,zg (ciL j0)⟩,j5⟩,j0,j1⟩⟩⟩),j5⟩) ?_
        exact ⟨⟨f.2.1,(f.2.2||(!false))⟩,h,[.old 0,.old 1,.old 2,.old 3],cv j0 (.mpt j0)<|cv j0 (.mpt j0)<|cn,j0,⟨⟨_,j0,zg (zQ j0 (by exact ⟨.msl j0,.msl j0,ci j0,j5⟩))⟩,⟨_,j0,zd (fun _=>j0)⟩,⟨_,j0,zd (fun _=>j0)⟩,⟨_,j0,zg (ciL j0)⟩,j5⟩,j0,j1⟩
      ·
       replace h:=bF a h
       refine rdL [(0,.mpt 0 0 0),(5,.mpt 3 0 0)] [some (15,[(vK i l o p (.msl 1 0 (List.length m)) (.msl 2 0 (List.length f.2.1)) (bA (f.2.2||(!false))))]),some (1,List.map zi m),some (1,List.map zi f.2.1),some (10,[(zf q)])] [34] [33,32,31,30,29,28,27,26,25,24,23,22,21,20,19,18,17,16,15,14,13,12,11,10,9,8,7,6,5,4,3,2,1,0] [(105,bA false),(104,.lit undef),(103,.lit undef),(102,.lit undef),(101,.lit undef),(100,.lit undef),(99,.lit undef),(98,.lit undef),(97,.lit undef),(96,.lit undef),(95,.lit undef),(94,.lit undef),(93,bA false),(92,bA false),(91,.lit undef),(90,.lit undef),(89,.lit undef),(88,.lit undef),(87,.lit undef),(86,.lit undef),(85,.lit undef),(84,.lit undef),(83,.lit undef),(82,.lit undef),(81,bA c),(80,bA c),(79,sA n.C),(78,.mpt 3 0 2),(77,sA f.1),(76,.ipt 2 [[.isl 6 (List.map zb i),.imp (List.map (rKV (fun x=>iA x)) l)]] 0 0),(75,.mpt 0 0 0),(74,.mpt 0 0 0),(73,.mpt 0 0 0),(72,.mpt 0 0 0)] 1 (by kernel_rfl) (by kernel_rfl) j0 (by kernel_rfl) (dtS ⟨(fun _=>pa j0 j0 j0 j0 (pk (b:=false) j0 j0<|j4)),(fun _=>pas (b:=false) j0 j0 j0 j0 j0 j0),(fun _=>pas (b:=false) j0 j0 j0 j0 j0 j0),(fun _=>pas (b:=false) j0 j0 j0 j0 j0 j0),(fun _=>pas (b:=false) j0 j0 j0 j0 j0 j0),(fun _=>pas (b:=false) j0 j0 j0 j0 j0 j0),(fun _=>pas (b:=false) j0 j0 j0 j0 j0 j0),(fun _=>pas (b:=false) j0 j0 j0 j0 j0 j0),(fun _=>pas (b:=false) j0 j0 j0 j0 j0 j0),(fun _=>pas (b:=false) j0 j0 j0 j0 j0 j0),(fun _=>pas (b:=false) j0 j0 j0 j0 j0 j0),(fun _=>pas (b:=false) j0 j0 j0 j0 j0 j0),(fun _=>pa j0 j0 j0 j0 (mv j0<|j4)),(fun _=>pa j0 j0 j0 j0 (pkb j0 a j0<|j4)),(fun _=>pas (b:=c) j0 j0 j0 j0 a j0),(fun _=>pas (b:=c) j0 j0 j0 j0 a j0),(fun _=>pas (b:=c) j0 j0 j0 j0 a j0),(fun _=>pas (b:=c) j0 j0 j0 j0 a j0),(fun _=>pas (b:=c) j0 j0 j0 j0 a j0),(fun _=>pas (b:=c) j0 j0 j0 j0 a j0),(fun _=>pas (b:=c) j0 j0 j0 j0 a j0),(fun _=>pas (b:=c) j0 j0 j0 j0 a j0),(fun _=>pas (b:=c) j0 j0 j0 j0 a j0),(fun _=>pas (b:=c) j0 j0 j0 j0 a j0),(fun _=>pa j0 j0 j0 j0 (mv j0<|j4)),(fun _=>pa j0 j0 j0 j0 (pc (zZ i l f.1 n.C G) j0 j0 j0<|j4)),(fun _=>pa j0 j0 j0 j0 (ld ti9 j0 j0<|j4)),(fun _=>pa j0 j0 j0 j0 (fa zcI j0 j0 j0<|j4)),(fun _=>pa j0 j0 j0 j0 (mv j0<|j4)),(fun _=>pa j0 j0 j0 j0 (ld zez j0 j0<|j4)),(fun _=>pa j0 j0 j0 j0 (fa zS j0 j0 j0<|j4)),(fun _=>pa j0 j0 j0 j0 (nc j0 j0<|j4)),(fun _=>pa j0 j0 j0 j0 (mv j0<|j4)),(fun _=>pa j0 j0 j0 j0 (mv j0<|j4)),j5⟩ (by kernel_rfl) j0 ⟨(fun _ _=>⟨_,j0,j0,sc [0,1,2] (args:=[.mpt 0 0 0,bA false]) (zo i l o p m f.2.1 f.2.2 false j0) j0 j0 j0 j0 ⟨(.mpt j0),(rnI j0),j5⟩ ⟨⟨_,j0,(zcH j0 ⟨(.msl j0),(.msl j0),(rnI j0),j5⟩)⟩,⟨j0,mkI (fun _=>j0)⟩,⟨j0,mkI (fun _=>j0)⟩,j5⟩<|⟨(.tup []),[],[(106,.tup [])],j0,j0,by kernel_rfl,j0,dt0 ⟨(fun h=>by cases h),(fun h=>by cases h),(fun _=>pas (b:=false) j0 j0 j0 j0 j0 j0),(fun _=>pas (b:=false) j0 j0 j0 j0 j0 j0),(fun _=>pas (b:=false) j0 j0 j0 j0 j0 j0),(fun _=>pas (b:=false) j0 j0 j0 j0 j0 j0),(fun _=>pas (b:=false) j0 j0 j0 j0 j0 j0),(fun _=>pas (b:=false) j0 j0 j0 j0 j0 j0),(fun _=>pas (b:=false) j0 j0 j0 j0 j0 j0),(fun _=>pas (b:=false) j0 j0 j0 j0 j0 j0),(fun _=>pas (b:=false) j0 j0 j0 j0 j0 j0),(fun _=>pas (b:=false) j0 j0 j0 j0 j0 j0),(fun _=>pa j0 j0 j0 j0 (mv j0<|j4)),(fun _=>pa j0 j0 j0 j0 (pkb j0 a j0<|j4)),(fun _=>pas (b:=c) j0 j0 j0 j0 a j0),(fun _=>pas (b:=c) j0 j0 j0 j0 a j0),(fun _=>pas (b:=c) j0 j0 j0 j0 a j0),(fun _=>pas (b:=c) j0 j0 j0 j0 a j0),(fun _=>pas (b:=c) j0 j0 j0 j0 a j0),(fun _=>pas (b:=c) j0 j0 j0 j0 a j0),(fun _=>pas (b:=c) j0 j0 j0 j0 a j0),(fun _=>pas (b:=c) j0 j0 j0 j0 a j0),(fun _=>pas (b:=c) j0 j0 j0 j0 a j0),(fun _=>pas (b:=c) j0 j0 j0 j0 a j0),(fun _=>pa j0 j0 j0 j0 (mv j0<|j4)),(fun _=>pa j0 j0 j0 j0 (pc (zZ i l f.1 n.C G) j0 j0 j0<|j4)),(fun _=>pa j0 j0 j0 j0 (ld ti9 j0 j0<|j4)),(fun _=>pa j0 j0 j0 j0 (fa zcI j0 j0 j0<|j4)),(fun _=>pa j0 j0 j0 j0 (mv j0<|j4)),(fun _=>pa j0 j0 j0 j0 (ld zez j0 j0<|j4)),(fun _=>pa j0 j0 j0 j0 (fa zS j0 j0 j0<|j4)),(fun _=>pa j0 j0 j0 j0 (nc j0 j0<|j4)),(fun _=>pa j0 j0 j0 j0 (mv j0<|j4)),(fun h=>by cases h),j5⟩ (by kernel_rfl) j0 ⟨[.old 0,.old 1,.old 2,.old 4],cv j0 (.mpt j0)<|cv j0 (.mpt j0)<|cn,j0,⟨⟨_,j0,zg (zQ j0 (by exact ⟨.msl j0,.msl j0,ci j0,j5⟩))⟩,⟨_,j0,zd (fun _=>j0)⟩,⟨_,j0,zd (fun _=>j0)⟩,⟨_,j0,zg (ciL j0)⟩,j5⟩,j0,j1⟩⟩⟩),j5⟩) ?_
       exact ⟨⟨f.2.1,(f.2.2||(!false))⟩,h,[.old 0,.old 1,.old 2,.old 3],cv j0 (.mpt j0)<|cv j0 (.mpt j0)<|cn,j0,⟨⟨_,j0,zg (zQ j0 (by exact ⟨.msl j0,.msl j0,ci j0,j5⟩))⟩,⟨_,j0,zd (fun _=>j0)⟩,⟨_,j0,zd (fun _=>j0)⟩,⟨_,j0,zg (ciL j0)⟩,j5⟩,j0,j1⟩
     ·
      replace h:=bF L h
      refine zk ?_
      exact ⟨⟨v.1,v.2⟩,h,[.old 0,.old 1,.old 2,.old 4],cv j0 (.mpt j0)<|cv j0 (.mpt j0)<|cn,j0,⟨⟨_,j0,zg (zQ j0 (by exact ⟨.msl j0,.msl j0,ci j0,j5⟩))⟩,⟨_,j0,zd (fun _=>j0)⟩,⟨_,j0,zd (fun _=>j0)⟩,⟨_,j0,zg (ciL j0)⟩,j5⟩,j0,j1⟩
  ·
   rintro ⟨V,U⟩ h
   replace h:zah i l o p m q V U=some r:=h
   unfold zah at h
   refine rg j0<|u<|fa zN j0 j0 j0<|u<|ld ti9 j0 j0<|u<|sne ti9 j0 j0<|za ?_
   refine zh j0 (fun N=>?_) (fun N=>?_)
   ·
    replace h:=bT N h
    obtain ⟨W,q19,h⟩:=bs h
    refine rl j0<|u<|mv j0<|u<|fa zN j0 j0 j0<|u<|ld ti9 j0 j0<|u<|sc [0,1,2] (zr i l o p m V U q.Ret q19) j0 j0 j0 j0 ⟨(.mpt j0),(rnI j0),j5⟩ ⟨⟨_,j0,(zcH j0 ⟨(.msl j0),(.msl j0),(rnI j0),j5⟩)⟩,⟨j0,mkI (fun _=>j0)⟩,⟨j0,mkI (fun _=>j0)⟩,j5⟩<|zB (env0:=[]) (st0:=[some (15,[(vK i l o p (.msl 1 0 (List.length m)) (.msl 3 0 (List.length W)) (bA U))]),some (1,List.map zi m),none,some (1,List.map zi W)]) ⟨[.old 0,.old 1,.dead,.old 4],cn,j0,⟨⟨_,j0,zg (zQ j0 (by exact ⟨.msl j0,.msl j0,ci j0,j5⟩))⟩,⟨_,j0,zd (fun _=>j0)⟩,⟨_,j0,zd (fun _=>j0)⟩,j5⟩,j0,j1⟩<|za ?_
    obtain rfl:=sm h
    exact ⟨_,j0,[.old 0,.old 1,.dead,.old 3],z8 j5,j0,⟨⟨_,j0,zg (zQ j0 (by exact ⟨.msl j0,.msl j0,ci j0,j5⟩))⟩,⟨_,j0,zd (fun _=>j0)⟩,⟨_,j0,zd (fun _=>j0)⟩,j5⟩,j0,j1⟩
   ·
    replace h:=bF N h
    refine zk ?_
    obtain rfl:=sm h
    exact ⟨_,j0,[.old 0,.old 1,.dead,.old 2],z8 j5,j0,⟨⟨_,j0,zg (zQ j0 (by exact ⟨.msl j0,.msl j0,ci j0,j5⟩))⟩,⟨_,j0,zd (fun _=>j0)⟩,⟨_,j0,zd (fun _=>j0)⟩,j5⟩,j0,j1⟩
def zfO (e:List zc) (f:List (List UInt8×Int)) (i:List UInt8) (a:ze) (j:List (List UInt8)) (c:List (List UInt8)) (d:Bool) (l:Int):Option ((List (List UInt8))×Bool) :=
  cond (l == (46:Int)) (some (c,(d||(!(a.Ret == [86]))))) (cond (l == (47:Int)) ((zx e f i a j c (d||(!(a.Ret == [73]))) ([[73]])).bind fun m=>some (m.1,m.2)) ((zjf a.Ret).bind fun n=>(zx e f i a j c (d||(!n)) [a.Ret]).bind fun b=>some (b.1,b.2)))
theorem zjc (d:List zc) (e:List (List UInt8×Int)) (f:List UInt8) (a:ze) (b:List (List UInt8)) (c:List (List UInt8)) (i:Bool) (p:Int) {r:(List (List UInt8))×Bool} (h:zfO d e f a b c i p=some r):SC Tryz.prog 285 [.mpt 0 0 0,iA p] [.one 15 (vK d e f a (.msl 1 0 (List.length b)) (.msl 2 0 (List.length c)) (bA i)),.many 1 (List.map zi b),.many 1 (List.map zi c)] (.tup []) [.one 15 (vK d e f a (.msl 1 0 (List.length b)) (.msl 2 0 (List.length r.1)) (bA r.2)),.many 1 (List.map zi b),.many 1 (List.map zi r.1)]:=by
 refine ⟨⟨j5,zeU (sz:=1) (fun _=>j0),zeU (sz:=1) (fun _=>j0),j5⟩,zad Tryz.func285 j0 (by kernel_rfl) j0 ?_⟩
 unfold zfO at h
 refine zq ?_
 refine rg j0<|u<|mv j0<|u<|eql ti3 j0 j0<|u<|asg j0<|za ?_
 refine zh j0 (fun l=>?_) (fun l=>?_)
 ·
  replace h:=bT l h
  refine rl j0<|u<|mv j0<|u<|mv j0<|u<|nc j0 j0<|u<|fa zS j0 j0 j0<|u<|fa zN j0 j0 j0<|u<|ld ti9 j0 j0<|u<|seq ti9 j0 j0<|u<|sc [0,1,2] (zo d e f a b c i (a.Ret == [86]) j0) j0 j0 j0 j0 ⟨(.mpt j0),(rnI j0),j5⟩ ⟨⟨_,j0,(zcH j0 ⟨(.msl j0),(.msl j0),(rnI j0),j5⟩)⟩,⟨j0,mkI (fun _=>j0)⟩,⟨j0,mkI (fun _=>j0)⟩,j5⟩<|zB (env0:=[]) (st0:=[some (15,[(vK d e f a (.msl 1 0 (List.length b)) (.msl 2 0 (List.length c)) (bA (i||(!(a.Ret == [86])))))]),some (1,List.map zi b),some (1,List.map zi c)]) ⟨[.old 0,.old 1,.old 2],cn,j0,⟨⟨_,j0,zg (zQ j0 (by exact ⟨.msl j0,.msl j0,ci j0,j5⟩))⟩,⟨_,j0,zd (fun _=>j0)⟩,⟨_,j0,zd (fun _=>j0)⟩,j5⟩,j0,j1⟩<|za ?_
  obtain rfl:=sm h
  exact ⟨_,j0,[.old 0,.old 1,.old 2],z8 j5,j0,⟨⟨_,j0,zg (zQ j0 (by exact ⟨.msl j0,.msl j0,ci j0,j5⟩))⟩,⟨_,j0,zd (fun _=>j0)⟩,⟨_,j0,zd (fun _=>j0)⟩,j5⟩,j0,j1⟩
 ·
  replace h:=bF l h
  refine rg j0<|u<|mv j0<|u<|eql ti3 j0 j0<|u<|asg j0<|za ?_
  refine zh j0 (fun m=>?_) (fun m=>?_)
  ·
   replace h:=bT m h
   refine rg j0<|u<|mv j0<|u<|mv j0<|u<|nc j0 j0<|u<|fa zS j0 j0 j0<|u<|fa zN j0 j0 j0<|u<|ld ti9 j0 j0<|u<|seq ti9 j0 j0<|u<|sc [0,1,2] (zo d e f a b c i (a.Ret == [73]) j0) j0 j0 j0 j0 ⟨(.mpt j0),(rnI j0),j5⟩ ⟨⟨_,j0,(zcH j0 ⟨(.msl j0),(.msl j0),(rnI j0),j5⟩)⟩,⟨j0,mkI (fun _=>j0)⟩,⟨j0,mkI (fun _=>j0)⟩,j5⟩<|zB (env0:=[(0,.mpt 0 0 0)]) (st0:=[some (15,[(vK d e f a (.msl 1 0 (List.length b)) (.msl 2 0 (List.length c)) (bA (i||(!(a.Ret == [73])))))]),some (1,List.map zi b),some (1,List.map zi c)]) ⟨[.old 0,.old 1,.old 2],cv j0 (.mpt j0)<|cn,j0,⟨⟨_,j0,zg (zQ j0 (by exact ⟨.msl j0,.msl j0,ci j0,j5⟩))⟩,⟨_,j0,zd (fun _=>j0)⟩,⟨_,j0,zd (fun _=>j0)⟩,j5⟩,j0,j1⟩<|za ?_
   obtain ⟨o,q,h⟩:=bs h
   refine rl j0<|u<|mv j0<|u<|bl 3 zM j0 ti9 j0 (by decide) (by decide) j0 j0 j0<|zB (env0:=[(42,.mpt 0 0 0),(43,.isl 1 (List.map zi ([[73]])))]) (st0:=[some (15,[(vK d e f a (.msl 1 0 (List.length b)) (.msl 2 0 (List.length c)) (bA (i||(!(a.Ret == [73])))))]),some (1,List.map zi b),some (1,List.map zi c)]) ⟨[.old 0,.old 1,.old 2],cv j0 (.mpt j0)<|cv j0 (zc1 j0 j0 ⟨⟨⟨ci j0,j5⟩,j0⟩,j5⟩)<|cn,j0,⟨⟨_,j0,zg (zQ j0 (by exact ⟨.msl j0,.msl j0,ci j0,j5⟩))⟩,⟨_,j0,zd (fun _=>j0)⟩,⟨_,j0,zd (fun _=>j0)⟩,j5⟩,j0,j1⟩<|u<|sc [0,1,2] (zt d e f a b c (i||(!(a.Ret == [73]))) ([[73]]) q) j0 j0 j0 j0 ⟨(.mpt j0),(rnI j0),j5⟩ ⟨⟨_,j0,(zcH j0 ⟨(.msl j0),(.msl j0),(rnI j0),j5⟩)⟩,⟨j0,mkI (fun _=>j0)⟩,⟨j0,mkI (fun _=>j0)⟩,j5⟩<|zB (env0:=[]) (st0:=[some (15,[(vK d e f a (.msl 1 0 (List.length b)) (.msl 2 0 (List.length o.1)) (bA o.2))]),some (1,List.map zi b),some (1,List.map zi o.1)]) ⟨[.old 0,.old 1,.old 2],cn,j0,⟨⟨_,j0,zg (zQ j0 (by exact ⟨.msl j0,.msl j0,ci j0,j5⟩))⟩,⟨_,j0,zd (fun _=>j0)⟩,⟨_,j0,zd (fun _=>j0)⟩,j5⟩,j0,j1⟩<|za ?_
   obtain rfl:=sm h
   exact ⟨_,j0,[.old 0,.old 1,.old 2],z8 j5,j0,⟨⟨_,j0,zg (zQ j0 (by exact ⟨.msl j0,.msl j0,ci j0,j5⟩))⟩,⟨_,j0,zd (fun _=>j0)⟩,⟨_,j0,zd (fun _=>j0)⟩,j5⟩,j0,j1⟩
  ·
   replace h:=bF m h
   obtain ⟨j,s,h⟩:=bs h
   refine rg j0<|u<|mv j0<|u<|mv j0<|u<|nc j0 j0<|u<|fa zS j0 j0 j0<|u<|fa zN j0 j0 j0<|u<|ld ti9 j0 j0<|u<|pc (zh9 a.Ret s) j0 j0 j0<|u<|sc [0,1,2] (zo d e f a b c i j j0) j0 j0 j0 j0 ⟨(.mpt j0),(rnI j0),j5⟩ ⟨⟨_,j0,(zcH j0 ⟨(.msl j0),(.msl j0),(rnI j0),j5⟩)⟩,⟨j0,mkI (fun _=>j0)⟩,⟨j0,mkI (fun _=>j0)⟩,j5⟩<|zB (env0:=[(0,.mpt 0 0 0)]) (st0:=[some (15,[(vK d e f a (.msl 1 0 (List.length b)) (.msl 2 0 (List.length c)) (bA (i||(!j))))]),some (1,List.map zi b),some (1,List.map zi c)]) ⟨[.old 0,.old 1,.old 2],cv j0 (.mpt j0)<|cn,j0,⟨⟨_,j0,zg (zQ j0 (by exact ⟨.msl j0,.msl j0,ci j0,j5⟩))⟩,⟨_,j0,zd (fun _=>j0)⟩,⟨_,j0,zd (fun _=>j0)⟩,j5⟩,j0,j1⟩<|za ?_
   obtain ⟨n,v,h⟩:=bs h
   refine rl j0<|u<|mv j0<|u<|mv j0<|u<|nc j0 j0<|u<|fa zS j0 j0 j0<|u<|fa zN j0 j0 j0<|u<|ld ti9 j0 j0<|u<|bl 3 zM j0 ti9 j0 (by decide) (by decide) j0 j0 j0<|zB (env0:=[(12,.mpt 0 0 0),(18,.isl 1 (List.map zi [a.Ret]))]) (st0:=[some (15,[(vK d e f a (.msl 1 0 (List.length b)) (.msl 2 0 (List.length c)) (bA (i||(!j))))]),some (1,List.map zi b),some (1,List.map zi c)]) ⟨[.old 0,.old 1,.old 2],cv j0 (.mpt j0)<|cv j0 (zc1 j0 j0 ⟨⟨⟨ci j0,j5⟩,j0⟩,j5⟩)<|cn,j0,⟨⟨_,j0,zg (zQ j0 (by exact ⟨.msl j0,.msl j0,ci j0,j5⟩))⟩,⟨_,j0,zd (fun _=>j0)⟩,⟨_,j0,zd (fun _=>j0)⟩,j5⟩,j0,j1⟩<|u<|sc [0,1,2] (zt d e f a b c (i||(!j)) [a.Ret] v) j0 j0 j0 j0 ⟨(.mpt j0),(rnI j0),j5⟩ ⟨⟨_,j0,(zcH j0 ⟨(.msl j0),(.msl j0),(rnI j0),j5⟩)⟩,⟨j0,mkI (fun _=>j0)⟩,⟨j0,mkI (fun _=>j0)⟩,j5⟩<|zB (env0:=[]) (st0:=[some (15,[(vK d e f a (.msl 1 0 (List.length b)) (.msl 2 0 (List.length n.1)) (bA n.2))]),some (1,List.map zi b),some (1,List.map zi n.1)]) ⟨[.old 0,.old 1,.old 2],cn,j0,⟨⟨_,j0,zg (zQ j0 (by exact ⟨.msl j0,.msl j0,ci j0,j5⟩))⟩,⟨_,j0,zd (fun _=>j0)⟩,⟨_,j0,zd (fun _=>j0)⟩,j5⟩,j0,j1⟩<|za ?_
   obtain rfl:=sm h
   exact ⟨_,j0,[.old 0,.old 1,.old 2],z8 j5,j0,⟨⟨_,j0,zg (zQ j0 (by exact ⟨.msl j0,.msl j0,ci j0,j5⟩))⟩,⟨_,j0,zd (fun _=>j0)⟩,⟨_,j0,zd (fun _=>j0)⟩,j5⟩,j0,j1⟩
def zje (a:List UInt8):Option ((List UInt8)) :=
  (zgC a).bind fun b=>(cond (!b) (some true) ((zsW [91] a).bind fun c=>(zgC c).bind fun d=>some (!d))).bind fun e=>cond e (some []) ((zsW [91] a).bind fun f=>some f)
theorem zkk (d:List UInt8) {r:(List UInt8)} (h:zje d=some r):zu Tryz.prog 221 [sA d] (sA r):=by
 refine zn Tryz.func221 j0 (by kernel_rfl) j0 j0 ?_
 unfold zje at h
 refine rg j0<|u<|asg j0<|za ?_
 refine zl ?_
 obtain ⟨o,e,h⟩:=bs h
 obtain ⟨f,a,h⟩:=bs h
 refine rg j0<|u<|mv j0<|u<|pc (zfj d e) j0 j0 j0<|u<|nt j0<|u<|mv j0<|zfo (x:=f) (j:=3) 4 j0 j0 j0 j0 j0 gpn (fun b=>by replace a:=bF b a; obtain ⟨i,l,a⟩:=bs a; obtain ⟨p,m,a⟩:=bs a; obtain rfl:=sm a; exact g j0 b<|mv j0<|g j0 b<|zr3 ti9 j0 j0 l<|g j0 b<|pc (zfj i m) j0 j0 j0<|g j0 b<|nt j0<|za (eg [7,8,9,10] 4 j0 j0 j0 j0)) (fun hb=>(sm (bT hb a)).symm)<|za ?_
 refine zh j0 (fun c=>?_) (fun c=>?_)
 ·
  replace h:=bT c h
  refine rg j0<|u<|asg j0<|za ?_
  refine zj ?_
  obtain rfl:=sm h
  exact ⟨_,j0,[],ci j0,j0,j5,j0,j1⟩
 ·
  replace h:=bF c h
  refine zk ?_
  obtain ⟨q,n,h⟩:=bs h
  refine rg j0<|u<|mv j0<|u<|zr3 ti9 j0 j0 n<|u<|asg j0<|za ?_
  refine zj ?_
  obtain rfl:=sm h
  exact ⟨_,j0,[],ci j0,j0,j5,j0,j1⟩
def zc9 (c:List zc) (d:List (List UInt8×Int)) (e:List UInt8) (f:ze) (i:List (List UInt8)) (j:List (List UInt8)) (l:Bool):Option ((List UInt8)×(List (List UInt8))×Bool) :=
  (z2 c d e f i j l).bind fun a=>(zeW a.1).bind fun b=>cond (a.1 == [78]) (some (a.1,a.2.1,(a.2.2||(!((a.1 == [78])||(b.2&&(!(b.1 == [73])))))))) (some (b.1,a.2.1,(a.2.2||(!((a.1 == [78])||(b.2&&(!(b.1 == [73]))))))))
theorem zfM (c:List zc) (d:List (List UInt8×Int)) (e:List UInt8) (f:ze) (b:List (List UInt8)) (o:List (List UInt8)) (p:Bool) {r:(List UInt8)×(List (List UInt8))×Bool} (h:zc9 c d e f b o p=some r):SC Tryz.prog 342 [.mpt 0 0 0] [.one 15 (vK c d e f (.msl 1 0 (List.length b)) (.msl 2 0 (List.length o)) (bA p)),.many 1 (List.map zi b),.many 1 (List.map zi o)] (sA r.1) [.one 15 (vK c d e f (.msl 1 0 (List.length b)) (.msl 2 0 (List.length r.2.1)) (bA r.2.2)),.many 1 (List.map zi b),.many 1 (List.map zi r.2.1)]:=by
 refine ⟨⟨j5,zeU (sz:=1) (fun _=>j0),zeU (sz:=1) (fun _=>j0),j5⟩,zad Tryz.func342 j0 (by kernel_rfl) j0 ?_⟩
 unfold zc9 at h
 refine rg j0<|u<|asg j0<|za ?_
 obtain ⟨a,q,h⟩:=bs h
 refine rg j0<|u<|mv j0<|u<|sc [0,1,2] (zX c d e f b o p q) j0 j0 j0 j0 ⟨(.mpt j0),j5⟩ ⟨⟨_,j0,(zcH j0 ⟨(.msl j0),(.msl j0),(rnI j0),j5⟩)⟩,⟨j0,mkI (fun _=>j0)⟩,⟨j0,mkI (fun _=>j0)⟩,j5⟩<|zB (env0:=[(0,.mpt 0 0 0),(7,sA a.1)]) (st0:=[some (15,[(vK c d e f (.msl 1 0 (List.length b)) (.msl 2 0 (List.length a.2.1)) (bA a.2.2))]),some (1,List.map zi b),some (1,List.map zi a.2.1)]) ⟨[.old 0,.old 1,.old 2],cv j0 (.mpt j0)<|ce j0 j0<|cn,j0,⟨⟨_,j0,zg (zQ j0 (by exact ⟨.msl j0,.msl j0,ci j0,j5⟩))⟩,⟨_,j0,zd (fun _=>j0)⟩,⟨_,j0,zd (fun _=>j0)⟩,j5⟩,j0,j1⟩<|u<|asg j0<|za ?_
 obtain ⟨l,s,h⟩:=bs h
 refine rg j0<|u<|mv j0<|u<|pc (zdo a.1 s) j0 j0 j0<|u<|mv j0<|u<|ex j0 j0<|u<|ex j0 j0<|u<|asg j0<|u<|asg j0<|za ?_
 refine rg j0<|u<|mv j0<|u<|mv j0<|u<|seq ti9 j0 j0<|u<|mv j0<|zfo (j:=3) 5 j0 j0 j0 j0 j0 gpn (fun i=>g j0 i<|mv j0<|g j0 i<|mv j0<|za7 (j:=5) 2 j0 j0 j0 j0 j0 (gps j0 j0 i) (fun m=>g j0 m<|mv j0<|g j0 m<|sne ti9 j0 j0<|za (egA [19,20] 2 m j0 j0 j0 j0)) ziy<|za (egO [17,18,19,20,21] 3 i j0 j0 j0 j0)) orT<|u<|sc [0,1,2] (zo c d e f b a.2.1 a.2.2 ((a.1 == [78])||(l.2&&(!(l.1 == [73])))) j0) j0 j0 j0 j0 ⟨(.mpt j0),(rnI j0),j5⟩ ⟨⟨_,j0,(zcH j0 ⟨(.msl j0),(.msl j0),(rnI j0),j5⟩)⟩,⟨j0,mkI (fun _=>j0)⟩,⟨j0,mkI (fun _=>j0)⟩,j5⟩<|zB (env0:=[(3,sA a.1),(4,sA l.1)]) (st0:=[some (15,[(vK c d e f (.msl 1 0 (List.length b)) (.msl 2 0 (List.length a.2.1)) (bA (a.2.2||(!((a.1 == [78])||(l.2&&(!(l.1 == [73]))))))))]),some (1,List.map zi b),some (1,List.map zi a.2.1)]) ⟨[.old 0,.old 1,.old 2],ce j0 j0<|ce j0 j0<|cn,j0,⟨⟨_,j0,zg (zQ j0 (by exact ⟨.msl j0,.msl j0,ci j0,j5⟩))⟩,⟨_,j0,zd (fun _=>j0)⟩,⟨_,j0,zd (fun _=>j0)⟩,j5⟩,j0,j1⟩<|za ?_
 refine zl ?_
 refine rg j0<|u<|mv j0<|u<|seq ti9 j0 j0<|za ?_
 refine zh j0 (fun n=>?_) (fun n=>?_)
 ·
  replace h:=bT n h
  refine rg j0<|u<|mv j0<|u<|asg j0<|za ?_
  refine zj ?_
  obtain rfl:=sm h
  exact ⟨_,j0,[.old 0,.old 1,.old 2],ci j0,j0,⟨⟨_,j0,zg (zQ j0 (by exact ⟨.msl j0,.msl j0,ci j0,j5⟩))⟩,⟨_,j0,zd (fun _=>j0)⟩,⟨_,j0,zd (fun _=>j0)⟩,j5⟩,j0,j1⟩
 ·
  replace h:=bF n h
  refine zk ?_
  refine rg j0<|u<|mv j0<|u<|asg j0<|za ?_
  refine zj ?_
  obtain rfl:=sm h
  exact ⟨_,j0,[.old 0,.old 1,.old 2],ci j0,j0,⟨⟨_,j0,zg (zQ j0 (by exact ⟨.msl j0,.msl j0,ci j0,j5⟩))⟩,⟨_,j0,zd (fun _=>j0)⟩,⟨_,j0,zd (fun _=>j0)⟩,j5⟩,j0,j1⟩
end
end Go.Proofs.YthmnlfenkhmmhaaGreat
namespace Go.Proofs.YthmnlfenkhmmhaaGreat
noncomputable section
set_option linter.unusedSimpArgs false
set_option linter.unusedVariables false
set_option maxRecDepth 100000
set_option maxHeartbeats 4000000
def zew (a:List zc) (b:List (List UInt8×Int)) (c:List UInt8) (d:ze) (e:List (List UInt8)) (i:List (List UInt8)) (j:Bool) (l:zA):Option ((List (List UInt8))×Bool) :=
  cond (l.Op == (49:Int)) ((zx a b c d e i j ([[73]])).bind fun E=>(zs a b c d e E.1 E.2 [91,73]).bind fun F=>some (F,E.2)) (cond (l.Op == (50:Int)) ((zje l.C).bind fun n=>(cond (!(n == [])) ((zcJ a b n).bind fun G=>some G) (some false)).bind fun H=>(zx a b c d e i (j||(!H)) ([[73]])).bind fun o=>(zs a b c d e o.1 o.2 n).bind fun I=>some (I,o.2)) (cond (l.Op == (51:Int)) ((z2 a b c d e i j).bind fun f=>(zeW f.1).bind fun q=>(zs a b c d e f.2.1 (f.2.2||(!(q.2||(f.1 == [78])))) [73]).bind fun J=>some (J,(f.2.2||(!(q.2||(f.1 == [78])))))) (cond (l.Op == (52:Int)) ((zx a b c d e i j ([[91,73],[73]])).bind fun p=>(zs a b c d e p.1 p.2 [73]).bind fun K=>some (K,p.2)) (cond (l.Op == (53:Int)) ((zx a b c d e i j ([[91,73],[73],[73]])).bind fun s=>some (s.1,s.2)) (cond (l.Op == (54:Int)) ((zx a b c d e i j ([[73]])).bind fun v=>(zc9 a b c d e v.1 v.2).bind fun m=>(zs a b c d e m.2.1 m.2.2 m.1).bind fun L=>some (L,m.2.2)) ((zb3 a b c d e i j).bind fun x=>(zx a b c d e x.2.1 x.2.2 ([[73]])).bind fun B=>(zc9 a b c d e B.1 B.2).bind fun D=>some (D.2.1,D.2.2)))))))
theorem zhR (b:List zc) (c:List (List UInt8×Int)) (d:List UInt8) (e:ze) (a:List (List UInt8)) (i:List (List UInt8)) (l:Bool) (V:zA) {r:(List (List UInt8))×Bool} (h:zew b c d e a i l V=some r):SC Tryz.prog 286 [.mpt 0 0 0,.agg (zw V)] [.one 15 (vK b c d e (.msl 1 0 (List.length a)) (.msl 2 0 (List.length i)) (bA l)),.many 1 (List.map zi a),.many 1 (List.map zi i)] (.tup []) [.one 15 (vK b c d e (.msl 1 0 (List.length a)) (.msl 3 0 (List.length r.1)) (bA r.2)),.many 1 (List.map zi a),.no,.many 1 (List.map zi r.1)]:=by
 refine ⟨⟨j5,zeU (sz:=1) (fun _=>j0),j5,zeU (sz:=1) (fun _=>j0),j5⟩,zad Tryz.func286 j0 (by kernel_rfl) j0 ?_⟩
 unfold zew at h
 refine rg j0<|u<|bx 3 4 j0 j0 j0 j0<|za ?_
 refine rg j0<|u<|fa zcI j0 j0 j0<|u<|ld ti3 j0 j0<|za ?_
 refine zq ?_
 refine rg j0<|u<|eql ti3 j0 j0<|u<|asg j0<|za ?_
 refine zh j0 (fun M=>?_) (fun M=>?_)
 ·
  replace h:=bT M h
  obtain ⟨K,q2,h⟩:=bs h
  refine rg j0<|u<|mv j0<|u<|bl 4 zM j0 ti9 j0 (by decide) (by decide) j0 j0 j0<|zB (env0:=[(0,.mpt 0 0 0),(19,.mpt 0 0 0),(20,.isl 1 (List.map zi ([[73]])))]) (st0:=[some (15,[(vK b c d e (.msl 1 0 (List.length a)) (.msl 2 0 (List.length i)) (bA l))]),some (1,List.map zi a),some (1,List.map zi i)]) ⟨[.old 0,.old 1,.old 2],cv j0 (.mpt j0)<|cv j0 (.mpt j0)<|cv j0 (zc1 j0 j0 ⟨⟨⟨ci j0,j5⟩,j0⟩,j5⟩)<|cn,j0,⟨⟨_,j0,zg (zQ j0 (by exact ⟨.msl j0,.msl j0,ci j0,j5⟩))⟩,⟨_,j0,zd (fun _=>j0)⟩,⟨_,j0,zd (fun _=>j0)⟩,j5⟩,j0,j1⟩<|u<|sc [0,1,2] (zt b c d e a i l ([[73]]) q2) j0 j0 j0 j0 ⟨(.mpt j0),(rnI j0),j5⟩ ⟨⟨_,j0,(zcH j0 ⟨(.msl j0),(.msl j0),(rnI j0),j5⟩)⟩,⟨j0,mkI (fun _=>j0)⟩,⟨j0,mkI (fun _=>j0)⟩,j5⟩<|zB (env0:=[(0,.mpt 0 0 0)]) (st0:=[some (15,[(vK b c d e (.msl 1 0 (List.length a)) (.msl 2 0 (List.length K.1)) (bA K.2))]),some (1,List.map zi a),some (1,List.map zi K.1)]) ⟨[.old 0,.old 1,.old 2],cv j0 (.mpt j0)<|cn,j0,⟨⟨_,j0,zg (zQ j0 (by exact ⟨.msl j0,.msl j0,ci j0,j5⟩))⟩,⟨_,j0,zd (fun _=>j0)⟩,⟨_,j0,zd (fun _=>j0)⟩,j5⟩,j0,j1⟩<|za ?_
  obtain ⟨Q,q3,h⟩:=bs h
  refine rl j0<|u<|mv j0<|u<|sc [0,1,2] (zr b c d e a K.1 K.2 [91,73] q3) j0 j0 j0 j0 ⟨(.mpt j0),(rnI j0),j5⟩ ⟨⟨_,j0,(zcH j0 ⟨(.msl j0),(.msl j0),(rnI j0),j5⟩)⟩,⟨j0,mkI (fun _=>j0)⟩,⟨j0,mkI (fun _=>j0)⟩,j5⟩<|zB (env0:=[]) (st0:=[some (15,[(vK b c d e (.msl 1 0 (List.length a)) (.msl 3 0 (List.length Q)) (bA K.2))]),some (1,List.map zi a),none,some (1,List.map zi Q)]) ⟨[.old 0,.old 1,.dead,.old 3],cn,j0,⟨⟨_,j0,zg (zQ j0 (by exact ⟨.msl j0,.msl j0,ci j0,j5⟩))⟩,⟨_,j0,zd (fun _=>j0)⟩,⟨_,j0,zd (fun _=>j0)⟩,j5⟩,j0,j1⟩<|za ?_
  obtain rfl:=sm h
  exact ⟨_,j0,[.old 0,.old 1,.dead,.old 3],z8 j5,j0,⟨⟨_,j0,zg (zQ j0 (by exact ⟨.msl j0,.msl j0,ci j0,j5⟩))⟩,⟨_,j0,zd (fun _=>j0)⟩,⟨_,j0,zd (fun _=>j0)⟩,j5⟩,j0,j1⟩
 ·
  replace h:=bF M h
  refine rg j0<|u<|eql ti3 j0 j0<|u<|asg j0<|za ?_
  refine zh j0 (fun N=>?_) (fun N=>?_)
  ·
   replace h:=bT N h
   obtain ⟨s,q5,h⟩:=bs h
   refine rg j0<|u<|fa zcI j0 j0 j0<|u<|ld ti9 j0 j0<|u<|pc (zkk V.C q5) j0 j0 j0<|u<|asg j0<|za ?_
   obtain ⟨v,L,h⟩:=bs h
   refine rg j0<|u<|mv j0<|u<|mv j0<|u<|sne ti9 j0 j0<|u<|mv j0<|za7 (x:=v) (j:=3) 6 j0 j0 j0 j0 j0 gpn (fun o=>by replace L:=bT o L; obtain ⟨v12,q7,L⟩:=bs L; obtain rfl:=sm L; exact g j0 o<|mv j0<|g j0 o<|nc j0 j0<|g j0 o<|fa zS j0 j0 j0<|g j0 o<|ld zez j0 j0<|g j0 o<|mv j0<|g j0 o<|pc (zcK b c s q7) j0 j0 j0<|za (eg [33,34,35,36,37,38] 6 j0 j0 j0 j0)) (fun hb=>(sm (bF hb L)).symm)<|u<|sc [0,1,2] (zo b c d e a i l v j0) j0 j0 j0 j0 ⟨(.mpt j0),(rnI j0),j5⟩ ⟨⟨_,j0,(zcH j0 ⟨(.msl j0),(.msl j0),(rnI j0),j5⟩)⟩,⟨j0,mkI (fun _=>j0)⟩,⟨j0,mkI (fun _=>j0)⟩,j5⟩<|zB (env0:=[(0,.mpt 0 0 0),(4,sA s)]) (st0:=[some (15,[(vK b c d e (.msl 1 0 (List.length a)) (.msl 2 0 (List.length i)) (bA (l||(!v))))]),some (1,List.map zi a),some (1,List.map zi i)]) ⟨[.old 0,.old 1,.old 2],cv j0 (.mpt j0)<|ce j0 j0<|cn,j0,⟨⟨_,j0,zg (zQ j0 (by exact ⟨.msl j0,.msl j0,ci j0,j5⟩))⟩,⟨_,j0,zd (fun _=>j0)⟩,⟨_,j0,zd (fun _=>j0)⟩,j5⟩,j0,j1⟩<|za ?_
   obtain ⟨p,q9,h⟩:=bs h
   refine rg j0<|u<|mv j0<|u<|bl 3 zM j0 ti9 j0 (by decide) (by decide) j0 j0 j0<|zB (env0:=[(0,.mpt 0 0 0),(4,sA s),(41,.mpt 0 0 0),(42,.isl 1 (List.map zi ([[73]])))]) (st0:=[some (15,[(vK b c d e (.msl 1 0 (List.length a)) (.msl 2 0 (List.length i)) (bA (l||(!v))))]),some (1,List.map zi a),some (1,List.map zi i)]) ⟨[.old 0,.old 1,.old 2],cv j0 (.mpt j0)<|ce j0 j0<|cv j0 (.mpt j0)<|cv j0 (zc1 j0 j0 ⟨⟨⟨ci j0,j5⟩,j0⟩,j5⟩)<|cn,j0,⟨⟨_,j0,zg (zQ j0 (by exact ⟨.msl j0,.msl j0,ci j0,j5⟩))⟩,⟨_,j0,zd (fun _=>j0)⟩,⟨_,j0,zd (fun _=>j0)⟩,j5⟩,j0,j1⟩<|u<|sc [0,1,2] (zt b c d e a i (l||(!v)) ([[73]]) q9) j0 j0 j0 j0 ⟨(.mpt j0),(rnI j0),j5⟩ ⟨⟨_,j0,(zcH j0 ⟨(.msl j0),(.msl j0),(rnI j0),j5⟩)⟩,⟨j0,mkI (fun _=>j0)⟩,⟨j0,mkI (fun _=>j0)⟩,j5⟩<|zB (env0:=[(0,.mpt 0 0 0),(4,sA s)]) (st0:=[some (15,[(vK b c d e (.msl 1 0 (List.length a)) (.msl 2 0 (List.length p.1)) (bA p.2))]),some (1,List.map zi a),some (1,List.map zi p.1)]) ⟨[.old 0,.old 1,.old 2],cv j0 (.mpt j0)<|ce j0 j0<|cn,j0,⟨⟨_,j0,zg (zQ j0 (by exact ⟨.msl j0,.msl j0,ci j0,j5⟩))⟩,⟨_,j0,zd (fun _=>j0)⟩,⟨_,j0,zd (fun _=>j0)⟩,j5⟩,j0,j1⟩<|za ?_
   obtain ⟨R,W,h⟩:=bs h
   refine rl j0<|u<|mv j0<|u<|mv j0<|u<|sc [0,1,2] (zr b c d e a p.1 p.2 s W) j0 j0 j0 j0 ⟨(.mpt j0),(rnI j0),j5⟩ ⟨⟨_,j0,(zcH j0 ⟨(.msl j0),(.msl j0),(rnI j0),j5⟩)⟩,⟨j0,mkI (fun _=>j0)⟩,⟨j0,mkI (fun _=>j0)⟩,j5⟩<|zB (env0:=[]) (st0:=[some (15,[(vK b c d e (.msl 1 0 (List.length a)) (.msl 3 0 (List.length R)) (bA p.2))]),some (1,List.map zi a),none,some (1,List.map zi R)]) ⟨[.old 0,.old 1,.dead,.old 3],cn,j0,⟨⟨_,j0,zg (zQ j0 (by exact ⟨.msl j0,.msl j0,ci j0,j5⟩))⟩,⟨_,j0,zd (fun _=>j0)⟩,⟨_,j0,zd (fun _=>j0)⟩,j5⟩,j0,j1⟩<|za ?_
   obtain rfl:=sm h
   exact ⟨_,j0,[.old 0,.old 1,.dead,.old 3],z8 j5,j0,⟨⟨_,j0,zg (zQ j0 (by exact ⟨.msl j0,.msl j0,ci j0,j5⟩))⟩,⟨_,j0,zd (fun _=>j0)⟩,⟨_,j0,zd (fun _=>j0)⟩,j5⟩,j0,j1⟩
  ·
   replace h:=bF N h
   refine rg j0<|u<|eql ti3 j0 j0<|u<|asg j0<|za ?_
   refine zh j0 (fun E=>?_) (fun E=>?_)
   ·
    replace h:=bT E h
    obtain ⟨f,X,h⟩:=bs h
    refine rg j0<|u<|mv j0<|u<|sc [0,1,2] (zX b c d e a i l X) j0 j0 j0 j0 ⟨(.mpt j0),j5⟩ ⟨⟨_,j0,(zcH j0 ⟨(.msl j0),(.msl j0),(rnI j0),j5⟩)⟩,⟨j0,mkI (fun _=>j0)⟩,⟨j0,mkI (fun _=>j0)⟩,j5⟩<|zB (env0:=[(0,.mpt 0 0 0),(50,sA f.1)]) (st0:=[some (15,[(vK b c d e (.msl 1 0 (List.length a)) (.msl 2 0 (List.length f.2.1)) (bA f.2.2))]),some (1,List.map zi a),some (1,List.map zi f.2.1)]) ⟨[.old 0,.old 1,.old 2],cv j0 (.mpt j0)<|ce j0 j0<|cn,j0,⟨⟨_,j0,zg (zQ j0 (by exact ⟨.msl j0,.msl j0,ci j0,j5⟩))⟩,⟨_,j0,zd (fun _=>j0)⟩,⟨_,j0,zd (fun _=>j0)⟩,j5⟩,j0,j1⟩<|u<|asg j0<|za ?_
    obtain ⟨J,Y,h⟩:=bs h
    refine rg j0<|u<|mv j0<|u<|pc (zdo f.1 Y) j0 j0 j0<|u<|mv j0<|u<|ex j0 j0<|u<|ex j0 j0<|u<|asg j0<|u<|asg j0<|za ?_
    refine rg j0<|u<|mv j0<|u<|mv j0<|u<|mv j0<|zfo (j:=2) 2 j0 j0 j0 j0 j0 gpn (fun F=>g j0 F<|mv j0<|g j0 F<|seq ti9 j0 j0<|za (egO [59,60] 2 F j0 j0 j0 j0)) orT<|u<|sc [0,1,2] (zo b c d e a f.2.1 f.2.2 (J.2||(f.1 == [78])) j0) j0 j0 j0 j0 ⟨(.mpt j0),(rnI j0),j5⟩ ⟨⟨_,j0,(zcH j0 ⟨(.msl j0),(.msl j0),(rnI j0),j5⟩)⟩,⟨j0,mkI (fun _=>j0)⟩,⟨j0,mkI (fun _=>j0)⟩,j5⟩<|zB (env0:=[(0,.mpt 0 0 0)]) (st0:=[some (15,[(vK b c d e (.msl 1 0 (List.length a)) (.msl 2 0 (List.length f.2.1)) (bA (f.2.2||(!(J.2||(f.1 == [78]))))))]),some (1,List.map zi a),some (1,List.map zi f.2.1)]) ⟨[.old 0,.old 1,.old 2],cv j0 (.mpt j0)<|cn,j0,⟨⟨_,j0,zg (zQ j0 (by exact ⟨.msl j0,.msl j0,ci j0,j5⟩))⟩,⟨_,j0,zd (fun _=>j0)⟩,⟨_,j0,zd (fun _=>j0)⟩,j5⟩,j0,j1⟩<|za ?_
    obtain ⟨S,Z,h⟩:=bs h
    refine rl j0<|u<|mv j0<|u<|sc [0,1,2] (zr b c d e a f.2.1 (f.2.2||(!(J.2||(f.1 == [78])))) [73] Z) j0 j0 j0 j0 ⟨(.mpt j0),(rnI j0),j5⟩ ⟨⟨_,j0,(zcH j0 ⟨(.msl j0),(.msl j0),(rnI j0),j5⟩)⟩,⟨j0,mkI (fun _=>j0)⟩,⟨j0,mkI (fun _=>j0)⟩,j5⟩<|zB (env0:=[]) (st0:=[some (15,[(vK b c d e (.msl 1 0 (List.length a)) (.msl 3 0 (List.length S)) (bA (f.2.2||(!(J.2||(f.1 == [78]))))))]),some (1,List.map zi a),none,some (1,List.map zi S)]) ⟨[.old 0,.old 1,.dead,.old 3],cn,j0,⟨⟨_,j0,zg (zQ j0 (by exact ⟨.msl j0,.msl j0,ci j0,j5⟩))⟩,⟨_,j0,zd (fun _=>j0)⟩,⟨_,j0,zd (fun _=>j0)⟩,j5⟩,j0,j1⟩<|za ?_
    obtain rfl:=sm h
    exact ⟨_,j0,[.old 0,.old 1,.dead,.old 3],z8 j5,j0,⟨⟨_,j0,zg (zQ j0 (by exact ⟨.msl j0,.msl j0,ci j0,j5⟩))⟩,⟨_,j0,zd (fun _=>j0)⟩,⟨_,j0,zd (fun _=>j0)⟩,j5⟩,j0,j1⟩
   ·
    replace h:=bF E h
    refine rg j0<|u<|eql ti3 j0 j0<|u<|asg j0<|za ?_
    refine zh j0 (fun G=>?_) (fun G=>?_)
    ·
     replace h:=bT G h
     obtain ⟨q,q17,h⟩:=bs h
     refine rg j0<|u<|mv j0<|u<|bl 4 zM j0 ti9 j0 (by decide) (by decide) j0 j0 j0<|zB (env0:=[(0,.mpt 0 0 0),(67,.mpt 0 0 0),(68,.isl 1 (List.map zi ([[91,73],[73]])))]) (st0:=[some (15,[(vK b c d e (.msl 1 0 (List.length a)) (.msl 2 0 (List.length i)) (bA l))]),some (1,List.map zi a),some (1,List.map zi i)]) ⟨[.old 0,.old 1,.old 2],cv j0 (.mpt j0)<|cv j0 (.mpt j0)<|cv j0 (zc1 j0 j0 ⟨⟨⟨ci j0,j5⟩,j0⟩,⟨⟨ci j0,j5⟩,j0⟩,j5⟩)<|cn,j0,⟨⟨_,j0,zg (zQ j0 (by exact ⟨.msl j0,.msl j0,ci j0,j5⟩))⟩,⟨_,j0,zd (fun _=>j0)⟩,⟨_,j0,zd (fun _=>j0)⟩,j5⟩,j0,j1⟩<|u<|sc [0,1,2] (zt b c d e a i l ([[91,73],[73]]) q17) j0 j0 j0 j0 ⟨(.mpt j0),(rnI j0),j5⟩ ⟨⟨_,j0,(zcH j0 ⟨(.msl j0),(.msl j0),(rnI j0),j5⟩)⟩,⟨j0,mkI (fun _=>j0)⟩,⟨j0,mkI (fun _=>j0)⟩,j5⟩<|zB (env0:=[(0,.mpt 0 0 0)]) (st0:=[some (15,[(vK b c d e (.msl 1 0 (List.length a)) (.msl 2 0 (List.length q.1)) (bA q.2))]),some (1,List.map zi a),some (1,List.map zi q.1)]) ⟨[.old 0,.old 1,.old 2],cv j0 (.mpt j0)<|cn,j0,⟨⟨_,j0,zg (zQ j0 (by exact ⟨.msl j0,.msl j0,ci j0,j5⟩))⟩,⟨_,j0,zd (fun _=>j0)⟩,⟨_,j0,zd (fun _=>j0)⟩,j5⟩,j0,j1⟩<|za ?_
     obtain ⟨T,q18,h⟩:=bs h
     refine rl j0<|u<|mv j0<|u<|sc [0,1,2] (zr b c d e a q.1 q.2 [73] q18) j0 j0 j0 j0 ⟨(.mpt j0),(rnI j0),j5⟩ ⟨⟨_,j0,(zcH j0 ⟨(.msl j0),(.msl j0),(rnI j0),j5⟩)⟩,⟨j0,mkI (fun _=>j0)⟩,⟨j0,mkI (fun _=>j0)⟩,j5⟩<|zB (env0:=[]) (st0:=[some (15,[(vK b c d e (.msl 1 0 (List.length a)) (.msl 3 0 (List.length T)) (bA q.2))]),some (1,List.map zi a),none,some (1,List.map zi T)]) ⟨[.old 0,.old 1,.dead,.old 3],cn,j0,⟨⟨_,j0,zg (zQ j0 (by exact ⟨.msl j0,.msl j0,ci j0,j5⟩))⟩,⟨_,j0,zd (fun _=>j0)⟩,⟨_,j0,zd (fun _=>j0)⟩,j5⟩,j0,j1⟩<|za ?_
     obtain rfl:=sm h
     exact ⟨_,j0,[.old 0,.old 1,.dead,.old 3],z8 j5,j0,⟨⟨_,j0,zg (zQ j0 (by exact ⟨.msl j0,.msl j0,ci j0,j5⟩))⟩,⟨_,j0,zd (fun _=>j0)⟩,⟨_,j0,zd (fun _=>j0)⟩,j5⟩,j0,j1⟩
    ·
     replace h:=bF G h
     refine rg j0<|u<|eql ti3 j0 j0<|u<|asg j0<|za ?_
     refine zh j0 (fun H=>?_) (fun H=>?_)
     ·
      replace h:=bT H h
      obtain ⟨O,q20,h⟩:=bs h
      refine rl j0<|u<|mv j0<|u<|bl 4 zM j0 ti9 j0 (by decide) (by decide) j0 j0 j0<|zB (env0:=[(74,.mpt 0 0 0),(75,.isl 1 (List.map zi ([[91,73],[73],[73]])))]) (st0:=[some (15,[(vK b c d e (.msl 1 0 (List.length a)) (.msl 2 0 (List.length i)) (bA l))]),some (1,List.map zi a),some (1,List.map zi i)]) ⟨[.old 0,.old 1,.old 2],cv j0 (.mpt j0)<|cv j0 (zc1 j0 j0 ⟨⟨⟨ci j0,j5⟩,j0⟩,⟨⟨ci j0,j5⟩,j0⟩,⟨⟨ci j0,j5⟩,j0⟩,j5⟩)<|cn,j0,⟨⟨_,j0,zg (zQ j0 (by exact ⟨.msl j0,.msl j0,ci j0,j5⟩))⟩,⟨_,j0,zd (fun _=>j0)⟩,⟨_,j0,zd (fun _=>j0)⟩,j5⟩,j0,j1⟩<|u<|sc [0,1,2] (zt b c d e a i l ([[91,73],[73],[73]]) q20) j0 j0 j0 j0 ⟨(.mpt j0),(rnI j0),j5⟩ ⟨⟨_,j0,(zcH j0 ⟨(.msl j0),(.msl j0),(rnI j0),j5⟩)⟩,⟨j0,mkI (fun _=>j0)⟩,⟨j0,mkI (fun _=>j0)⟩,j5⟩<|zB (env0:=[]) (st0:=[some (15,[(vK b c d e (.msl 1 0 (List.length a)) (.msl 2 0 (List.length O.1)) (bA O.2))]),some (1,List.map zi a),some (1,List.map zi O.1)]) ⟨[.old 0,.old 1,.old 2],cn,j0,⟨⟨_,j0,zg (zQ j0 (by exact ⟨.msl j0,.msl j0,ci j0,j5⟩))⟩,⟨_,j0,zd (fun _=>j0)⟩,⟨_,j0,zd (fun _=>j0)⟩,j5⟩,j0,j1⟩<|za ?_
      obtain rfl:=sm h
      exact ⟨_,j0,[.old 0,.old 1,.dead,.old 2],z8 j5,j0,⟨⟨_,j0,zg (zQ j0 (by exact ⟨.msl j0,.msl j0,ci j0,j5⟩))⟩,⟨_,j0,zd (fun _=>j0)⟩,⟨_,j0,zd (fun _=>j0)⟩,j5⟩,j0,j1⟩
     ·
      replace h:=bF H h
      refine rg j0<|u<|eql ti3 j0 j0<|u<|asg j0<|za ?_
      refine zh j0 (fun I=>?_) (fun I=>?_)
      ·
       replace h:=bT I h
       obtain ⟨B,q22,h⟩:=bs h
       refine rg j0<|u<|mv j0<|u<|bl 4 zM j0 ti9 j0 (by decide) (by decide) j0 j0 j0<|zB (env0:=[(0,.mpt 0 0 0),(79,.mpt 0 0 0),(80,.isl 1 (List.map zi ([[73]])))]) (st0:=[some (15,[(vK b c d e (.msl 1 0 (List.length a)) (.msl 2 0 (List.length i)) (bA l))]),some (1,List.map zi a),some (1,List.map zi i)]) ⟨[.old 0,.old 1,.old 2],cv j0 (.mpt j0)<|cv j0 (.mpt j0)<|cv j0 (zc1 j0 j0 ⟨⟨⟨ci j0,j5⟩,j0⟩,j5⟩)<|cn,j0,⟨⟨_,j0,zg (zQ j0 (by exact ⟨.msl j0,.msl j0,ci j0,j5⟩))⟩,⟨_,j0,zd (fun _=>j0)⟩,⟨_,j0,zd (fun _=>j0)⟩,j5⟩,j0,j1⟩<|u<|sc [0,1,2] (zt b c d e a i l ([[73]]) q22) j0 j0 j0 j0 ⟨(.mpt j0),(rnI j0),j5⟩ ⟨⟨_,j0,(zcH j0 ⟨(.msl j0),(.msl j0),(rnI j0),j5⟩)⟩,⟨j0,mkI (fun _=>j0)⟩,⟨j0,mkI (fun _=>j0)⟩,j5⟩<|zB (env0:=[(0,.mpt 0 0 0)]) (st0:=[some (15,[(vK b c d e (.msl 1 0 (List.length a)) (.msl 2 0 (List.length B.1)) (bA B.2))]),some (1,List.map zi a),some (1,List.map zi B.1)]) ⟨[.old 0,.old 1,.old 2],cv j0 (.mpt j0)<|cn,j0,⟨⟨_,j0,zg (zQ j0 (by exact ⟨.msl j0,.msl j0,ci j0,j5⟩))⟩,⟨_,j0,zd (fun _=>j0)⟩,⟨_,j0,zd (fun _=>j0)⟩,j5⟩,j0,j1⟩<|za ?_
       obtain ⟨m,q23,h⟩:=bs h
       obtain ⟨U,q24,h⟩:=bs h
       refine rl j0<|u<|mv j0<|u<|mv j0<|u<|sc [0,1,2] (zfM b c d e a B.1 B.2 q23) j0 j0 j0 j0 ⟨(.mpt j0),j5⟩ ⟨⟨_,j0,(zcH j0 ⟨(.msl j0),(.msl j0),(rnI j0),j5⟩)⟩,⟨j0,mkI (fun _=>j0)⟩,⟨j0,mkI (fun _=>j0)⟩,j5⟩<|zB (env0:=[(82,.mpt 0 0 0),(84,sA m.1)]) (st0:=[some (15,[(vK b c d e (.msl 1 0 (List.length a)) (.msl 2 0 (List.length m.2.1)) (bA m.2.2))]),some (1,List.map zi a),some (1,List.map zi m.2.1)]) ⟨[.old 0,.old 1,.old 2],cv j0 (.mpt j0)<|ce j0 j0<|cn,j0,⟨⟨_,j0,zg (zQ j0 (by exact ⟨.msl j0,.msl j0,ci j0,j5⟩))⟩,⟨_,j0,zd (fun _=>j0)⟩,⟨_,j0,zd (fun _=>j0)⟩,j5⟩,j0,j1⟩<|u<|sc [0,1,2] (zr b c d e a m.2.1 m.2.2 m.1 q24) j0 j0 j0 j0 ⟨(.mpt j0),(rnI j0),j5⟩ ⟨⟨_,j0,(zcH j0 ⟨(.msl j0),(.msl j0),(rnI j0),j5⟩)⟩,⟨j0,mkI (fun _=>j0)⟩,⟨j0,mkI (fun _=>j0)⟩,j5⟩<|zB (env0:=[]) (st0:=[some (15,[(vK b c d e (.msl 1 0 (List.length a)) (.msl 3 0 (List.length U)) (bA m.2.2))]),some (1,List.map zi a),none,some (1,List.map zi U)]) ⟨[.old 0,.old 1,.dead,.old 3],cn,j0,⟨⟨_,j0,zg (zQ j0 (by exact ⟨.msl j0,.msl j0,ci j0,j5⟩))⟩,⟨_,j0,zd (fun _=>j0)⟩,⟨_,j0,zd (fun _=>j0)⟩,j5⟩,j0,j1⟩<|za ?_
       obtain rfl:=sm h
       exact ⟨_,j0,[.old 0,.old 1,.dead,.old 3],z8 j5,j0,⟨⟨_,j0,zg (zQ j0 (by exact ⟨.msl j0,.msl j0,ci j0,j5⟩))⟩,⟨_,j0,zd (fun _=>j0)⟩,⟨_,j0,zd (fun _=>j0)⟩,j5⟩,j0,j1⟩
      ·
       replace h:=bF I h
       obtain ⟨n,q25,h⟩:=bs h
       refine rg j0<|u<|mv j0<|u<|sc [0,1,2] (zcs b c d e a i l q25) j0 j0 j0 j0 ⟨(.mpt j0),j5⟩ ⟨⟨_,j0,(zcH j0 ⟨(.msl j0),(.msl j0),(rnI j0),j5⟩)⟩,⟨j0,mkI (fun _=>j0)⟩,⟨j0,mkI (fun _=>j0)⟩,j5⟩<|zB (env0:=[(0,.mpt 0 0 0)]) (st0:=[some (15,[(vK b c d e (.msl 1 0 (List.length a)) (.msl 2 0 (List.length n.2.1)) (bA n.2.2))]),some (1,List.map zi a),some (1,List.map zi n.2.1)]) ⟨[.old 0,.old 1,.old 2],cv j0 (.mpt j0)<|cn,j0,⟨⟨_,j0,zg (zQ j0 (by exact ⟨.msl j0,.msl j0,ci j0,j5⟩))⟩,⟨_,j0,zd (fun _=>j0)⟩,⟨_,j0,zd (fun _=>j0)⟩,j5⟩,j0,j1⟩<|za ?_
       obtain ⟨D,q26,h⟩:=bs h
       refine rg j0<|u<|mv j0<|u<|bl 3 zM j0 ti9 j0 (by decide) (by decide) j0 j0 j0<|zB (env0:=[(0,.mpt 0 0 0),(12,.mpt 0 0 0),(13,.isl 1 (List.map zi ([[73]])))]) (st0:=[some (15,[(vK b c d e (.msl 1 0 (List.length a)) (.msl 2 0 (List.length n.2.1)) (bA n.2.2))]),some (1,List.map zi a),some (1,List.map zi n.2.1)]) ⟨[.old 0,.old 1,.old 2],cv j0 (.mpt j0)<|cv j0 (.mpt j0)<|cv j0 (zc1 j0 j0 ⟨⟨⟨ci j0,j5⟩,j0⟩,j5⟩)<|cn,j0,⟨⟨_,j0,zg (zQ j0 (by exact ⟨.msl j0,.msl j0,ci j0,j5⟩))⟩,⟨_,j0,zd (fun _=>j0)⟩,⟨_,j0,zd (fun _=>j0)⟩,j5⟩,j0,j1⟩<|u<|sc [0,1,2] (zt b c d e a n.2.1 n.2.2 ([[73]]) q26) j0 j0 j0 j0 ⟨(.mpt j0),(rnI j0),j5⟩ ⟨⟨_,j0,(zcH j0 ⟨(.msl j0),(.msl j0),(rnI j0),j5⟩)⟩,⟨j0,mkI (fun _=>j0)⟩,⟨j0,mkI (fun _=>j0)⟩,j5⟩<|zB (env0:=[(0,.mpt 0 0 0)]) (st0:=[some (15,[(vK b c d e (.msl 1 0 (List.length a)) (.msl 2 0 (List.length D.1)) (bA D.2))]),some (1,List.map zi a),some (1,List.map zi D.1)]) ⟨[.old 0,.old 1,.old 2],cv j0 (.mpt j0)<|cn,j0,⟨⟨_,j0,zg (zQ j0 (by exact ⟨.msl j0,.msl j0,ci j0,j5⟩))⟩,⟨_,j0,zd (fun _=>j0)⟩,⟨_,j0,zd (fun _=>j0)⟩,j5⟩,j0,j1⟩<|za ?_
       obtain ⟨P,q27,h⟩:=bs h
       refine rl j0<|u<|mv j0<|u<|sc [0,1,2] (zfM b c d e a D.1 D.2 q27) j0 j0 j0 j0 ⟨(.mpt j0),j5⟩ ⟨⟨_,j0,(zcH j0 ⟨(.msl j0),(.msl j0),(rnI j0),j5⟩)⟩,⟨j0,mkI (fun _=>j0)⟩,⟨j0,mkI (fun _=>j0)⟩,j5⟩<|zB (env0:=[]) (st0:=[some (15,[(vK b c d e (.msl 1 0 (List.length a)) (.msl 2 0 (List.length P.2.1)) (bA P.2.2))]),some (1,List.map zi a),some (1,List.map zi P.2.1)]) ⟨[.old 0,.old 1,.old 2],cn,j0,⟨⟨_,j0,zg (zQ j0 (by exact ⟨.msl j0,.msl j0,ci j0,j5⟩))⟩,⟨_,j0,zd (fun _=>j0)⟩,⟨_,j0,zd (fun _=>j0)⟩,j5⟩,j0,j1⟩<|za ?_
       obtain rfl:=sm h
       exact ⟨_,j0,[.old 0,.old 1,.dead,.old 2],z8 j5,j0,⟨⟨_,j0,zg (zQ j0 (by exact ⟨.msl j0,.msl j0,ci j0,j5⟩))⟩,⟨_,j0,zd (fun _=>j0)⟩,⟨_,j0,zd (fun _=>j0)⟩,j5⟩,j0,j1⟩
def zce (b:List zc) (c:List (List UInt8×Int)) (e:List UInt8) (f:ze) (i:List (List UInt8)) (m:List (List UInt8)) (j:Bool) (l:zA) (v:Bool):Option ((List (List UInt8))×Bool) :=
  cond v ((zb3 b c e f i m j).bind fun a=>(zcJ b c l.C).bind fun d=>cond (l.Op == (56:Int)) ((zs b c e f i a.2.1 (a.2.2||(!d)) l.C).bind fun p=>some (p,(a.2.2||(!d)))) ((zs b c e f i a.2.1 (a.2.2||(!d)) [73]).bind fun q=>some (q,(a.2.2||(!d))))) (cond (l.Op == (58:Int)) ((zx b c e f i m j ([[84,104,114,111,119,110]])).bind fun n=>some (n.1,n.2)) (cond (l.Op == (59:Int)) ((zs b c e f i m j [73]).bind fun s=>some (s,j)) ((zx b c e f i m j ([[73]])).bind fun o=>some (o.1,o.2))))
def zft (b:List zc) (c:List (List UInt8×Int)) (d:List UInt8) (e:ze) (f:List (List UInt8)) (i:List (List UInt8)) (j:Bool) (a:zA):Option ((List (List UInt8))×Bool) :=
  cond (a.Op == (56:Int)) (zce b c d e f i j a (a.Op == (56:Int))) (zce b c d e f i j a (a.Op == (57:Int)))
theorem ziw (b:List zc) (c:List (List UInt8×Int)) (d:List UInt8) (e:ze) (a:List (List UInt8)) (i:List (List UInt8)) (l:Bool) (j:zA) {r:(List (List UInt8))×Bool} (h:zft b c d e a i l j=some r):SC Tryz.prog 287 [.mpt 0 0 0,.agg (zw j)] [.one 15 (vK b c d e (.msl 1 0 (List.length a)) (.msl 2 0 (List.length i)) (bA l)),.many 1 (List.map zi a),.many 1 (List.map zi i)] (.tup []) [.one 15 (vK b c d e (.msl 1 0 (List.length a)) (.msl 3 0 (List.length r.1)) (bA r.2)),.many 1 (List.map zi a),.no,.many 1 (List.map zi r.1)]:=by
 refine ⟨⟨j5,zeU (sz:=1) (fun _=>j0),j5,zeU (sz:=1) (fun _=>j0),j5⟩,zad Tryz.func287 j0 (by kernel_rfl) j0 ?_⟩
 unfold zft at h
 refine rg j0<|u<|bx 3 4 j0 j0 j0 j0<|za ?_
 refine rg j0<|u<|fa zcI j0 j0 j0<|u<|ld ti3 j0 j0<|za ?_
 refine zq ?_
 refine zcD (X:=Bool) (fun z=>[(0,.mpt 0 0 0),(3,.mpt 3 0 0),(5,iA j.Op),(9,bA z)]) (fun z=>[some (15,[(vK b c d e (.msl 1 0 (List.length a)) (.msl 2 0 (List.length i)) (bA l))]),some (1,List.map zi a),some (1,List.map zi i),some (4,[(zw j)])]) (fun z=>zce b c d e a i l j z=some r) ?_ ?_
 ·
  refine rg j0<|u<|eql ti3 j0 j0<|u<|asg j0<|za ?_
  refine zh j0 (fun o=>?_) (fun o=>?_)
  ·
   replace h:=bT o h
   refine zk ?_
   exact ⟨(j.Op == (56:Int)),h,[.old 0,.old 1,.old 2,.old 3],cv j0 (.mpt j0)<|cv j0 (.mpt j0)<|ce j0 j0<|ce j0 j0<|cn,j0,⟨⟨_,j0,zg (zQ j0 (by exact ⟨.msl j0,.msl j0,ci j0,j5⟩))⟩,⟨_,j0,zd (fun _=>j0)⟩,⟨_,j0,zd (fun _=>j0)⟩,⟨_,j0,zg (ciL j0)⟩,j5⟩,j0,j1⟩
  ·
   replace h:=bF o h
   exact rl j0<|u<|eql ti3 j0 j0<|u<|asg j0<|za (⟨(j.Op == (57:Int)),h,[.old 0,.old 1,.old 2,.old 3],cv j0 (.mpt j0)<|cv j0 (.mpt j0)<|ce j0 j0<|ce j0 j0<|cn,j0,⟨⟨_,j0,zg (zQ j0 (by exact ⟨.msl j0,.msl j0,ci j0,j5⟩))⟩,⟨_,j0,zd (fun _=>j0)⟩,⟨_,j0,zd (fun _=>j0)⟩,⟨_,j0,zg (ciL j0)⟩,j5⟩,j0,j1⟩)
 ·
  rintro I h
  replace h:zce b c d e a i l j I=some r:=h
  unfold zce at h
  refine zh j0 (fun p=>?_) (fun p=>?_)
  ·
   replace h:=bT p h
   obtain ⟨f,J,h⟩:=bs h
   refine rg j0<|u<|mv j0<|u<|sc [0,1,2] (zcs b c d e a i l J) j0 j0 j0 j0 ⟨(.mpt j0),j5⟩ ⟨⟨_,j0,(zcH j0 ⟨(.msl j0),(.msl j0),(rnI j0),j5⟩)⟩,⟨j0,mkI (fun _=>j0)⟩,⟨j0,mkI (fun _=>j0)⟩,j5⟩<|zB (env0:=[(0,.mpt 0 0 0),(3,.mpt 3 0 0)]) (st0:=[some (15,[(vK b c d e (.msl 1 0 (List.length a)) (.msl 2 0 (List.length f.2.1)) (bA f.2.2))]),some (1,List.map zi a),some (1,List.map zi f.2.1),some (4,[(zw j)])]) ⟨[.old 0,.old 1,.old 2,.old 3],cv j0 (.mpt j0)<|cv j0 (.mpt j0)<|cn,j0,⟨⟨_,j0,zg (zQ j0 (by exact ⟨.msl j0,.msl j0,ci j0,j5⟩))⟩,⟨_,j0,zd (fun _=>j0)⟩,⟨_,j0,zd (fun _=>j0)⟩,⟨_,j0,zg (ciL j0)⟩,j5⟩,j0,j1⟩<|za ?_
   obtain ⟨m,K,h⟩:=bs h
   refine rd [(0,.mpt 0 0 0),(3,.mpt 3 0 0)] [some (15,[(vK b c d e (.msl 1 0 (List.length a)) (.msl 2 0 (List.length f.2.1)) (bA (f.2.2||(!m))))]),some (1,List.map zi a),some (1,List.map zi f.2.1),some (4,[(zw j)])] [8] [7,6,5,4,3,2,1,0] [(21,bA m),(20,sA j.C),(19,.mpt 3 0 2),(18,.ipt 2 [[.isl 6 (List.map zb b),.imp (List.map (rKV (fun x=>iA x)) c)]] 0 0),(17,.mpt 0 0 0),(16,.mpt 0 0 0),(15,.mpt 0 0 0),(14,.mpt 0 0 0)] 1 (by kernel_rfl) (by kernel_rfl) j0 (by kernel_rfl) (dtS ⟨(fun _=>pa j0 j0 j0 j0 (pc (zcK b c j.C K) j0 j0 j0<|j4)),(fun _=>pa j0 j0 j0 j0 (ld ti9 j0 j0<|j4)),(fun _=>pa j0 j0 j0 j0 (fa zcI j0 j0 j0<|j4)),(fun _=>pa j0 j0 j0 j0 (ld zez j0 j0<|j4)),(fun _=>pa j0 j0 j0 j0 (fa zS j0 j0 j0<|j4)),(fun _=>pa j0 j0 j0 j0 (nc j0 j0<|j4)),(fun _=>pa j0 j0 j0 j0 (mv j0<|j4)),(fun _=>pa j0 j0 j0 j0 (mv j0<|j4)),j5⟩ (by kernel_rfl) j0 ⟨(fun _ _=>⟨_,j0,j0,sc [0,1,2] (zo b c d e a f.2.1 f.2.2 m j0) j0 j0 j0 j0 ⟨(.mpt j0),(rnI j0),j5⟩ ⟨⟨_,j0,(zcH j0 ⟨(.msl j0),(.msl j0),(rnI j0),j5⟩)⟩,⟨j0,mkI (fun _=>j0)⟩,⟨j0,mkI (fun _=>j0)⟩,j5⟩<|⟨(.tup []),[],[(22,.tup [])],j0,j0,by kernel_rfl,j0,dt0 ⟨(fun h=>by cases h),(fun _=>pa j0 j0 j0 j0 (ld ti9 j0 j0<|j4)),(fun _=>pa j0 j0 j0 j0 (fa zcI j0 j0 j0<|j4)),(fun _=>pa j0 j0 j0 j0 (ld zez j0 j0<|j4)),(fun _=>pa j0 j0 j0 j0 (fa zS j0 j0 j0<|j4)),(fun _=>pa j0 j0 j0 j0 (nc j0 j0<|j4)),(fun _=>pa j0 j0 j0 j0 (mv j0<|j4)),(fun h=>by cases h),j5⟩ (by kernel_rfl) j0 ⟨[.old 0,.old 1,.old 2,.old 3],cv j0 (.mpt j0)<|cv j0 (.mpt j0)<|cn,j0,⟨⟨_,j0,zg (zQ j0 (by exact ⟨.msl j0,.msl j0,ci j0,j5⟩))⟩,⟨_,j0,zd (fun _=>j0)⟩,⟨_,j0,zd (fun _=>j0)⟩,⟨_,j0,zg (ciL j0)⟩,j5⟩,j0,j1⟩⟩⟩),j5⟩) ?_
   refine rg j0<|u<|fa zcI j0 j0 j0<|u<|ld ti3 j0 j0<|u<|eql ti3 j0 j0<|za ?_
   refine zh j0 (fun q=>?_) (fun q=>?_)
   ·
    replace h:=bT q h
    obtain ⟨D,L,h⟩:=bs h
    refine rl j0<|u<|mv j0<|u<|fa zcI j0 j0 j0<|u<|ld ti9 j0 j0<|u<|sc [0,1,2] (zr b c d e a f.2.1 (f.2.2||(!m)) j.C L) j0 j0 j0 j0 ⟨(.mpt j0),(rnI j0),j5⟩ ⟨⟨_,j0,(zcH j0 ⟨(.msl j0),(.msl j0),(rnI j0),j5⟩)⟩,⟨j0,mkI (fun _=>j0)⟩,⟨j0,mkI (fun _=>j0)⟩,j5⟩<|zB (env0:=[]) (st0:=[some (15,[(vK b c d e (.msl 1 0 (List.length a)) (.msl 3 0 (List.length D)) (bA (f.2.2||(!m))))]),some (1,List.map zi a),none,some (1,List.map zi D)]) ⟨[.old 0,.old 1,.dead,.old 4],cn,j0,⟨⟨_,j0,zg (zQ j0 (by exact ⟨.msl j0,.msl j0,ci j0,j5⟩))⟩,⟨_,j0,zd (fun _=>j0)⟩,⟨_,j0,zd (fun _=>j0)⟩,j5⟩,j0,j1⟩<|za ?_
    obtain rfl:=sm h
    exact ⟨_,j0,[.old 0,.old 1,.dead,.old 3],z8 j5,j0,⟨⟨_,j0,zg (zQ j0 (by exact ⟨.msl j0,.msl j0,ci j0,j5⟩))⟩,⟨_,j0,zd (fun _=>j0)⟩,⟨_,j0,zd (fun _=>j0)⟩,j5⟩,j0,j1⟩
   ·
    replace h:=bF q h
    obtain ⟨E,M,h⟩:=bs h
    refine rl j0<|u<|mv j0<|u<|sc [0,1,2] (zr b c d e a f.2.1 (f.2.2||(!m)) [73] M) j0 j0 j0 j0 ⟨(.mpt j0),(rnI j0),j5⟩ ⟨⟨_,j0,(zcH j0 ⟨(.msl j0),(.msl j0),(rnI j0),j5⟩)⟩,⟨j0,mkI (fun _=>j0)⟩,⟨j0,mkI (fun _=>j0)⟩,j5⟩<|zB (env0:=[]) (st0:=[some (15,[(vK b c d e (.msl 1 0 (List.length a)) (.msl 3 0 (List.length E)) (bA (f.2.2||(!m))))]),some (1,List.map zi a),none,some (1,List.map zi E)]) ⟨[.old 0,.old 1,.dead,.old 4],cn,j0,⟨⟨_,j0,zg (zQ j0 (by exact ⟨.msl j0,.msl j0,ci j0,j5⟩))⟩,⟨_,j0,zd (fun _=>j0)⟩,⟨_,j0,zd (fun _=>j0)⟩,j5⟩,j0,j1⟩<|za ?_
    obtain rfl:=sm h
    exact ⟨_,j0,[.old 0,.old 1,.dead,.old 3],z8 j5,j0,⟨⟨_,j0,zg (zQ j0 (by exact ⟨.msl j0,.msl j0,ci j0,j5⟩))⟩,⟨_,j0,zd (fun _=>j0)⟩,⟨_,j0,zd (fun _=>j0)⟩,j5⟩,j0,j1⟩
  ·
   replace h:=bF p h
   refine rg j0<|u<|eql ti3 j0 j0<|u<|asg j0<|za ?_
   refine zh j0 (fun s=>?_) (fun s=>?_)
   ·
    replace h:=bT s h
    obtain ⟨v,N,h⟩:=bs h
    refine rl j0<|u<|mv j0<|u<|bl 4 zM j0 ti9 j0 (by decide) (by decide) j0 j0 j0<|zB (env0:=[(34,.mpt 0 0 0),(35,.isl 1 (List.map zi ([[84,104,114,111,119,110]])))]) (st0:=[some (15,[(vK b c d e (.msl 1 0 (List.length a)) (.msl 2 0 (List.length i)) (bA l))]),some (1,List.map zi a),some (1,List.map zi i)]) ⟨[.old 0,.old 1,.old 2],cv j0 (.mpt j0)<|cv j0 (zc1 j0 j0 ⟨⟨⟨ci j0,j5⟩,j0⟩,j5⟩)<|cn,j0,⟨⟨_,j0,zg (zQ j0 (by exact ⟨.msl j0,.msl j0,ci j0,j5⟩))⟩,⟨_,j0,zd (fun _=>j0)⟩,⟨_,j0,zd (fun _=>j0)⟩,j5⟩,j0,j1⟩<|u<|sc [0,1,2] (zt b c d e a i l ([[84,104,114,111,119,110]]) N) j0 j0 j0 j0 ⟨(.mpt j0),(rnI j0),j5⟩ ⟨⟨_,j0,(zcH j0 ⟨(.msl j0),(.msl j0),(rnI j0),j5⟩)⟩,⟨j0,mkI (fun _=>j0)⟩,⟨j0,mkI (fun _=>j0)⟩,j5⟩<|zB (env0:=[]) (st0:=[some (15,[(vK b c d e (.msl 1 0 (List.length a)) (.msl 2 0 (List.length v.1)) (bA v.2))]),some (1,List.map zi a),some (1,List.map zi v.1)]) ⟨[.old 0,.old 1,.old 2],cn,j0,⟨⟨_,j0,zg (zQ j0 (by exact ⟨.msl j0,.msl j0,ci j0,j5⟩))⟩,⟨_,j0,zd (fun _=>j0)⟩,⟨_,j0,zd (fun _=>j0)⟩,j5⟩,j0,j1⟩<|za ?_
    obtain rfl:=sm h
    exact ⟨_,j0,[.old 0,.old 1,.dead,.old 2],z8 j5,j0,⟨⟨_,j0,zg (zQ j0 (by exact ⟨.msl j0,.msl j0,ci j0,j5⟩))⟩,⟨_,j0,zd (fun _=>j0)⟩,⟨_,j0,zd (fun _=>j0)⟩,j5⟩,j0,j1⟩
   ·
    replace h:=bF s h
    refine rg j0<|u<|eql ti3 j0 j0<|u<|asg j0<|za ?_
    refine zh j0 (fun n=>?_) (fun n=>?_)
    ·
     replace h:=bT n h
     obtain ⟨F,G,h⟩:=bs h
     refine rl j0<|u<|mv j0<|u<|sc [0,1,2] (zr b c d e a i l [73] G) j0 j0 j0 j0 ⟨(.mpt j0),(rnI j0),j5⟩ ⟨⟨_,j0,(zcH j0 ⟨(.msl j0),(.msl j0),(rnI j0),j5⟩)⟩,⟨j0,mkI (fun _=>j0)⟩,⟨j0,mkI (fun _=>j0)⟩,j5⟩<|zB (env0:=[]) (st0:=[some (15,[(vK b c d e (.msl 1 0 (List.length a)) (.msl 3 0 (List.length F)) (bA l))]),some (1,List.map zi a),none,some (1,List.map zi F)]) ⟨[.old 0,.old 1,.dead,.old 4],cn,j0,⟨⟨_,j0,zg (zQ j0 (by exact ⟨.msl j0,.msl j0,ci j0,j5⟩))⟩,⟨_,j0,zd (fun _=>j0)⟩,⟨_,j0,zd (fun _=>j0)⟩,j5⟩,j0,j1⟩<|za ?_
     obtain rfl:=sm h
     exact ⟨_,j0,[.old 0,.old 1,.dead,.old 3],z8 j5,j0,⟨⟨_,j0,zg (zQ j0 (by exact ⟨.msl j0,.msl j0,ci j0,j5⟩))⟩,⟨_,j0,zd (fun _=>j0)⟩,⟨_,j0,zd (fun _=>j0)⟩,j5⟩,j0,j1⟩
    ·
     replace h:=bF n h
     obtain ⟨B,H,h⟩:=bs h
     refine rl j0<|u<|mv j0<|u<|bl 4 zM j0 ti9 j0 (by decide) (by decide) j0 j0 j0<|zB (env0:=[(6,.mpt 0 0 0),(7,.isl 1 (List.map zi ([[73]])))]) (st0:=[some (15,[(vK b c d e (.msl 1 0 (List.length a)) (.msl 2 0 (List.length i)) (bA l))]),some (1,List.map zi a),some (1,List.map zi i)]) ⟨[.old 0,.old 1,.old 2],cv j0 (.mpt j0)<|cv j0 (zc1 j0 j0 ⟨⟨⟨ci j0,j5⟩,j0⟩,j5⟩)<|cn,j0,⟨⟨_,j0,zg (zQ j0 (by exact ⟨.msl j0,.msl j0,ci j0,j5⟩))⟩,⟨_,j0,zd (fun _=>j0)⟩,⟨_,j0,zd (fun _=>j0)⟩,j5⟩,j0,j1⟩<|u<|sc [0,1,2] (zt b c d e a i l ([[73]]) H) j0 j0 j0 j0 ⟨(.mpt j0),(rnI j0),j5⟩ ⟨⟨_,j0,(zcH j0 ⟨(.msl j0),(.msl j0),(rnI j0),j5⟩)⟩,⟨j0,mkI (fun _=>j0)⟩,⟨j0,mkI (fun _=>j0)⟩,j5⟩<|zB (env0:=[]) (st0:=[some (15,[(vK b c d e (.msl 1 0 (List.length a)) (.msl 2 0 (List.length B.1)) (bA B.2))]),some (1,List.map zi a),some (1,List.map zi B.1)]) ⟨[.old 0,.old 1,.old 2],cn,j0,⟨⟨_,j0,zg (zQ j0 (by exact ⟨.msl j0,.msl j0,ci j0,j5⟩))⟩,⟨_,j0,zd (fun _=>j0)⟩,⟨_,j0,zd (fun _=>j0)⟩,j5⟩,j0,j1⟩<|za ?_
     obtain rfl:=sm h
     exact ⟨_,j0,[.old 0,.old 1,.dead,.old 2],z8 j5,j0,⟨⟨_,j0,zg (zQ j0 (by exact ⟨.msl j0,.msl j0,ci j0,j5⟩))⟩,⟨_,j0,zd (fun _=>j0)⟩,⟨_,j0,zd (fun _=>j0)⟩,j5⟩,j0,j1⟩
end
end Go.Proofs.YthmnlfenkhmmhaaGreat
namespace Go.Proofs.YthmnlfenkhmmhaaGreat
noncomputable section
set_option linter.unusedSimpArgs false
set_option linter.unusedVariables false
set_option maxRecDepth 100000
set_option maxHeartbeats 4000000
def zfN (c:List zc) (d:List (List UInt8×Int)) (e:List UInt8) (f:ze) (a:List (List UInt8)) (i:List (List UInt8)) (j:Bool) (b:zA):Option ((List (List UInt8))×(List (List UInt8))×Bool) :=
  cond (za5 b.Op 1 7) ((zfs c d e f a i j b).bind fun E=>some (E.1,E.2.1,E.2.2)) (cond (b.Op == (13:Int)) ((zx c d e f a i j ([[73]])).bind fun l=>(zs c d e f a l.1 l.2 [73]).bind fun F=>some (a,F,l.2)) (cond (za5 b.Op 8 19) ((zx c d e f a i j ([[73],[73]])).bind fun m=>(zs c d e f a m.1 m.2 [73]).bind fun G=>some (a,G,m.2)) (cond (b.Op == (20:Int)) (some (a,i,j)) (cond (za5 b.Op 21 26) ((zx c d e f a i j ([[73]])).bind fun n=>some (a,n.1,n.2)) (cond (za5 b.Op 27 32) ((zx c d e f a i j ([[73],[73]])).bind fun o=>some (a,o.1,o.2)) (cond (za5 b.Op 33 34) ((zb3 c d e f a i j).bind fun p=>some (a,p.2.1,p.2.2)) (cond (za5 b.Op 35 36) ((zb3 c d e f a i j).bind fun q=>(zb3 c d e f a q.2.1 q.2.2).bind fun s=>some (a,s.2.1,s.2.2)) (cond ((b.Op == (37:Int))||(za5 b.Op 38 41)) ((zeR c d e f a i j b).bind fun v=>some (a,v.1,v.2)) (cond (za5 b.Op 42 45) ((zfr c d e f a i j b).bind fun x=>some (a,x.1,x.2)) (cond (za5 b.Op 46 48) ((zfO c d e f a i j b.Op).bind fun B=>some (a,B.1,B.2)) (cond (za5 b.Op 49 55) ((zew c d e f a i j b).bind fun C=>some (a,C.1,C.2)) ((zft c d e f a i j b).bind fun D=>some (a,D.1,D.2)))))))))))))
theorem zjb (b:List zc) (c:List (List UInt8×Int)) (d:List UInt8) (e:ze) (a:List (List UInt8)) (f:List (List UInt8)) (i:Bool) (l:zA) {r:(List (List UInt8))×(List (List UInt8))×Bool} (h:zfN b c d e a f i l=some r):SC Tryz.prog 200 [.mpt 0 0 0,.agg (zw l)] [.one 15 (vK b c d e (.msl 1 0 (List.length a)) (.msl 2 0 (List.length f)) (bA i)),.many 1 (List.map zi a),.many 1 (List.map zi f)] (.tup []) [.one 15 (vK b c d e (.msl 3 0 (List.length r.1)) (.msl 4 0 (List.length r.2.1)) (bA r.2.2)),.no,.no,.many 1 (List.map zi r.1),.many 1 (List.map zi r.2.1)]:=by
 refine ⟨⟨j5,j5,j5,zeU (sz:=1) (fun _=>j0),zeU (sz:=1) (fun _=>j0),j5⟩,zad Tryz.func200 j0 (by kernel_rfl) j0 ?_⟩
 unfold zfN at h
 refine rg j0<|u<|bx 3 4 j0 j0 j0 j0<|za ?_
 refine rg j0<|u<|fa zcI j0 j0 j0<|u<|ld ti3 j0 j0<|u<|asg j0<|za ?_
 refine zq ?_
 refine rg j0<|u<|mv j0<|u<|pc (zaI l.Op 1 7 j0) j0 j0 j0<|u<|asg j0<|za ?_
 refine zh j0 (fun F=>?_) (fun F=>?_)
 ·
  replace h:=bT F h
  obtain ⟨G,q2,h⟩:=bs h
  refine rl j0<|u<|mv j0<|u<|ld zcI j0 j0<|u<|sc [0,1,2] (ziv b c d e a f i l q2) j0 j0 j0 j0 ⟨(.mpt j0),(rnI j0),j5⟩ ⟨⟨_,j0,(zcH j0 ⟨(.msl j0),(.msl j0),(rnI j0),j5⟩)⟩,⟨j0,mkI (fun _=>j0)⟩,⟨j0,mkI (fun _=>j0)⟩,j5⟩<|zB (env0:=[]) (st0:=[some (15,[(vK b c d e (.msl 3 0 (List.length G.1)) (.msl 4 0 (List.length G.2.1)) (bA G.2.2))]),none,none,some (1,List.map zi G.1),some (1,List.map zi G.2.1)]) ⟨[.old 0,.dead,.dead,.old 4,.old 5],cn,j0,⟨⟨_,j0,zg (zQ j0 (by exact ⟨.msl j0,.msl j0,ci j0,j5⟩))⟩,⟨_,j0,zd (fun _=>j0)⟩,⟨_,j0,zd (fun _=>j0)⟩,j5⟩,j0,j1⟩<|za ?_
  obtain rfl:=sm h
  exact ⟨_,j0,[.old 0,.dead,.dead,.old 3,.old 4],z8 j5,j0,⟨⟨_,j0,zg (zQ j0 (by exact ⟨.msl j0,.msl j0,ci j0,j5⟩))⟩,⟨_,j0,zd (fun _=>j0)⟩,⟨_,j0,zd (fun _=>j0)⟩,j5⟩,j0,j1⟩
 ·
  replace h:=bF F h
  refine rg j0<|u<|mv j0<|u<|eql ti3 j0 j0<|u<|asg j0<|za ?_
  refine zh j0 (fun H=>?_) (fun H=>?_)
  ·
   replace h:=bT H h
   obtain ⟨m,q4,h⟩:=bs h
   refine rg j0<|u<|mv j0<|u<|bl 4 zM j0 ti9 j0 (by decide) (by decide) j0 j0 j0<|zB (env0:=[(0,.mpt 0 0 0),(19,.mpt 0 0 0),(20,.isl 1 (List.map zi ([[73]])))]) (st0:=[some (15,[(vK b c d e (.msl 1 0 (List.length a)) (.msl 2 0 (List.length f)) (bA i))]),some (1,List.map zi a),some (1,List.map zi f)]) ⟨[.old 0,.old 1,.old 2],cv j0 (.mpt j0)<|cv j0 (.mpt j0)<|cv j0 (zc1 j0 j0 ⟨⟨⟨ci j0,j5⟩,j0⟩,j5⟩)<|cn,j0,⟨⟨_,j0,zg (zQ j0 (by exact ⟨.msl j0,.msl j0,ci j0,j5⟩))⟩,⟨_,j0,zd (fun _=>j0)⟩,⟨_,j0,zd (fun _=>j0)⟩,j5⟩,j0,j1⟩<|u<|sc [0,1,2] (zt b c d e a f i ([[73]]) q4) j0 j0 j0 j0 ⟨(.mpt j0),(rnI j0),j5⟩ ⟨⟨_,j0,(zcH j0 ⟨(.msl j0),(.msl j0),(rnI j0),j5⟩)⟩,⟨j0,mkI (fun _=>j0)⟩,⟨j0,mkI (fun _=>j0)⟩,j5⟩<|zB (env0:=[(0,.mpt 0 0 0)]) (st0:=[some (15,[(vK b c d e (.msl 1 0 (List.length a)) (.msl 2 0 (List.length m.1)) (bA m.2))]),some (1,List.map zi a),some (1,List.map zi m.1)]) ⟨[.old 0,.old 1,.old 2],cv j0 (.mpt j0)<|cn,j0,⟨⟨_,j0,zg (zQ j0 (by exact ⟨.msl j0,.msl j0,ci j0,j5⟩))⟩,⟨_,j0,zd (fun _=>j0)⟩,⟨_,j0,zd (fun _=>j0)⟩,j5⟩,j0,j1⟩<|za ?_
   obtain ⟨T,q5,h⟩:=bs h
   refine rl j0<|u<|mv j0<|u<|sc [0,1,2] (zr b c d e a m.1 m.2 [73] q5) j0 j0 j0 j0 ⟨(.mpt j0),(rnI j0),j5⟩ ⟨⟨_,j0,(zcH j0 ⟨(.msl j0),(.msl j0),(rnI j0),j5⟩)⟩,⟨j0,mkI (fun _=>j0)⟩,⟨j0,mkI (fun _=>j0)⟩,j5⟩<|zB (env0:=[]) (st0:=[some (15,[(vK b c d e (.msl 1 0 (List.length a)) (.msl 3 0 (List.length T)) (bA m.2))]),some (1,List.map zi a),none,some (1,List.map zi T)]) ⟨[.old 0,.old 1,.dead,.old 3],cn,j0,⟨⟨_,j0,zg (zQ j0 (by exact ⟨.msl j0,.msl j0,ci j0,j5⟩))⟩,⟨_,j0,zd (fun _=>j0)⟩,⟨_,j0,zd (fun _=>j0)⟩,j5⟩,j0,j1⟩<|za ?_
   obtain rfl:=sm h
   exact ⟨_,j0,[.old 0,.dead,.dead,.old 1,.old 3],z8 j5,j0,⟨⟨_,j0,zg (zQ j0 (by exact ⟨.msl j0,.msl j0,ci j0,j5⟩))⟩,⟨_,j0,zd (fun _=>j0)⟩,⟨_,j0,zd (fun _=>j0)⟩,j5⟩,j0,j1⟩
  ·
   replace h:=bF H h
   refine rg j0<|u<|mv j0<|u<|pc (zaI l.Op 8 19 j0) j0 j0 j0<|u<|asg j0<|za ?_
   refine zh j0 (fun I=>?_) (fun I=>?_)
   ·
    replace h:=bT I h
    obtain ⟨n,q7,h⟩:=bs h
    refine rg j0<|u<|mv j0<|u<|bl 4 zM j0 ti9 j0 (by decide) (by decide) j0 j0 j0<|zB (env0:=[(0,.mpt 0 0 0),(27,.mpt 0 0 0),(28,.isl 1 (List.map zi ([[73],[73]])))]) (st0:=[some (15,[(vK b c d e (.msl 1 0 (List.length a)) (.msl 2 0 (List.length f)) (bA i))]),some (1,List.map zi a),some (1,List.map zi f)]) ⟨[.old 0,.old 1,.old 2],cv j0 (.mpt j0)<|cv j0 (.mpt j0)<|cv j0 (zc1 j0 j0 ⟨⟨⟨ci j0,j5⟩,j0⟩,⟨⟨ci j0,j5⟩,j0⟩,j5⟩)<|cn,j0,⟨⟨_,j0,zg (zQ j0 (by exact ⟨.msl j0,.msl j0,ci j0,j5⟩))⟩,⟨_,j0,zd (fun _=>j0)⟩,⟨_,j0,zd (fun _=>j0)⟩,j5⟩,j0,j1⟩<|u<|sc [0,1,2] (zt b c d e a f i ([[73],[73]]) q7) j0 j0 j0 j0 ⟨(.mpt j0),(rnI j0),j5⟩ ⟨⟨_,j0,(zcH j0 ⟨(.msl j0),(.msl j0),(rnI j0),j5⟩)⟩,⟨j0,mkI (fun _=>j0)⟩,⟨j0,mkI (fun _=>j0)⟩,j5⟩<|zB (env0:=[(0,.mpt 0 0 0)]) (st0:=[some (15,[(vK b c d e (.msl 1 0 (List.length a)) (.msl 2 0 (List.length n.1)) (bA n.2))]),some (1,List.map zi a),some (1,List.map zi n.1)]) ⟨[.old 0,.old 1,.old 2],cv j0 (.mpt j0)<|cn,j0,⟨⟨_,j0,zg (zQ j0 (by exact ⟨.msl j0,.msl j0,ci j0,j5⟩))⟩,⟨_,j0,zd (fun _=>j0)⟩,⟨_,j0,zd (fun _=>j0)⟩,j5⟩,j0,j1⟩<|za ?_
    obtain ⟨U,q8,h⟩:=bs h
    refine rl j0<|u<|mv j0<|u<|sc [0,1,2] (zr b c d e a n.1 n.2 [73] q8) j0 j0 j0 j0 ⟨(.mpt j0),(rnI j0),j5⟩ ⟨⟨_,j0,(zcH j0 ⟨(.msl j0),(.msl j0),(rnI j0),j5⟩)⟩,⟨j0,mkI (fun _=>j0)⟩,⟨j0,mkI (fun _=>j0)⟩,j5⟩<|zB (env0:=[]) (st0:=[some (15,[(vK b c d e (.msl 1 0 (List.length a)) (.msl 3 0 (List.length U)) (bA n.2))]),some (1,List.map zi a),none,some (1,List.map zi U)]) ⟨[.old 0,.old 1,.dead,.old 3],cn,j0,⟨⟨_,j0,zg (zQ j0 (by exact ⟨.msl j0,.msl j0,ci j0,j5⟩))⟩,⟨_,j0,zd (fun _=>j0)⟩,⟨_,j0,zd (fun _=>j0)⟩,j5⟩,j0,j1⟩<|za ?_
    obtain rfl:=sm h
    exact ⟨_,j0,[.old 0,.dead,.dead,.old 1,.old 3],z8 j5,j0,⟨⟨_,j0,zg (zQ j0 (by exact ⟨.msl j0,.msl j0,ci j0,j5⟩))⟩,⟨_,j0,zd (fun _=>j0)⟩,⟨_,j0,zd (fun _=>j0)⟩,j5⟩,j0,j1⟩
   ·
    replace h:=bF I h
    refine rg j0<|u<|mv j0<|u<|eql ti3 j0 j0<|u<|asg j0<|za ?_
    refine zh j0 (fun J=>?_) (fun J=>?_)
    ·
     replace h:=bT J h
     refine zk ?_
     obtain rfl:=sm h
     exact ⟨_,j0,[.old 0,.dead,.dead,.old 1,.old 2],z8 j5,j0,⟨⟨_,j0,zg (zQ j0 (by exact ⟨.msl j0,.msl j0,ci j0,j5⟩))⟩,⟨_,j0,zd (fun _=>j0)⟩,⟨_,j0,zd (fun _=>j0)⟩,j5⟩,j0,j1⟩
    ·
     replace h:=bF J h
     refine rg j0<|u<|mv j0<|u<|pc (zaI l.Op 21 26 j0) j0 j0 j0<|u<|asg j0<|za ?_
     refine zh j0 (fun p=>?_) (fun p=>?_)
     ·
      replace h:=bT p h
      obtain ⟨K,V,h⟩:=bs h
      refine rl j0<|u<|mv j0<|u<|bl 4 zM j0 ti9 j0 (by decide) (by decide) j0 j0 j0<|zB (env0:=[(38,.mpt 0 0 0),(39,.isl 1 (List.map zi ([[73]])))]) (st0:=[some (15,[(vK b c d e (.msl 1 0 (List.length a)) (.msl 2 0 (List.length f)) (bA i))]),some (1,List.map zi a),some (1,List.map zi f)]) ⟨[.old 0,.old 1,.old 2],cv j0 (.mpt j0)<|cv j0 (zc1 j0 j0 ⟨⟨⟨ci j0,j5⟩,j0⟩,j5⟩)<|cn,j0,⟨⟨_,j0,zg (zQ j0 (by exact ⟨.msl j0,.msl j0,ci j0,j5⟩))⟩,⟨_,j0,zd (fun _=>j0)⟩,⟨_,j0,zd (fun _=>j0)⟩,j5⟩,j0,j1⟩<|u<|sc [0,1,2] (zt b c d e a f i ([[73]]) V) j0 j0 j0 j0 ⟨(.mpt j0),(rnI j0),j5⟩ ⟨⟨_,j0,(zcH j0 ⟨(.msl j0),(.msl j0),(rnI j0),j5⟩)⟩,⟨j0,mkI (fun _=>j0)⟩,⟨j0,mkI (fun _=>j0)⟩,j5⟩<|zB (env0:=[]) (st0:=[some (15,[(vK b c d e (.msl 1 0 (List.length a)) (.msl 2 0 (List.length K.1)) (bA K.2))]),some (1,List.map zi a),some (1,List.map zi K.1)]) ⟨[.old 0,.old 1,.old 2],cn,j0,⟨⟨_,j0,zg (zQ j0 (by exact ⟨.msl j0,.msl j0,ci j0,j5⟩))⟩,⟨_,j0,zd (fun _=>j0)⟩,⟨_,j0,zd (fun _=>j0)⟩,j5⟩,j0,j1⟩<|za ?_
      obtain rfl:=sm h
      exact ⟨_,j0,[.old 0,.dead,.dead,.old 1,.old 2],z8 j5,j0,⟨⟨_,j0,zg (zQ j0 (by exact ⟨.msl j0,.msl j0,ci j0,j5⟩))⟩,⟨_,j0,zd (fun _=>j0)⟩,⟨_,j0,zd (fun _=>j0)⟩,j5⟩,j0,j1⟩
     ·
      replace h:=bF p h
      refine rg j0<|u<|mv j0<|u<|pc (zaI l.Op 27 32 j0) j0 j0 j0<|u<|asg j0<|za ?_
      refine zh j0 (fun q=>?_) (fun q=>?_)
      ·
       replace h:=bT q h
       obtain ⟨L,W,h⟩:=bs h
       refine rl j0<|u<|mv j0<|u<|bl 4 zM j0 ti9 j0 (by decide) (by decide) j0 j0 j0<|zB (env0:=[(44,.mpt 0 0 0),(45,.isl 1 (List.map zi ([[73],[73]])))]) (st0:=[some (15,[(vK b c d e (.msl 1 0 (List.length a)) (.msl 2 0 (List.length f)) (bA i))]),some (1,List.map zi a),some (1,List.map zi f)]) ⟨[.old 0,.old 1,.old 2],cv j0 (.mpt j0)<|cv j0 (zc1 j0 j0 ⟨⟨⟨ci j0,j5⟩,j0⟩,⟨⟨ci j0,j5⟩,j0⟩,j5⟩)<|cn,j0,⟨⟨_,j0,zg (zQ j0 (by exact ⟨.msl j0,.msl j0,ci j0,j5⟩))⟩,⟨_,j0,zd (fun _=>j0)⟩,⟨_,j0,zd (fun _=>j0)⟩,j5⟩,j0,j1⟩<|u<|sc [0,1,2] (zt b c d e a f i ([[73],[73]]) W) j0 j0 j0 j0 ⟨(.mpt j0),(rnI j0),j5⟩ ⟨⟨_,j0,(zcH j0 ⟨(.msl j0),(.msl j0),(rnI j0),j5⟩)⟩,⟨j0,mkI (fun _=>j0)⟩,⟨j0,mkI (fun _=>j0)⟩,j5⟩<|zB (env0:=[]) (st0:=[some (15,[(vK b c d e (.msl 1 0 (List.length a)) (.msl 2 0 (List.length L.1)) (bA L.2))]),some (1,List.map zi a),some (1,List.map zi L.1)]) ⟨[.old 0,.old 1,.old 2],cn,j0,⟨⟨_,j0,zg (zQ j0 (by exact ⟨.msl j0,.msl j0,ci j0,j5⟩))⟩,⟨_,j0,zd (fun _=>j0)⟩,⟨_,j0,zd (fun _=>j0)⟩,j5⟩,j0,j1⟩<|za ?_
       obtain rfl:=sm h
       exact ⟨_,j0,[.old 0,.dead,.dead,.old 1,.old 2],z8 j5,j0,⟨⟨_,j0,zg (zQ j0 (by exact ⟨.msl j0,.msl j0,ci j0,j5⟩))⟩,⟨_,j0,zd (fun _=>j0)⟩,⟨_,j0,zd (fun _=>j0)⟩,j5⟩,j0,j1⟩
      ·
       replace h:=bF q h
       refine rg j0<|u<|mv j0<|u<|pc (zaI l.Op 33 34 j0) j0 j0 j0<|u<|asg j0<|za ?_
       refine zh j0 (fun s=>?_) (fun s=>?_)
       ·
        replace h:=bT s h
        obtain ⟨M,X,h⟩:=bs h
        refine rl j0<|u<|mv j0<|u<|sc [0,1,2] (zcs b c d e a f i X) j0 j0 j0 j0 ⟨(.mpt j0),j5⟩ ⟨⟨_,j0,(zcH j0 ⟨(.msl j0),(.msl j0),(rnI j0),j5⟩)⟩,⟨j0,mkI (fun _=>j0)⟩,⟨j0,mkI (fun _=>j0)⟩,j5⟩<|zB (env0:=[]) (st0:=[some (15,[(vK b c d e (.msl 1 0 (List.length a)) (.msl 2 0 (List.length M.2.1)) (bA M.2.2))]),some (1,List.map zi a),some (1,List.map zi M.2.1)]) ⟨[.old 0,.old 1,.old 2],cn,j0,⟨⟨_,j0,zg (zQ j0 (by exact ⟨.msl j0,.msl j0,ci j0,j5⟩))⟩,⟨_,j0,zd (fun _=>j0)⟩,⟨_,j0,zd (fun _=>j0)⟩,j5⟩,j0,j1⟩<|za ?_
        obtain rfl:=sm h
        exact ⟨_,j0,[.old 0,.dead,.dead,.old 1,.old 2],z8 j5,j0,⟨⟨_,j0,zg (zQ j0 (by exact ⟨.msl j0,.msl j0,ci j0,j5⟩))⟩,⟨_,j0,zd (fun _=>j0)⟩,⟨_,j0,zd (fun _=>j0)⟩,j5⟩,j0,j1⟩
       ·
        replace h:=bF s h
        refine rg j0<|u<|mv j0<|u<|pc (zaI l.Op 35 36 j0) j0 j0 j0<|u<|asg j0<|za ?_
        refine zh j0 (fun v=>?_) (fun v=>?_)
        ·
         replace h:=bT v h
         obtain ⟨o,Y,h⟩:=bs h
         refine rg j0<|u<|mv j0<|u<|sc [0,1,2] (zcs b c d e a f i Y) j0 j0 j0 j0 ⟨(.mpt j0),j5⟩ ⟨⟨_,j0,(zcH j0 ⟨(.msl j0),(.msl j0),(rnI j0),j5⟩)⟩,⟨j0,mkI (fun _=>j0)⟩,⟨j0,mkI (fun _=>j0)⟩,j5⟩<|zB (env0:=[(0,.mpt 0 0 0)]) (st0:=[some (15,[(vK b c d e (.msl 1 0 (List.length a)) (.msl 2 0 (List.length o.2.1)) (bA o.2.2))]),some (1,List.map zi a),some (1,List.map zi o.2.1)]) ⟨[.old 0,.old 1,.old 2],cv j0 (.mpt j0)<|cn,j0,⟨⟨_,j0,zg (zQ j0 (by exact ⟨.msl j0,.msl j0,ci j0,j5⟩))⟩,⟨_,j0,zd (fun _=>j0)⟩,⟨_,j0,zd (fun _=>j0)⟩,j5⟩,j0,j1⟩<|za ?_
         obtain ⟨N,Z,h⟩:=bs h
         refine rl j0<|u<|mv j0<|u<|sc [0,1,2] (zcs b c d e a o.2.1 o.2.2 Z) j0 j0 j0 j0 ⟨(.mpt j0),j5⟩ ⟨⟨_,j0,(zcH j0 ⟨(.msl j0),(.msl j0),(rnI j0),j5⟩)⟩,⟨j0,mkI (fun _=>j0)⟩,⟨j0,mkI (fun _=>j0)⟩,j5⟩<|zB (env0:=[]) (st0:=[some (15,[(vK b c d e (.msl 1 0 (List.length a)) (.msl 2 0 (List.length N.2.1)) (bA N.2.2))]),some (1,List.map zi a),some (1,List.map zi N.2.1)]) ⟨[.old 0,.old 1,.old 2],cn,j0,⟨⟨_,j0,zg (zQ j0 (by exact ⟨.msl j0,.msl j0,ci j0,j5⟩))⟩,⟨_,j0,zd (fun _=>j0)⟩,⟨_,j0,zd (fun _=>j0)⟩,j5⟩,j0,j1⟩<|za ?_
         obtain rfl:=sm h
         exact ⟨_,j0,[.old 0,.dead,.dead,.old 1,.old 2],z8 j5,j0,⟨⟨_,j0,zg (zQ j0 (by exact ⟨.msl j0,.msl j0,ci j0,j5⟩))⟩,⟨_,j0,zd (fun _=>j0)⟩,⟨_,j0,zd (fun _=>j0)⟩,j5⟩,j0,j1⟩
        ·
         replace h:=bF v h
         refine rg j0<|u<|mv j0<|u<|eql ti3 j0 j0<|u<|mv j0<|zfo (j:=2) 2 j0 j0 j0 j0 j0 gpn (fun x=>g j0 x<|mv j0<|g j0 x<|pc (zaI l.Op 38 41 j0) j0 j0 j0<|za (egO [63,64] 2 x j0 j0 j0 j0)) orT<|u<|asg j0<|za ?_
         refine zh j0 (fun B=>?_) (fun B=>?_)
         ·
          replace h:=bT B h
          obtain ⟨O,q21,h⟩:=bs h
          refine rl j0<|u<|mv j0<|u<|ld zcI j0 j0<|u<|sc [0,1,2] (zii b c d e a f i l q21) j0 j0 j0 j0 ⟨(.mpt j0),(rnI j0),j5⟩ ⟨⟨_,j0,(zcH j0 ⟨(.msl j0),(.msl j0),(rnI j0),j5⟩)⟩,⟨j0,mkI (fun _=>j0)⟩,⟨j0,mkI (fun _=>j0)⟩,j5⟩<|zB (env0:=[]) (st0:=[some (15,[(vK b c d e (.msl 1 0 (List.length a)) (.msl 3 0 (List.length O.1)) (bA O.2))]),some (1,List.map zi a),none,some (1,List.map zi O.1)]) ⟨[.old 0,.old 1,.dead,.old 4],cn,j0,⟨⟨_,j0,zg (zQ j0 (by exact ⟨.msl j0,.msl j0,ci j0,j5⟩))⟩,⟨_,j0,zd (fun _=>j0)⟩,⟨_,j0,zd (fun _=>j0)⟩,j5⟩,j0,j1⟩<|za ?_
          obtain rfl:=sm h
          exact ⟨_,j0,[.old 0,.dead,.dead,.old 1,.old 3],z8 j5,j0,⟨⟨_,j0,zg (zQ j0 (by exact ⟨.msl j0,.msl j0,ci j0,j5⟩))⟩,⟨_,j0,zd (fun _=>j0)⟩,⟨_,j0,zd (fun _=>j0)⟩,j5⟩,j0,j1⟩
         ·
          replace h:=bF B h
          refine rg j0<|u<|mv j0<|u<|pc (zaI l.Op 42 45 j0) j0 j0 j0<|u<|asg j0<|za ?_
          refine zh j0 (fun C=>?_) (fun C=>?_)
          ·
           replace h:=bT C h
           obtain ⟨P,q23,h⟩:=bs h
           refine rl j0<|u<|mv j0<|u<|ld zcI j0 j0<|u<|sc [0,1,2] (ziu b c d e a f i l q23) j0 j0 j0 j0 ⟨(.mpt j0),(rnI j0),j5⟩ ⟨⟨_,j0,(zcH j0 ⟨(.msl j0),(.msl j0),(rnI j0),j5⟩)⟩,⟨j0,mkI (fun _=>j0)⟩,⟨j0,mkI (fun _=>j0)⟩,j5⟩<|zB (env0:=[]) (st0:=[some (15,[(vK b c d e (.msl 1 0 (List.length a)) (.msl 3 0 (List.length P.1)) (bA P.2))]),some (1,List.map zi a),none,some (1,List.map zi P.1)]) ⟨[.old 0,.old 1,.dead,.old 4],cn,j0,⟨⟨_,j0,zg (zQ j0 (by exact ⟨.msl j0,.msl j0,ci j0,j5⟩))⟩,⟨_,j0,zd (fun _=>j0)⟩,⟨_,j0,zd (fun _=>j0)⟩,j5⟩,j0,j1⟩<|za ?_
           obtain rfl:=sm h
           exact ⟨_,j0,[.old 0,.dead,.dead,.old 1,.old 3],z8 j5,j0,⟨⟨_,j0,zg (zQ j0 (by exact ⟨.msl j0,.msl j0,ci j0,j5⟩))⟩,⟨_,j0,zd (fun _=>j0)⟩,⟨_,j0,zd (fun _=>j0)⟩,j5⟩,j0,j1⟩
          ·
           replace h:=bF C h
           refine rg j0<|u<|mv j0<|u<|pc (zaI l.Op 46 48 j0) j0 j0 j0<|u<|asg j0<|za ?_
           refine zh j0 (fun D=>?_) (fun D=>?_)
           ·
            replace h:=bT D h
            obtain ⟨Q,q25,h⟩:=bs h
            refine rl j0<|u<|mv j0<|u<|mv j0<|u<|sc [0,1,2] (zjc b c d e a f i l.Op q25) j0 j0 j0 j0 ⟨(.mpt j0),(rnI j0),j5⟩ ⟨⟨_,j0,(zcH j0 ⟨(.msl j0),(.msl j0),(rnI j0),j5⟩)⟩,⟨j0,mkI (fun _=>j0)⟩,⟨j0,mkI (fun _=>j0)⟩,j5⟩<|zB (env0:=[]) (st0:=[some (15,[(vK b c d e (.msl 1 0 (List.length a)) (.msl 2 0 (List.length Q.1)) (bA Q.2))]),some (1,List.map zi a),some (1,List.map zi Q.1)]) ⟨[.old 0,.old 1,.old 2],cn,j0,⟨⟨_,j0,zg (zQ j0 (by exact ⟨.msl j0,.msl j0,ci j0,j5⟩))⟩,⟨_,j0,zd (fun _=>j0)⟩,⟨_,j0,zd (fun _=>j0)⟩,j5⟩,j0,j1⟩<|za ?_
            obtain rfl:=sm h
            exact ⟨_,j0,[.old 0,.dead,.dead,.old 1,.old 2],z8 j5,j0,⟨⟨_,j0,zg (zQ j0 (by exact ⟨.msl j0,.msl j0,ci j0,j5⟩))⟩,⟨_,j0,zd (fun _=>j0)⟩,⟨_,j0,zd (fun _=>j0)⟩,j5⟩,j0,j1⟩
           ·
            replace h:=bF D h
            refine rg j0<|u<|mv j0<|u<|pc (zaI l.Op 49 55 j0) j0 j0 j0<|u<|asg j0<|za ?_
            refine zh j0 (fun E=>?_) (fun E=>?_)
            ·
             replace h:=bT E h
             obtain ⟨R,q27,h⟩:=bs h
             refine rl j0<|u<|mv j0<|u<|ld zcI j0 j0<|u<|sc [0,1,2] (zhR b c d e a f i l q27) j0 j0 j0 j0 ⟨(.mpt j0),(rnI j0),j5⟩ ⟨⟨_,j0,(zcH j0 ⟨(.msl j0),(.msl j0),(rnI j0),j5⟩)⟩,⟨j0,mkI (fun _=>j0)⟩,⟨j0,mkI (fun _=>j0)⟩,j5⟩<|zB (env0:=[]) (st0:=[some (15,[(vK b c d e (.msl 1 0 (List.length a)) (.msl 3 0 (List.length R.1)) (bA R.2))]),some (1,List.map zi a),none,some (1,List.map zi R.1)]) ⟨[.old 0,.old 1,.dead,.old 4],cn,j0,⟨⟨_,j0,zg (zQ j0 (by exact ⟨.msl j0,.msl j0,ci j0,j5⟩))⟩,⟨_,j0,zd (fun _=>j0)⟩,⟨_,j0,zd (fun _=>j0)⟩,j5⟩,j0,j1⟩<|za ?_
             obtain rfl:=sm h
             exact ⟨_,j0,[.old 0,.dead,.dead,.old 1,.old 3],z8 j5,j0,⟨⟨_,j0,zg (zQ j0 (by exact ⟨.msl j0,.msl j0,ci j0,j5⟩))⟩,⟨_,j0,zd (fun _=>j0)⟩,⟨_,j0,zd (fun _=>j0)⟩,j5⟩,j0,j1⟩
            ·
             replace h:=bF E h
             obtain ⟨S,q28,h⟩:=bs h
             refine rl j0<|u<|mv j0<|u<|ld zcI j0 j0<|u<|sc [0,1,2] (ziw b c d e a f i l q28) j0 j0 j0 j0 ⟨(.mpt j0),(rnI j0),j5⟩ ⟨⟨_,j0,(zcH j0 ⟨(.msl j0),(.msl j0),(rnI j0),j5⟩)⟩,⟨j0,mkI (fun _=>j0)⟩,⟨j0,mkI (fun _=>j0)⟩,j5⟩<|zB (env0:=[]) (st0:=[some (15,[(vK b c d e (.msl 1 0 (List.length a)) (.msl 3 0 (List.length S.1)) (bA S.2))]),some (1,List.map zi a),none,some (1,List.map zi S.1)]) ⟨[.old 0,.old 1,.dead,.old 4],cn,j0,⟨⟨_,j0,zg (zQ j0 (by exact ⟨.msl j0,.msl j0,ci j0,j5⟩))⟩,⟨_,j0,zd (fun _=>j0)⟩,⟨_,j0,zd (fun _=>j0)⟩,j5⟩,j0,j1⟩<|za ?_
             obtain rfl:=sm h
             exact ⟨_,j0,[.old 0,.dead,.dead,.old 1,.old 3],z8 j5,j0,⟨⟨_,j0,zg (zQ j0 (by exact ⟨.msl j0,.msl j0,ci j0,j5⟩))⟩,⟨_,j0,zd (fun _=>j0)⟩,⟨_,j0,zd (fun _=>j0)⟩,j5⟩,j0,j1⟩
end
end Go.Proofs.YthmnlfenkhmmhaaGreat
namespace Go.Proofs.YthmnlfenkhmmhaaGreat
noncomputable section
set_option linter.unusedSimpArgs false
set_option linter.unusedVariables false
set_option maxRecDepth 100000
set_option maxHeartbeats 4000000
def zf3 (b:List (List UInt8)) (c:List (List UInt8)) (a:Bool):Option (Bool) :=
  some (!a)
def zdI (e:ze) (b:Int) (c:zA) (a:(List (List UInt8))×(List (List UInt8))×Bool) (d:Bool):Option (Sum ((List (List UInt8))×(List (List UInt8))×Bool×Bool×Int) (Sum ((List (List UInt8))×(List (List UInt8))×Bool) (Bool))) :=
  some (.inl (a.1,a.2.1,(d||(!(decide (((List.length a.2.1):Int)≤e.Stack)))),(!(znD c.Op)),(IntKind.i64.wrap (b+1))))
def zgA (i:List UInt8) (d:zK) (e:ze) (j:List (List UInt8)) (m:List (List UInt8)) (n:Bool) (o:Bool) (a:Int):Option (Sum ((List (List UInt8))×(List (List UInt8))×Bool×Bool×Int) (Sum ((List (List UInt8))×(List (List UInt8))×Bool) (Bool))) :=
  cond (decide (a < (List.length e.Code:Int))) ((idx e.Code a).bind fun f=>(zeQ d.l d.at_ i e j m n a o).bind fun b=>cond b.2.2 (some (.inr (.inr false))) ((zeS d.l d.at_ i e b.1 b.2.1 b.2.2 a).bind fun p=>(zfN d.l d.at_ i e b.1 b.2.1 p f).bind fun c=>cond (zkr f.Op) ((zdx d.l d.at_ i e c.1 c.2.1 c.2.2 f.A).bind fun q=>zdI e a f c q) (zdI e a f c c.2.2))) (some (.inr (.inl (j,m,n))))
def zgx (e:List UInt8) (f:zK) (i:ze) (a:Bool) (c:Bool) (d:List (List UInt8)):Option (Bool) :=
  (zab (fun z=>zgA e f i z.1 z.2.1 z.2.2.1 z.2.2.2.1 z.2.2.2.2) (d,[],(a||(!c)),true,0)).bind fun o=>zaJ o (fun b=>zf3 b.1 b.2.1 b.2.2) some
def zgz (c:ze) (a:List (List UInt8)):Option (Sum ((List (List UInt8))) (Sum ((List (List UInt8))) (Bool))) :=
  cond (decide (((List.length a):Int) < c.Locals)) ((zjq 16 a ([[84]])).bind fun b=>some (.inl b)) (some (.inr (.inl a)))
def zdH (i:List UInt8) (j:zK) (a:ze) (c:Bool) (d:Bool) (e:List (List UInt8)):Option (Bool) :=
  (zjq 16 e a.Params).bind fun f=>(zab (fun z=>zgz a z) f).bind fun o=>zaJ o (fun b=>zgx i j a c d b) some
def zdG (e:List UInt8) (a:zK) (b:ze) (c:Bool):Option (Bool) :=
  (zig b.Params a.l a.at_).bind fun d=>cond (!b.Static) ((zjq 16 ([]:List (List UInt8)) [e]).bind fun f=>zdH e a b c d f) (zdH e a b c d [])
def zgw (d:List UInt8) (b:zK) (a:ze) (c:Bool):Option (Bool) :=
  cond (a.Ret == [86]) (zdG d b a (c||(!true))) ((zcx b.l b.at_ a.Ret a.Ret).bind fun e=>zdG d b a (c||(!e)))
def zgy (b:zK) (e:ze) (c:Bool) (a:Int):Option (Sum (Bool×Int) (Sum (Bool) (Bool))) :=
  cond (decide (a < (List.length e.Maps:Int))) ((idx e.Maps a).bind fun d=>(zjm d.Locals b.l b.at_).bind fun f=>(cond f ((zjm d.Stack b.l b.at_).bind fun i=>some i) (some false)).bind fun j=>some (.inl ((c||(!j)),(IntKind.i64.wrap (a+1))))) (some (.inr (.inl c)))
def zif (i:Option zK) (e:List UInt8) (a:Int):Option (Bool) :=
  zst i (none) (fun c=>(zE c.l c.at_ e).bind fun d=>(cond (((!d.2)||(decide (a < 0)))||(decide ((List.length d.1.Methods:Int)≤a))) (some true) ((idx d.1.Methods a).bind fun j=>some j.Abstract)).bind fun m=>cond m (some false) ((idx d.1.Methods a).bind fun f=>(zab (fun z=>zgy c f z.1 z.2) (false,0)).bind fun o=>zaJ o (fun b=>zgw e c f b) some))
theorem zlD (v1:Option zK) (e:List UInt8) (W:Int) {r:Bool} (h:zif v1 e W=some r):zu Tryz.prog 118 [zk8 2 zcG v1,sA e,iA W] (bA r):=by
 refine zn Tryz.func118 j0 (by kernel_rfl) j0 j0 ?_
 unfold zif at h
 rcases v1 with _ | d
 ·
  replace h:=oeN h
  cases h
 ·
  replace h:=oeS h
  refine rg j0<|u<|bx 0 1 j0 j0 j0 j0<|u<|asg j0<|za ?_
  obtain ⟨v5,q1,h⟩:=bs h
  refine rg j0<|u<|ld zez j0 j0<|u<|mv j0<|u<|pc (zy d.l d.at_ e q1) j0 j0 j0<|u<|mv j0<|u<|ex j0 j0<|u<|ex j0 j0<|u<|al 1 zaf j0<|u<|sto zaf j0 j0 j0<|u<|asg j0<|za ?_
  refine zl ?_
  obtain ⟨v7,P,h⟩:=bs h
  refine rg j0<|u<|mv j0<|u<|nt j0<|u<|mv j0<|zfo (j:=2) 2 j0 j0 j0 j0 j0 gpn (fun Q=>g j0 Q<|mv j0<|g j0 Q<|lss ti3 j0 j0<|za (egO [25,26] 2 Q j0 j0 j0 j0)) orT<|u<|mv j0<|zfo (j:=6) 5 j0 j0 j0 j0 j0 gpn (fun E=>g j0 E<|mv j0<|g j0 E<|fa zaf j0 j0 j0<|g j0 E<|ld zc7 j0 j0<|g j0 E<|lnI zc7 j0 j0<|g j0 E<|geq ti3 j0 j0<|za (egO [29,30,31,32,33] 5 E j0 j0 j0 j0)) orT<|u<|mv j0<|zfo (x:=v7) (j:=13) 6 j0 j0 j0 j0 j0 gpn (fun v=>by replace P:=bF v P; obtain ⟨v6,q5,P⟩:=bs P; obtain rfl:=sm P; exact g j0 v<|fa zaf j0 j0 j0<|g j0 v<|ld zc7 j0 j0<|g j0 v<|mv j0<|g j0 v<|ixI zc7 j0 zN j0 j0 j0 q5<|g j0 v<|fa zN j0 j0 j0<|g j0 v<|ldI ti4 j0 (zp q5).2.2 j0<|za (eg [36,37,38,39,40,41] 6 j0 j0 j0 j0)) (fun hb=>(sm (bT hb P)).symm)<|za ?_
  refine zh j0 (fun S=>?_) (fun S=>?_)
  ·
   replace h:=bT S h
   refine rg j0<|u<|asg j0<|za ?_
   refine zj ?_
   obtain rfl:=sm h
   exact ⟨_,j0,[],ci j0,j0,j5,j0,j1⟩
  ·
   replace h:=bF S h
   refine zk ?_
   obtain ⟨a,Y,h⟩:=bs h
   refine rd [(1,sA e),(3,.mpt 0 0 0),(9,.mpt 1 0 0)] [some (1,[[.ipt 2 [[.isl 6 (List.map zb d.l),.imp (List.map (rKV (fun x=>iA x)) d.at_)]] 0 0]]),some (15,[(vK d.l d.at_ e a (.lit (.slice none 0 0)) (.lit (.slice none 0 0)) (bA false))])] [8] [7,6,5,4,3,2,1,0] [(50,.agg [.ipt 2 [[.isl 6 (List.map zb d.l),.imp (List.map (rKV (fun x=>iA x)) d.at_)]] 0 0,sA e,sA a.Name,.isl 1 (List.map zi a.Params),sA a.Ret,bA a.Static,bA a.Abstract,iA a.Locals,iA a.Stack,.isl 4 (List.map zw a.Code),.isl 3 (List.map zac a.Maps),.isl 4 (List.map zW a.Traps),.lit (.slice none 0 0),.lit (.slice none 0 0),bA false]),(49,.agg (zf a)),(48,.ipt 10 (List.map zf v5.1.Methods) (Int.toNat W) 0),(47,iA W),(46,.isl 10 (List.map zf v5.1.Methods)),(45,.mpt 1 0 5),(44,sA e),(43,.ipt 2 [[.isl 6 (List.map zb d.l),.imp (List.map (rKV (fun x=>iA x)) d.at_)]] 0 0)] 1 (by kernel_rfl) (by kernel_rfl) j0 (by kernel_rfl) (dtS ⟨(fun _=>pa j0 j0 j0 j0 (bd zS j0 j0 j0<|j4)),(fun _=>pa j0 j0 j0 j0 (ldI zN j0 (zp Y).2.2 j0<|j4)),(fun _=>pa j0 j0 j0 j0 (ixI zc7 j0 zN j0 j0 j0 Y<|j4)),(fun _=>pa j0 j0 j0 j0 (mv j0<|j4)),(fun _=>pa j0 j0 j0 j0 (ld zc7 j0 j0<|j4)),(fun _=>pa j0 j0 j0 j0 (fa zaf j0 j0 j0<|j4)),(fun _=>pa j0 j0 j0 j0 (mv j0<|j4)),(fun _=>pa j0 j0 j0 j0 (ld zez j0 j0<|j4)),j5⟩ (by kernel_rfl) j0 ⟨(fun _ _=>⟨_,j0,j0,bx 2 15 j0 j0 j0 j0<|⟨(.mpt 2 0 0),[9],[(9,.mpt 2 0 0),(51,.mpt 2 0 0)],j0,j0,by kernel_rfl,j0,dt0 ⟨(fun _=>pa j0 j0 j0 j0 (asg j0<|j4)),(fun h=>by cases h),(fun _=>pa j0 j0 j0 j0 (ldI zN j0 (zp Y).2.2 j0<|j4)),(fun _=>pa j0 j0 j0 j0 (ixI zc7 j0 zN j0 j0 j0 Y<|j4)),(fun _=>pa j0 j0 j0 j0 (mv j0<|j4)),(fun _=>pa j0 j0 j0 j0 (ld zc7 j0 j0<|j4)),(fun _=>pa j0 j0 j0 j0 (fa zaf j0 j0 j0<|j4)),(fun _=>pa j0 j0 j0 j0 (mv j0<|j4)),(fun _=>pa j0 j0 j0 j0 (ld zez j0 j0<|j4)),j5⟩ (by kernel_rfl) j0 ⟨[.old 0,.old 2],ce j0 j0<|cv j0 (.mpt j0)<|cv j0 (.mpt j0)<|cn,j0,⟨⟨_,j0,zg ⟨ci j0,j5⟩⟩,⟨_,j0,zg (ciL j0)⟩,j5⟩,j0,j1⟩⟩⟩),j5⟩) ?_
   refine zl ?_
   refine rg j0<|u<|mv j0<|u<|nc j0 j0<|u<|fa zS j0 j0 j0<|u<|fa zN j0 j0 j0<|u<|ld zoF j0 j0<|u<|lnI zoF j0 j0<|u<|mv j0<|za ?_
   obtain ⟨o,ho,h⟩:=bs h
   refine zT (X:=Bool×Int) (B:=Bool) (R:=Bool) (fun z=>[(1,sA e),(3,.mpt 0 0 0),(9,.mpt 1 0 0),(56,.isl 3 (List.map zac a.Maps)),(57,iA (List.length a.Maps:Int)),(58,iA z.2)]) (fun z=>[some (1,[[.ipt 2 [[.isl 6 (List.map zb d.l),.imp (List.map (rKV (fun x=>iA x)) d.at_)]] 0 0]]),some (15,[(vK d.l d.at_ e a (.msl 2 0 0) (.msl 3 0 0) (bA z.1))]),some (1,List.map zi []),some (1,List.map zi [])]) (fun b=>[(1,sA e),(3,.mpt 0 0 0),(9,.mpt 1 0 0)]) (fun b=>[some (1,[[.ipt 2 [[.isl 6 (List.map zb d.l),.imp (List.map (rKV (fun x=>iA x)) d.at_)]] 0 0]]),some (15,[(vK d.l d.at_ e a (.msl 2 0 0) (.msl 3 0 0) (bA b))]),some (1,List.map zi []),some (1,List.map zi [])]) (fun r env st=>zaC Tryz.prog Tryz.f118 0 (bA r) [] env st) ho ⟨[.old 0,.old 1,.fresh 1,.fresh 1],ce j0 j0<|cv j0 (.mpt j0)<|cv j0 (.mpt j0)<|ce j0 j0<|ce j0 j0<|ce j0 j0<|cn,j0,⟨⟨_,j0,zg ⟨ci j0,j5⟩⟩,⟨_,j0,zg (zQ j0 (by exact ⟨.nilown j0,.nilown j0,ci j0,j5⟩))⟩,j4,j4,j5⟩,j0,j1⟩ ?_ ?_ ?_
   ·
    rintro ⟨T,Z⟩ r h
    replace h:zgy d a T Z=some r:=h
    unfold zgy at h
    refine rg j0<|u<|lss ti3 j0 j0<|za ?_
    refine zl ?_
    refine zh j0 (fun I=>?_) (fun I=>?_)
    ·
     replace h:=bT I h
     refine zk ?_
     refine zl ?_
     refine zq ?_
     obtain ⟨v17,q16,h⟩:=bs h
     refine rg j0<|u<|ixI zoF j0 zin j0 j0 j0 q16<|u<|ldI zin j0 (zp q16).2.2 j0<|u<|al 4 zin j0<|u<|sto zin j0 j0 j0<|za ?_
     refine rg j0<|u<|mf j0 j0<|u<|asg j0<|za ?_
     obtain ⟨v18,q17,h⟩:=bs h
     obtain ⟨U,F,h⟩:=bs h
     refine rl j0<|u<|mv j0<|u<|fa zin j0 j0 j0<|u<|ld zM j0 j0<|u<|mv j0<|u<|pcs (zkF v17.Locals d.l d.at_ q17) j0 j0 (.cons (si j0) (.cons (zdp j5 ⟨(zbe j0 ⟨(si j0),j5⟩),j5⟩) .nil)) zcq<|u<|mv j0<|za7 (x:=U) (j:=5) 4 j0 j0 j0 j0 j0 gpn (fun C=>by replace F:=bT C F; obtain ⟨v19,q19,F⟩:=bs F; obtain rfl:=sm F; exact g j0 C<|fa zin j0 j0 j0<|g j0 C<|ld zM j0 j0<|g j0 C<|mv j0<|g j0 C<|pcs (zkF v17.Stack d.l d.at_ q19) j0 j0 (.cons (si j0) (.cons (zdp j5 ⟨(zbe j0 ⟨(si j0),j5⟩),j5⟩) .nil)) zcq<|za (eg [69,70,71,72] 4 j0 j0 j0 j0)) (fun hb=>(sm (bF hb F)).symm)<|u<|sc [1,2,3] (zo d.l d.at_ e a [] [] T U j0) j0 j0 j0 j0 ⟨(.mpt j0),(rnI j0),j5⟩ ⟨⟨_,j0,(zcH j0 ⟨(.msl j0),(.msl j0),(rnI j0),j5⟩)⟩,⟨j0,mkI (fun _=>j0)⟩,⟨j0,mkI (fun _=>j0)⟩,j5⟩<|zB (env0:=[(1,sA e),(3,.mpt 0 0 0),(9,.mpt 1 0 0),(56,.isl 3 (List.map zac a.Maps)),(57,iA (List.length a.Maps:Int)),(58,iA Z)]) (st0:=[some (1,[[.ipt 2 [[.isl 6 (List.map zb d.l),.imp (List.map (rKV (fun x=>iA x)) d.at_)]] 0 0]]),some (15,[(vK d.l d.at_ e a (.msl 2 0 0) (.msl 3 0 0) (bA (T||(!U))))]),some (1,List.map zi []),some (1,List.map zi [])]) ⟨[.old 0,.old 1,.old 2,.old 3],ce j0 j0<|cv j0 (.mpt j0)<|cv j0 (.mpt j0)<|ce j0 j0<|ce j0 j0<|ce j0 j0<|cn,j0,⟨⟨_,j0,zg ⟨ci j0,j5⟩⟩,⟨_,j0,zg (zQ j0 (by exact ⟨.msl j0,.msl j0,ci j0,j5⟩))⟩,⟨_,j0,zd (fun _=>j0)⟩,⟨_,j0,zd (fun _=>j0)⟩,j5⟩,j0,j1⟩<|za ?_
     refine rl j0<|u<|add ti3 j0 j0<|u<|mv j0<|za ?_
     obtain rfl:=sm h
     exact ⟨_,j0,[.old 0,.old 1,.old 2,.old 3],ce j0 j0<|cv j0 (.mpt j0)<|cv j0 (.mpt j0)<|ce j0 j0<|ce j0 j0<|ce j0 j0<|cn,j0,⟨⟨_,j0,zg ⟨ci j0,j5⟩⟩,⟨_,j0,zg (zQ j0 (by exact ⟨.msl j0,.msl j0,ci j0,j5⟩))⟩,⟨_,j0,zd (fun _=>j0)⟩,⟨_,j0,zd (fun _=>j0)⟩,j5⟩,j0,j1⟩
    ·
     replace h:=bF I h
     refine zz ?_
     obtain rfl:=sm h
     exact ⟨j0,_,j0,[.old 0,.old 1,.old 2,.old 3],ce j0 j0<|cv j0 (.mpt j0)<|cv j0 (.mpt j0)<|cn,j0,⟨⟨_,j0,zg ⟨ci j0,j5⟩⟩,⟨_,j0,zg (zQ j0 (by exact ⟨.msl j0,.msl j0,ci j0,j5⟩))⟩,⟨_,j0,zd (fun _=>j0)⟩,⟨_,j0,zd (fun _=>j0)⟩,j5⟩,j0,j1⟩
   ·
    rintro G rfl
    replace h:zgw e d a G=some r:=h
    unfold zgw at h
    refine zv ?_
    refine zcD (X:=Bool) (fun z=>[(1,sA e),(3,.mpt 0 0 0),(9,.mpt 1 0 0)]) (fun z=>[some (1,[[.ipt 2 [[.isl 6 (List.map zb d.l),.imp (List.map (rKV (fun x=>iA x)) d.at_)]] 0 0]]),some (15,[(vK d.l d.at_ e a (.msl 2 0 0) (.msl 3 0 0) (bA z))]),some (1,List.map zi []),some (1,List.map zi [])]) (fun z=>zdG e d a z=some r) ?_ ?_
    ·
     rcases bb (a.Ret == [86]) with c | c
     ·
      replace h:=bT c h
      exact za4 [21] [20,19,18,17,16,15,14,13,12,11,10,9,8,7,6,5,4,3,2,1,0] [(96,bA true),(95,.lit undef),(94,.lit undef),(93,.lit undef),(92,.lit undef),(91,.lit undef),(90,.lit undef),(89,.lit undef),(88,.lit undef),(87,.lit undef),(86,.lit undef),(85,.lit undef),(84,.lit undef),(83,bA (a.Ret == [86])),(82,bA (a.Ret == [86])),(81,sA a.Ret),(80,.mpt 1 0 4),(79,.mpt 1 0 2),(78,.mpt 1 0 0),(77,.mpt 1 0 0),(76,.mpt 1 0 0)] 1 (by kernel_rfl) (by kernel_rfl) j0 (by kernel_rfl) (dtS ⟨(fun _=>pa j0 j0 j0 j0 (pkb j0 c j0<|j4)),(fun _=>pas (b:=(a.Ret == [86])) j0 j0 j0 j0 c j0),(fun _=>pas (b:=(a.Ret == [86])) j0 j0 j0 j0 c j0),(fun _=>pas (b:=(a.Ret == [86])) j0 j0 j0 j0 c j0),(fun _=>pas (b:=(a.Ret == [86])) j0 j0 j0 j0 c j0),(fun _=>pas (b:=(a.Ret == [86])) j0 j0 j0 j0 c j0),(fun _=>pas (b:=(a.Ret == [86])) j0 j0 j0 j0 c j0),(fun _=>pas (b:=(a.Ret == [86])) j0 j0 j0 j0 c j0),(fun _=>pas (b:=(a.Ret == [86])) j0 j0 j0 j0 c j0),(fun _=>pas (b:=(a.Ret == [86])) j0 j0 j0 j0 c j0),(fun _=>pas (b:=(a.Ret == [86])) j0 j0 j0 j0 c j0),(fun _=>pas (b:=(a.Ret == [86])) j0 j0 j0 j0 c j0),(fun _=>pas (b:=(a.Ret == [86])) j0 j0 j0 j0 c j0),(fun _=>pa j0 j0 j0 j0 (mv j0<|j4)),(fun _=>pa j0 j0 j0 j0 (seq ti9 j0 j0<|j4)),(fun _=>pa j0 j0 j0 j0 (ld ti9 j0 j0<|j4)),(fun _=>pa j0 j0 j0 j0 (fa zN j0 j0 j0<|j4)),(fun _=>pa j0 j0 j0 j0 (fa zS j0 j0 j0<|j4)),(fun _=>pa j0 j0 j0 j0 (nc j0 j0<|j4)),(fun _=>pa j0 j0 j0 j0 (mv j0<|j4)),(fun _=>pa j0 j0 j0 j0 (mv j0<|j4)),j5⟩ (by kernel_rfl) j0 ⟨(fun _ _=>⟨_,j0,j0,sc [1,2,3] (args:=[.mpt 1 0 0,bA true]) (zo d.l d.at_ e a [] [] G true j0) j0 j0 j0 j0 ⟨(.mpt j0),(rnI j0),j5⟩ ⟨⟨_,j0,(zcH j0 ⟨(.msl j0),(.msl j0),(rnI j0),j5⟩)⟩,⟨j0,mkI (fun _=>j0)⟩,⟨j0,mkI (fun _=>j0)⟩,j5⟩<|⟨(.tup []),[],[(97,.tup [])],j0,j0,by kernel_rfl,j0,dt0 ⟨(fun h=>by cases h),(fun h=>by cases h),(fun _=>pas (b:=(a.Ret == [86])) j0 j0 j0 j0 c j0),(fun _=>pas (b:=(a.Ret == [86])) j0 j0 j0 j0 c j0),(fun _=>pas (b:=(a.Ret == [86])) j0 j0 j0 j0 c j0),(fun _=>pas (b:=(a.Ret == [86])) j0 j0 j0 j0 c j0),(fun _=>pas (b:=(a.Ret == [86])) j0 j0 j0 j0 c j0),(fun _=>pas (b:=(a.Ret == [86])) j0 j0 j0 j0 c j0),(fun _=>pas (b:=(a.Ret == [86])) j0 j0 j0 j0 c j0),(fun _=>pas (b:=(a.Ret == [86])) j0 j0 j0 j0 c j0),(fun _=>pas (b:=(a.Ret == [86])) j0 j0 j0 j0 c j0),(fun _=>pas (b:=(a.Ret == [86])) j0 j0 j0 j0 c j0),(fun _=>pas (b:=(a.Ret == [86])) j0 j0 j0 j0 c j0),(fun _=>pa j0 j0 j0 j0 (mv j0<|j4)),(fun _=>pa j0 j0 j0 j0 (seq ti9 j0 j0<|j4)),(fun _=>pa j0 j0 j0 j0 (ld ti9 j0 j0<|j4)),(fun _=>pa j0 j0 j0 j0 (fa zN j0 j0 j0<|j4)),(fun _=>pa j0 j0 j0 j0 (fa zS j0 j0 j0<|j4)),(fun _=>pa j0 j0 j0 j0 (nc j0 j0<|j4)),(fun _=>pa j0 j0 j0 j0 (mv j0<|j4)),(fun h=>by cases h),j5⟩ (by kernel_rfl) j0 ⟨(G||(!true)),h,[.old 0,.old 1,.old 2,.old 3],ce j0 j0<|cv j0 (.mpt j0)<|cv j0 (.mpt j0)<|cn,j0,⟨⟨_,j0,zg ⟨ci j0,j5⟩⟩,⟨_,j0,zg (zQ j0 (by exact ⟨.msl j0,.msl j0,ci j0,j5⟩))⟩,⟨_,j0,zd (fun _=>j0)⟩,⟨_,j0,zd (fun _=>j0)⟩,j5⟩,j0,j1⟩⟩⟩),j5⟩)
     ·
      replace h:=bF c h
      obtain ⟨H,q22,h⟩:=bs h
      exact za4 [21] [20,19,18,17,16,15,14,13,12,11,10,9,8,7,6,5,4,3,2,1,0] [(96,bA H),(95,bA H),(94,sA a.Ret),(93,.mpt 1 0 4),(92,.mpt 1 0 2),(91,.mpt 1 0 0),(90,.mpt 1 0 0),(89,sA a.Ret),(88,.mpt 1 0 4),(87,.mpt 1 0 2),(86,.mpt 1 0 0),(85,.mpt 1 0 0),(84,.ipt 2 [[.isl 6 (List.map zb d.l),.imp (List.map (rKV (fun x=>iA x)) d.at_)]] 0 0),(83,bA (a.Ret == [86])),(82,bA (a.Ret == [86])),(81,sA a.Ret),(80,.mpt 1 0 4),(79,.mpt 1 0 2),(78,.mpt 1 0 0),(77,.mpt 1 0 0),(76,.mpt 1 0 0)] 1 (by kernel_rfl) (by kernel_rfl) j0 (by kernel_rfl) (dtS ⟨(fun _=>pa j0 j0 j0 j0 (pkb j0 c j0<|j4)),(fun _=>pag (b:=(a.Ret == [86])) j0 j0 j0 j0 c j0 (pc (zcg d.l d.at_ a.Ret a.Ret q22) j0 j0 j0<|j4)),(fun _=>pag (b:=(a.Ret == [86])) j0 j0 j0 j0 c j0 (ld ti9 j0 j0<|j4)),(fun _=>pag (b:=(a.Ret == [86])) j0 j0 j0 j0 c j0 (fa zN j0 j0 j0<|j4)),(fun _=>pag (b:=(a.Ret == [86])) j0 j0 j0 j0 c j0 (fa zS j0 j0 j0<|j4)),(fun _=>pag (b:=(a.Ret == [86])) j0 j0 j0 j0 c j0 (nc j0 j0<|j4)),(fun _=>pag (b:=(a.Ret == [86])) j0 j0 j0 j0 c j0 (mv j0<|j4)),(fun _=>pag (b:=(a.Ret == [86])) j0 j0 j0 j0 c j0 (ld ti9 j0 j0<|j4)),(fun _=>pag (b:=(a.Ret == [86])) j0 j0 j0 j0 c j0 (fa zN j0 j0 j0<|j4)),(fun _=>pag (b:=(a.Ret == [86])) j0 j0 j0 j0 c j0 (fa zS j0 j0 j0<|j4)),(fun _=>pag (b:=(a.Ret == [86])) j0 j0 j0 j0 c j0 (nc j0 j0<|j4)),(fun _=>pag (b:=(a.Ret == [86])) j0 j0 j0 j0 c j0 (mv j0<|j4)),(fun _=>pag (b:=(a.Ret == [86])) j0 j0 j0 j0 c j0 (ld zez j0 j0<|j4)),(fun _=>pa j0 j0 j0 j0 (mv j0<|j4)),(fun _=>pa j0 j0 j0 j0 (seq ti9 j0 j0<|j4)),(fun _=>pa j0 j0 j0 j0 (ld ti9 j0 j0<|j4)),(fun _=>pa j0 j0 j0 j0 (fa zN j0 j0 j0<|j4)),(fun _=>pa j0 j0 j0 j0 (fa zS j0 j0 j0<|j4)),(fun _=>pa j0 j0 j0 j0 (nc j0 j0<|j4)),(fun _=>pa j0 j0 j0 j0 (mv j0<|j4)),(fun _=>pa j0 j0 j0 j0 (mv j0<|j4)),j5⟩ (by kernel_rfl) j0 ⟨(fun _ _=>⟨_,j0,j0,sc [1,2,3] (args:=[.mpt 1 0 0,bA H]) (zo d.l d.at_ e a [] [] G H j0) j0 j0 j0 j0 ⟨(.mpt j0),(rnI j0),j5⟩ ⟨⟨_,j0,(zcH j0 ⟨(.msl j0),(.msl j0),(rnI j0),j5⟩)⟩,⟨j0,mkI (fun _=>j0)⟩,⟨j0,mkI (fun _=>j0)⟩,j5⟩<|⟨(.tup []),[],[(97,.tup [])],j0,j0,by kernel_rfl,j0,dt0 ⟨(fun h=>by cases h),(fun h=>by cases h),(fun _=>pag (b:=(a.Ret == [86])) j0 j0 j0 j0 c j0 (ld ti9 j0 j0<|j4)),(fun _=>pag (b:=(a.Ret == [86])) j0 j0 j0 j0 c j0 (fa zN j0 j0 j0<|j4)),(fun _=>pag (b:=(a.Ret == [86])) j0 j0 j0 j0 c j0 (fa zS j0 j0 j0<|j4)),(fun _=>pag (b:=(a.Ret == [86])) j0 j0 j0 j0 c j0 (nc j0 j0<|j4)),(fun _=>pag (b:=(a.Ret == [86])) j0 j0 j0 j0 c j0 (mv j0<|j4)),(fun _=>pag (b:=(a.Ret == [86])) j0 j0 j0 j0 c j0 (ld ti9 j0 j0<|j4)),(fun _=>pag (b:=(a.Ret == [86])) j0 j0 j0 j0 c j0 (fa zN j0 j0 j0<|j4)),(fun _=>pag (b:=(a.Ret == [86])) j0 j0 j0 j0 c j0 (fa zS j0 j0 j0<|j4)),(fun _=>pag (b:=(a.Ret == [86])) j0 j0 j0 j0 c j0 (nc j0 j0<|j4)),(fun _=>pag (b:=(a.Ret == [86])) j0 j0 j0 j0 c j0 (mv j0<|j4)),(fun _=>pag (b:=(a.Ret == [86])) j0 j0 j0 j0 c j0 (ld zez j0 j0<|j4)),(fun _=>pa j0 j0 j0 j0 (mv j0<|j4)),(fun _=>pa j0 j0 j0 j0 (seq ti9 j0 j0<|j4)),(fun _=>pa j0 j0 j0 j0 (ld ti9 j0 j0<|j4)),(fun _=>pa j0 j0 j0 j0 (fa zN j0 j0 j0<|j4)),(fun _=>pa j0 j0 j0 j0 (fa zS j0 j0 j0<|j4)),(fun _=>pa j0 j0 j0 j0 (nc j0 j0<|j4)),(fun _=>pa j0 j0 j0 j0 (mv j0<|j4)),(fun h=>by cases h),j5⟩ (by kernel_rfl) j0 ⟨(G||(!H)),h,[.old 0,.old 1,.old 2,.old 3],ce j0 j0<|cv j0 (.mpt j0)<|cv j0 (.mpt j0)<|cn,j0,⟨⟨_,j0,zg ⟨ci j0,j5⟩⟩,⟨_,j0,zg (zQ j0 (by exact ⟨.msl j0,.msl j0,ci j0,j5⟩))⟩,⟨_,j0,zd (fun _=>j0)⟩,⟨_,j0,zd (fun _=>j0)⟩,j5⟩,j0,j1⟩⟩⟩),j5⟩)
    ·
     rintro q h
     replace h:zdG e d a q=some r:=h
     unfold zdG at h
     obtain ⟨s,q23,h⟩:=bs h
     refine rg j0<|u<|mv j0<|u<|mv j0<|u<|nc j0 j0<|u<|fa zS j0 j0 j0<|u<|fa zN j0 j0 j0<|u<|ld zM j0 j0<|u<|mf j0 j0<|u<|pcs (zlE a.Params d.l d.at_ q23) j0 j0 (.cons (si j0) (.cons (zdp j5 ⟨(zbe j0 ⟨(si j0),j5⟩),j5⟩) .nil)) zcq<|u<|sc [1,2,3] (zo d.l d.at_ e a [] [] q s j0) j0 j0 j0 j0 ⟨(.mpt j0),(rnI j0),j5⟩ ⟨⟨_,j0,(zcH j0 ⟨(.msl j0),(.msl j0),(rnI j0),j5⟩)⟩,⟨j0,mkI (fun _=>j0)⟩,⟨j0,mkI (fun _=>j0)⟩,j5⟩<|zB (env0:=[(1,sA e),(9,.mpt 0 0 0)]) (st0:=[some (15,[(vK d.l d.at_ e a (.msl 1 0 0) (.msl 2 0 0) (bA (q||(!s))))]),some (1,List.map zi []),some (1,List.map zi [])]) ⟨[.old 1,.old 2,.old 3],ce j0 j0<|cv j0 (.mpt j0)<|cn,j0,⟨⟨_,j0,zg (zQ j0 (by exact ⟨.msl j0,.msl j0,ci j0,j5⟩))⟩,⟨_,j0,zd (fun _=>j0)⟩,⟨_,j0,zd (fun _=>j0)⟩,j5⟩,j0,j1⟩<|za ?_
     refine zcD (X:=(List (List UInt8))) (fun z=>[(9,.mpt 0 0 0)]) (fun z=>[some (15,[(vK d.l d.at_ e a (.msl 1 0 (List.length z)) (.msl 2 0 0) (bA (q||(!s))))]),some (1,List.map zi z),some (1,List.map zi [])]) (fun z=>zdH e d a q s z=some r) ?_ ?_
     ·
      refine rg j0<|u<|mv j0<|u<|nc j0 j0<|u<|fa zS j0 j0 j0<|u<|fa zN j0 j0 j0<|u<|ld ti4 j0 j0<|u<|nt j0<|za ?_
      refine zh j0 (fun J=>?_) (fun J=>?_)
      ·
       replace h:=bT J h
       obtain ⟨v25,q25,h⟩:=bs h
       exact rl j0<|u<|mv j0<|u<|mv j0<|u<|nc j0 j0<|u<|fa zS j0 j0 j0<|u<|ld zM j0 j0<|u<|mv j0<|u<|bl 3 zM j0 ti9 j0 (by decide) (by decide) j0 j0 j0<|u<|apM 4 zM j0 ti9 j0 j0 (by decide) zM j0 j0 j0 j0 (roX (f:=zi) (z:=[e]) j0 j0) (fun _=>j0) j0 q25<|u<|nc j0 j0<|u<|fa zS j0 j0 j0<|u<|sto zM j0 j0 j0<|za (⟨v25,h,[.old 0,.old 4,.old 2],cv j0 (.mpt j0)<|cn,j0,⟨⟨_,j0,zg (zQ j0 (by exact ⟨.msl j0,.msl j0,ci j0,j5⟩))⟩,⟨_,j0,zd (fun _=>j0)⟩,⟨_,j0,zd (fun _=>j0)⟩,j5⟩,j0,j1⟩)
      ·
       replace h:=bF J h
       refine zk ?_
       exact ⟨[],h,[.old 0,.old 1,.old 2],cv j0 (.mpt j0)<|cn,j0,⟨⟨_,j0,zg (zQ j0 (by exact ⟨.msl j0,.msl j0,ci j0,j5⟩))⟩,⟨_,j0,zd (fun _=>j0)⟩,⟨_,j0,zd (fun _=>j0)⟩,j5⟩,j0,j1⟩
     ·
      rintro v26 h
      replace h:zdH e d a q s v26=some r:=h
      unfold zdH at h
      obtain ⟨O,q26,h⟩:=bs h
      refine rd [(9,.mpt 0 0 0)] [some (15,[(vK d.l d.at_ e a (.msl 1 0 (List.length O)) (.msl 2 0 0) (bA (q||(!s))))]),some (1,List.map zi O),some (1,List.map zi [])] [10,13] [9,8,7,6,5,4,3,2,1,0] [(132,.isl 1 (List.map zi a.Params)),(131,.mpt 0 0 3),(130,.mpt 0 0 2),(129,.mpt 0 0 0),(128,.mpt 0 0 0),(127,.msl 1 0 (List.length v26)),(126,.mpt 0 0 12),(125,.mpt 0 0 0),(124,.mpt 0 0 0),(123,.mpt 0 0 0)] 2 (by kernel_rfl) (by kernel_rfl) j0 (by kernel_rfl) (dtS ⟨(fun _=>pa j0 j0 j0 j0 (ld zM j0 j0<|j4)),(fun _=>pa j0 j0 j0 j0 (fa zN j0 j0 j0<|j4)),(fun _=>pa j0 j0 j0 j0 (fa zS j0 j0 j0<|j4)),(fun _=>pa j0 j0 j0 j0 (nc j0 j0<|j4)),(fun _=>pa j0 j0 j0 j0 (mv j0<|j4)),(fun _=>pa j0 j0 j0 j0 (ld zM j0 j0<|j4)),(fun _=>pa j0 j0 j0 j0 (fa zS j0 j0 j0<|j4)),(fun _=>pa j0 j0 j0 j0 (nc j0 j0<|j4)),(fun _=>pa j0 j0 j0 j0 (mv j0<|j4)),(fun _=>pa j0 j0 j0 j0 (mv j0<|j4)),j5⟩ (by kernel_rfl) j0 ⟨(fun _ _=>⟨_,j0,j0,apM 3 zM j0 ti9 j0 j0 (by decide) zM j0 j0 j0 j0 roI (fun _=>j0) j0 q26<|⟨(.msl 3 0 (List.length O)),[12,11],[(135,.mpt 0 0 12),(134,.mpt 0 0 0),(133,.msl 3 0 (List.length O))],j0,j0,by kernel_rfl,j0,dtS ⟨(fun _=>pa j0 j0 j0 j0 (fa zS j0 j0 j0<|j4)),(fun _=>pa j0 j0 j0 j0 (nc j0 j0<|j4)),(fun h=>by cases h),(fun _=>pa j0 j0 j0 j0 (fa zN j0 j0 j0<|j4)),(fun _=>pa j0 j0 j0 j0 (fa zS j0 j0 j0<|j4)),(fun _=>pa j0 j0 j0 j0 (nc j0 j0<|j4)),(fun _=>pa j0 j0 j0 j0 (mv j0<|j4)),(fun h=>by cases h),(fun _=>pa j0 j0 j0 j0 (fa zS j0 j0 j0<|j4)),(fun _=>pa j0 j0 j0 j0 (nc j0 j0<|j4)),(fun _=>pa j0 j0 j0 j0 (mv j0<|j4)),(fun _=>pa j0 j0 j0 j0 (mv j0<|j4)),j5⟩ (by kernel_rfl) j0 ⟨(fun h=>by cases h),(fun _ _=>⟨_,j0,j0,sto zM j0 j0 j0<|⟨.any,[],[],j0,j0,by kernel_rfl,j5,dt0 ⟨(fun h=>by cases h),(fun _=>pa j0 j0 j0 j0 (nc j0 j0<|j4)),(fun h=>by cases h),(fun h=>by cases h),(fun h=>by cases h),(fun h=>by cases h),(fun h=>by cases h),(fun h=>by cases h),(fun h=>by cases h),(fun h=>by cases h),(fun h=>by cases h),(fun h=>by cases h),j5⟩ (by kernel_rfl) j0 ⟨[.old 0,.old 3,.old 2],cv j0 (.mpt j0)<|cn,j0,⟨⟨_,j0,zg (zQ j0 (by exact ⟨.msl j0,.msl j0,ci j0,j5⟩))⟩,⟨_,j0,zd (fun _=>j0)⟩,⟨_,j0,zd (fun _=>j0)⟩,j5⟩,j0,j1⟩⟩⟩),j5⟩⟩⟩),(fun _ h=>by cases h),j5⟩) ?_
      obtain ⟨o,ho,h⟩:=bs h
      refine zue (X:=(List (List UInt8))) (B:=(List (List UInt8))) (R:=Bool) (fun z=>[(9,.mpt 0 0 0)]) (fun z=>[some (15,[(vK d.l d.at_ e a (.msl 1 0 (List.length z)) (.msl 2 0 0) (bA (q||(!s))))]),some (1,List.map zi z),some (1,List.map zi [])]) (fun b=>[(9,.mpt 0 0 0)]) (fun b=>[some (15,[(vK d.l d.at_ e a (.msl 1 0 (List.length b)) (.msl 2 0 0) (bA (q||(!s))))]),some (1,List.map zi b),some (1,List.map zi [])]) (fun r env st=>zaC Tryz.prog Tryz.f118 0 (bA r) [] env st) ho ⟨[.old 0,.old 1,.old 2],cv j0 (.mpt j0)<|cn,j0,⟨⟨_,j0,zg (zQ j0 (by exact ⟨.msl j0,.msl j0,ci j0,j5⟩))⟩,⟨_,j0,zd (fun _=>j0)⟩,⟨_,j0,zd (fun _=>j0)⟩,j5⟩,j0,j1⟩ ?_ ?_ ?_
      ·
       rintro D r h
       replace h:zgz a D=some r:=h
       unfold zgz at h
       refine zl ?_
       refine rd [(9,.mpt 0 0 0),(146,bA (decide (((List.length D):Int) < a.Locals)))] [some (15,[(vK d.l d.at_ e a (.msl 1 0 (List.length D)) (.msl 2 0 0) (bA (q||(!s))))]),some (1,List.map zi D),some (1,List.map zi [])] [] [10,9,8,7,6,5,4,3,2,1,0] [(146,bA (decide (((List.length D):Int) < a.Locals))),(145,iA a.Locals),(144,.mpt 0 0 7),(143,.mpt 0 0 2),(142,.mpt 0 0 0),(141,.mpt 0 0 0),(140,iA ((List.length D):Int)),(139,.msl 1 0 (List.length D)),(138,.mpt 0 0 12),(137,.mpt 0 0 0),(136,.mpt 0 0 0)] 0 (by kernel_rfl) (by kernel_rfl) j0 (by kernel_rfl) (dt0 ⟨(fun _=>pa j0 j0 j0 j0 (lss ti3 j0 j0<|j4)),(fun _=>pa j0 j0 j0 j0 (ld ti3 j0 j0<|j4)),(fun _=>pa j0 j0 j0 j0 (fa zN j0 j0 j0<|j4)),(fun _=>pa j0 j0 j0 j0 (fa zS j0 j0 j0<|j4)),(fun _=>pa j0 j0 j0 j0 (nc j0 j0<|j4)),(fun _=>pa j0 j0 j0 j0 (mv j0<|j4)),(fun _=>pa j0 j0 j0 j0 (lnM zM j0 j0 j0<|j4)),(fun _=>pa j0 j0 j0 j0 (ld zM j0 j0<|j4)),(fun _=>pa j0 j0 j0 j0 (fa zS j0 j0 j0<|j4)),(fun _=>pa j0 j0 j0 j0 (nc j0 j0<|j4)),(fun _=>pa j0 j0 j0 j0 (mv j0<|j4)),j5⟩ (by kernel_rfl) j0 ⟨[.old 0,.old 1,.old 2],cv j0 (.mpt j0)<|ce j0 j0<|cn,j0,⟨⟨_,j0,zg (zQ j0 (by exact ⟨.msl j0,.msl j0,ci j0,j5⟩))⟩,⟨_,j0,zd (fun _=>j0)⟩,⟨_,j0,zd (fun _=>j0)⟩,j5⟩,j0,j1⟩) ?_
       refine zh j0 (fun K=>?_) (fun K=>?_)
       ·
        replace h:=bT K h
        refine zk ?_
        refine zq ?_
        obtain ⟨v31,q30,h⟩:=bs h
        refine rl j0<|u<|mv j0<|u<|mv j0<|u<|nc j0 j0<|u<|fa zS j0 j0 j0<|u<|ld zM j0 j0<|u<|bl 3 zM j0 ti9 j0 (by decide) (by decide) j0 j0 j0<|u<|apM 4 zM j0 ti9 j0 j0 (by decide) zM j0 j0 j0 j0 (roX (f:=zi) (z:=[[84]]) j0 j0) (fun _=>j0) j0 q30<|u<|nc j0 j0<|u<|fa zS j0 j0 j0<|u<|sto zM j0 j0 j0<|za ?_
        obtain rfl:=sm h
        exact ⟨_,j0,[.old 0,.old 4,.old 2],cv j0 (.mpt j0)<|cn,j0,⟨⟨_,j0,zg (zQ j0 (by exact ⟨.msl j0,.msl j0,ci j0,j5⟩))⟩,⟨_,j0,zd (fun _=>j0)⟩,⟨_,j0,zd (fun _=>j0)⟩,j5⟩,j0,j1⟩
       ·
        replace h:=bF K h
        refine zz ?_
        obtain rfl:=sm h
        exact ⟨j0,_,j0,[.old 0,.old 1,.old 2],cv j0 (.mpt j0)<|cn,j0,⟨⟨_,j0,zg (zQ j0 (by exact ⟨.msl j0,.msl j0,ci j0,j5⟩))⟩,⟨_,j0,zd (fun _=>j0)⟩,⟨_,j0,zd (fun _=>j0)⟩,j5⟩,j0,j1⟩
      ·
       rintro v32 rfl
       replace h:zgx e d a q s v32=some r:=h
       unfold zgx at h
       refine rg j0<|u<|asg j0<|za ?_
       refine zl ?_
       refine rg j0<|u<|mv j0<|u<|nc j0 j0<|u<|fa zS j0 j0 j0<|u<|fa zN j0 j0 j0<|u<|ld zj7 j0 j0<|u<|lnI zj7 j0 j0<|u<|mv j0<|za ?_
       obtain ⟨o,ho,h⟩:=bs h
       refine zT (X:=(List (List UInt8))×(List (List UInt8))×Bool×Bool×Int) (B:=(List (List UInt8))×(List (List UInt8))×Bool) (R:=Bool) (fun z=>[(9,.mpt 0 0 0),(13,bA z.2.2.2.1),(160,.isl 4 (List.map zw a.Code)),(161,iA (List.length a.Code:Int)),(162,iA z.2.2.2.2)]) (fun z=>[some (15,[(vK d.l d.at_ e a (.msl 1 0 (List.length z.1)) (.msl 2 0 (List.length z.2.1)) (bA z.2.2.1))]),some (1,List.map zi z.1),some (1,List.map zi z.2.1)]) (fun b=>[(9,.mpt 0 0 0)]) (fun b=>[some (15,[(vK d.l d.at_ e a (.msl 1 0 (List.length b.1)) (.msl 2 0 (List.length b.2.1)) (bA b.2.2))]),some (1,List.map zi b.1),some (1,List.map zi b.2.1)]) (fun r env st=>zaC Tryz.prog Tryz.f118 0 (bA r) [] env st) ho ⟨[.old 0,.old 1,.old 2],cv j0 (.mpt j0)<|ce j0 j0<|ce j0 j0<|ce j0 j0<|ce j0 j0<|cn,j0,⟨⟨_,j0,zg (zQ j0 (by exact ⟨.msl j0,.msl j0,ci j0,j5⟩))⟩,⟨_,j0,zd (fun _=>j0)⟩,⟨_,j0,zd (fun _=>j0)⟩,j5⟩,j0,j1⟩ ?_ ?_ ?_
       ·
        rintro ⟨v44,v45,v46,v47,p⟩ r h
        replace h:zgA e d a v44 v45 v46 v47 p=some r:=h
        unfold zgA at h
        refine rg j0<|u<|lss ti3 j0 j0<|za ?_
        refine zl ?_
        refine zh j0 (fun L=>?_) (fun L=>?_)
        ·
         replace h:=bT L h
         refine zk ?_
         refine zl ?_
         refine zq ?_
         obtain ⟨n,q40,h⟩:=bs h
         refine rg j0<|u<|mv j0<|u<|ixI zj7 j0 zcI j0 j0 j0 q40<|u<|ldI zcI j0 (zp q40).2.2 j0<|u<|al 3 zcI j0<|u<|asg j0<|u<|sto zcI j0 j0 j0<|za ?_
         obtain ⟨m,q41,h⟩:=bs h
         refine rg j0<|u<|mv j0<|u<|mv j0<|u<|mv j0<|u<|sc [0,1,2] (zih d.l d.at_ e a v44 v45 v46 p v47 q41) j0 j0 j0 j0 ⟨(.mpt j0),(rnI j0),(rnI j0),j5⟩ ⟨⟨_,j0,(zcH j0 ⟨(.msl j0),(.msl j0),(rnI j0),j5⟩)⟩,⟨j0,mkI (fun _=>j0)⟩,⟨j0,mkI (fun _=>j0)⟩,j5⟩<|zB (env0:=[(9,.mpt 0 0 0),(14,iA p),(15,.mpt 3 0 0),(160,.isl 4 (List.map zw a.Code)),(161,iA (List.length a.Code:Int)),(162,iA p)]) (st0:=[some (15,[(vK d.l d.at_ e a (.msl 1 0 (List.length m.1)) (.msl 2 0 (List.length m.2.1)) (bA m.2.2))]),some (1,List.map zi m.1),some (1,List.map zi m.2.1),some (4,[(zw n)])]) ⟨[.old 0,.old 4,.old 5,.old 3],cv j0 (.mpt j0)<|ce j0 j0<|cv j0 (.mpt j0)<|ce j0 j0<|ce j0 j0<|ce j0 j0<|cn,j0,⟨⟨_,j0,zg (zQ j0 (by exact ⟨.msl j0,.msl j0,ci j0,j5⟩))⟩,⟨_,j0,zd (fun _=>j0)⟩,⟨_,j0,zd (fun _=>j0)⟩,⟨_,j0,zg (ciL j0)⟩,j5⟩,j0,j1⟩<|za ?_
         refine zl ?_
         refine rg j0<|u<|mv j0<|u<|nc j0 j0<|u<|fa zS j0 j0 j0<|u<|ld ti4 j0 j0<|za ?_
         refine zh j0 (fun M=>?_) (fun M=>?_)
         ·
          replace h:=bT M h
          refine rg j0<|u<|asg j0<|za ?_
          refine zj ?_
          obtain rfl:=sm h
          exact ⟨_,j0,_,j0,[],ci j0,j0,j5,j0,j1⟩
         ·
          replace h:=bF M h
          refine zk ?_
          obtain ⟨v51,q43,h⟩:=bs h
          refine rg j0<|u<|mv j0<|u<|mv j0<|u<|sc [0,1,2] (zij d.l d.at_ e a m.1 m.2.1 m.2.2 p q43) j0 j0 j0 j0 ⟨(.mpt j0),(rnI j0),j5⟩ ⟨⟨_,j0,(zcH j0 ⟨(.msl j0),(.msl j0),(rnI j0),j5⟩)⟩,⟨j0,mkI (fun _=>j0)⟩,⟨j0,mkI (fun _=>j0)⟩,j5⟩<|zB (env0:=[(9,.mpt 0 0 0),(15,.mpt 3 0 0),(160,.isl 4 (List.map zw a.Code)),(161,iA (List.length a.Code:Int)),(162,iA p)]) (st0:=[some (15,[(vK d.l d.at_ e a (.msl 1 0 (List.length m.1)) (.msl 2 0 (List.length m.2.1)) (bA v51))]),some (1,List.map zi m.1),some (1,List.map zi m.2.1),some (4,[(zw n)])]) ⟨[.old 0,.old 1,.old 2,.old 3],cv j0 (.mpt j0)<|cv j0 (.mpt j0)<|ce j0 j0<|ce j0 j0<|ce j0 j0<|cn,j0,⟨⟨_,j0,zg (zQ j0 (by exact ⟨.msl j0,.msl j0,ci j0,j5⟩))⟩,⟨_,j0,zd (fun _=>j0)⟩,⟨_,j0,zd (fun _=>j0)⟩,⟨_,j0,zg (ciL j0)⟩,j5⟩,j0,j1⟩<|za ?_
          obtain ⟨i,q44,h⟩:=bs h
          refine rg j0<|u<|mv j0<|u<|ld zcI j0 j0<|u<|sc [0,1,2] (zjb d.l d.at_ e a m.1 m.2.1 v51 n q44) j0 j0 j0 j0 ⟨(.mpt j0),(rnI j0),j5⟩ ⟨⟨_,j0,(zcH j0 ⟨(.msl j0),(.msl j0),(rnI j0),j5⟩)⟩,⟨j0,mkI (fun _=>j0)⟩,⟨j0,mkI (fun _=>j0)⟩,j5⟩<|zB (env0:=[(9,.mpt 0 0 0),(15,.mpt 3 0 0),(160,.isl 4 (List.map zw a.Code)),(161,iA (List.length a.Code:Int)),(162,iA p)]) (st0:=[some (15,[(vK d.l d.at_ e a (.msl 1 0 (List.length i.1)) (.msl 2 0 (List.length i.2.1)) (bA i.2.2))]),some (1,List.map zi i.1),some (1,List.map zi i.2.1),some (4,[(zw n)])]) ⟨[.old 0,.old 4,.old 5,.old 3],cv j0 (.mpt j0)<|cv j0 (.mpt j0)<|ce j0 j0<|ce j0 j0<|ce j0 j0<|cn,j0,⟨⟨_,j0,zg (zQ j0 (by exact ⟨.msl j0,.msl j0,ci j0,j5⟩))⟩,⟨_,j0,zd (fun _=>j0)⟩,⟨_,j0,zd (fun _=>j0)⟩,⟨_,j0,zg (ciL j0)⟩,j5⟩,j0,j1⟩<|za ?_
          refine zcD (X:=Bool) (fun z=>[(9,.mpt 0 0 0),(15,.mpt 3 0 0),(160,.isl 4 (List.map zw a.Code)),(161,iA (List.length a.Code:Int)),(162,iA p)]) (fun z=>[some (15,[(vK d.l d.at_ e a (.msl 1 0 (List.length i.1)) (.msl 2 0 (List.length i.2.1)) (bA z))]),some (1,List.map zi i.1),some (1,List.map zi i.2.1),some (4,[(zw n)])]) (fun z=>zdI a p n i z=some r) ?_ ?_
          ·
           refine rg j0<|u<|fa zcI j0 j0 j0<|u<|ld ti3 j0 j0<|u<|pc (zj3 n.Op j0) j0 j0 j0<|za ?_
           refine zh j0 (fun N=>?_) (fun N=>?_)
           ·
            replace h:=bT N h
            obtain ⟨v53,q46,h⟩:=bs h
            refine rdL [(9,.mpt 0 0 0),(15,.mpt 3 0 0),(160,.isl 4 (List.map zw a.Code)),(161,iA (List.length a.Code:Int)),(162,iA p)] [some (15,[(vK d.l d.at_ e a (.msl 1 0 (List.length i.1)) (.msl 2 0 (List.length i.2.1)) (bA v53))]),some (1,List.map zi i.1),some (1,List.map zi i.2.1),some (4,[(zw n)])] [7] [6,5,4,3,2,1,0] [(190,.msl 2 0 (List.length i.2.1)),(189,.mpt 0 0 13),(188,.mpt 0 0 0),(187,.mpt 0 0 0),(186,iA n.A),(185,.mpt 3 0 1),(184,.mpt 0 0 0)] 1 (by kernel_rfl) (by kernel_rfl) j0 (by kernel_rfl) (dtS ⟨(fun _=>pa j0 j0 j0 j0 (ld zM j0 j0<|j4)),(fun _=>pa j0 j0 j0 j0 (fa zS j0 j0 j0<|j4)),(fun _=>pa j0 j0 j0 j0 (nc j0 j0<|j4)),(fun _=>pa j0 j0 j0 j0 (mv j0<|j4)),(fun _=>pa j0 j0 j0 j0 (ld ti3 j0 j0<|j4)),(fun _=>pa j0 j0 j0 j0 (fa zcI j0 j0 j0<|j4)),(fun _=>pa j0 j0 j0 j0 (mv j0<|j4)),j5⟩ (by kernel_rfl) j0 ⟨(fun _ _=>⟨_,j0,j0,sc [0,1,2] (zfR d.l d.at_ e a i.1 i.2.1 i.2.2 n.A q46) j0 j0 j0 j0 ⟨(.mpt j0),(rnI j0),(.msl j0),j5⟩ ⟨⟨_,j0,(zcH j0 ⟨(.msl j0),(.msl j0),(rnI j0),j5⟩)⟩,⟨j0,mkI (fun _=>j0)⟩,⟨j0,mkI (fun _=>j0)⟩,j5⟩<|⟨(.tup []),[],[(191,.tup [])],j0,j0,by kernel_rfl,j0,dt0 ⟨(fun h=>by cases h),(fun _=>pa j0 j0 j0 j0 (fa zS j0 j0 j0<|j4)),(fun _=>pa j0 j0 j0 j0 (nc j0 j0<|j4)),(fun _=>pa j0 j0 j0 j0 (mv j0<|j4)),(fun h=>by cases h),(fun _=>pa j0 j0 j0 j0 (fa zcI j0 j0 j0<|j4)),(fun h=>by cases h),j5⟩ (by kernel_rfl) j0 ⟨[.old 0,.old 1,.old 2,.old 3],cv j0 (.mpt j0)<|cv j0 (.mpt j0)<|ce j0 j0<|ce j0 j0<|ce j0 j0<|cn,j0,⟨⟨_,j0,zg (zQ j0 (by exact ⟨.msl j0,.msl j0,ci j0,j5⟩))⟩,⟨_,j0,zd (fun _=>j0)⟩,⟨_,j0,zd (fun _=>j0)⟩,⟨_,j0,zg (ciL j0)⟩,j5⟩,j0,j1⟩⟩⟩),j5⟩) ?_
            exact ⟨v53,h,[.old 0,.old 1,.old 2,.old 3],cv j0 (.mpt j0)<|cv j0 (.mpt j0)<|ce j0 j0<|ce j0 j0<|ce j0 j0<|cn,j0,⟨⟨_,j0,zg (zQ j0 (by exact ⟨.msl j0,.msl j0,ci j0,j5⟩))⟩,⟨_,j0,zd (fun _=>j0)⟩,⟨_,j0,zd (fun _=>j0)⟩,⟨_,j0,zg (ciL j0)⟩,j5⟩,j0,j1⟩
           ·
            replace h:=bF N h
            refine zk ?_
            exact ⟨i.2.2,h,[.old 0,.old 1,.old 2,.old 3],cv j0 (.mpt j0)<|cv j0 (.mpt j0)<|ce j0 j0<|ce j0 j0<|ce j0 j0<|cn,j0,⟨⟨_,j0,zg (zQ j0 (by exact ⟨.msl j0,.msl j0,ci j0,j5⟩))⟩,⟨_,j0,zd (fun _=>j0)⟩,⟨_,j0,zd (fun _=>j0)⟩,⟨_,j0,zg (ciL j0)⟩,j5⟩,j0,j1⟩
          ·
           rintro V h
           replace h:zdI a p n i V=some r:=h
           unfold zdI at h
           refine rd [(9,.mpt 0 0 0),(15,.mpt 3 0 0),(160,.isl 4 (List.map zw a.Code)),(161,iA (List.length a.Code:Int)),(162,iA p)] [some (15,[(vK d.l d.at_ e a (.msl 1 0 (List.length i.1)) (.msl 2 0 (List.length i.2.1)) (bA (V||(!(decide (((List.length i.2.1):Int)≤a.Stack))))))]),some (1,List.map zi i.1),some (1,List.map zi i.2.1),some (4,[(zw n)])] [12] [11,10,9,8,7,6,5,4,3,2,1,0] [(203,bA (decide (((List.length i.2.1):Int)≤a.Stack))),(202,iA a.Stack),(201,.mpt 0 0 8),(200,.mpt 0 0 2),(199,.mpt 0 0 0),(198,.mpt 0 0 0),(197,iA ((List.length i.2.1):Int)),(196,.msl 2 0 (List.length i.2.1)),(195,.mpt 0 0 13),(194,.mpt 0 0 0),(193,.mpt 0 0 0),(192,.mpt 0 0 0)] 1 (by kernel_rfl) (by kernel_rfl) j0 (by kernel_rfl) (dtS ⟨(fun _=>pa j0 j0 j0 j0 (leq ti3 j0 j0<|j4)),(fun _=>pa j0 j0 j0 j0 (ld ti3 j0 j0<|j4)),(fun _=>pa j0 j0 j0 j0 (fa zN j0 j0 j0<|j4)),(fun _=>pa j0 j0 j0 j0 (fa zS j0 j0 j0<|j4)),(fun _=>pa j0 j0 j0 j0 (nc j0 j0<|j4)),(fun _=>pa j0 j0 j0 j0 (mv j0<|j4)),(fun _=>pa j0 j0 j0 j0 (lnM zM j0 j0 j0<|j4)),(fun _=>pa j0 j0 j0 j0 (ld zM j0 j0<|j4)),(fun _=>pa j0 j0 j0 j0 (fa zS j0 j0 j0<|j4)),(fun _=>pa j0 j0 j0 j0 (nc j0 j0<|j4)),(fun _=>pa j0 j0 j0 j0 (mv j0<|j4)),(fun _=>pa j0 j0 j0 j0 (mv j0<|j4)),j5⟩ (by kernel_rfl) j0 ⟨(fun _ _=>⟨_,j0,j0,sc [0,1,2] (zo d.l d.at_ e a i.1 i.2.1 V (decide (((List.length i.2.1):Int)≤a.Stack)) j0) j0 j0 j0 j0 ⟨(.mpt j0),(rnI j0),j5⟩ ⟨⟨_,j0,(zcH j0 ⟨(.msl j0),(.msl j0),(rnI j0),j5⟩)⟩,⟨j0,mkI (fun _=>j0)⟩,⟨j0,mkI (fun _=>j0)⟩,j5⟩<|⟨(.tup []),[],[(204,.tup [])],j0,j0,by kernel_rfl,j0,dt0 ⟨(fun h=>by cases h),(fun _=>pa j0 j0 j0 j0 (ld ti3 j0 j0<|j4)),(fun _=>pa j0 j0 j0 j0 (fa zN j0 j0 j0<|j4)),(fun _=>pa j0 j0 j0 j0 (fa zS j0 j0 j0<|j4)),(fun _=>pa j0 j0 j0 j0 (nc j0 j0<|j4)),(fun _=>pa j0 j0 j0 j0 (mv j0<|j4)),(fun _=>pa j0 j0 j0 j0 (lnM zM j0 j0 j0<|j4)),(fun _=>pa j0 j0 j0 j0 (ld zM j0 j0<|j4)),(fun _=>pa j0 j0 j0 j0 (fa zS j0 j0 j0<|j4)),(fun _=>pa j0 j0 j0 j0 (nc j0 j0<|j4)),(fun _=>pa j0 j0 j0 j0 (mv j0<|j4)),(fun h=>by cases h),j5⟩ (by kernel_rfl) j0 ⟨[.old 0,.old 1,.old 2,.old 3],cv j0 (.mpt j0)<|cv j0 (.mpt j0)<|ce j0 j0<|ce j0 j0<|ce j0 j0<|cn,j0,⟨⟨_,j0,zg (zQ j0 (by exact ⟨.msl j0,.msl j0,ci j0,j5⟩))⟩,⟨_,j0,zd (fun _=>j0)⟩,⟨_,j0,zd (fun _=>j0)⟩,⟨_,j0,zg (ciL j0)⟩,j5⟩,j0,j1⟩⟩⟩),j5⟩) ?_
           refine rl j0<|u<|fa zcI j0 j0 j0<|u<|ld ti3 j0 j0<|u<|pc (zmX n.Op j0) j0 j0 j0<|u<|nt j0<|u<|asg j0<|za ?_
           refine rl j0<|u<|add ti3 j0 j0<|u<|mv j0<|za ?_
           obtain rfl:=sm h
           exact ⟨_,j0,[.old 0,.old 1,.old 2],cv j0 (.mpt j0)<|ce j0 j0<|ce j0 j0<|ce j0 j0<|ce j0 j0<|cn,j0,⟨⟨_,j0,zg (zQ j0 (by exact ⟨.msl j0,.msl j0,ci j0,j5⟩))⟩,⟨_,j0,zd (fun _=>j0)⟩,⟨_,j0,zd (fun _=>j0)⟩,j5⟩,j0,j1⟩
        ·
         replace h:=bF L h
         refine zz ?_
         obtain rfl:=sm h
         exact ⟨j0,_,j0,[.old 0,.old 1,.old 2],cv j0 (.mpt j0)<|cn,j0,⟨⟨_,j0,zg (zQ j0 (by exact ⟨.msl j0,.msl j0,ci j0,j5⟩))⟩,⟨_,j0,zd (fun _=>j0)⟩,⟨_,j0,zd (fun _=>j0)⟩,j5⟩,j0,j1⟩
       ·
        rintro ⟨v55,v56,v57⟩ rfl
        replace h:zf3 v55 v56 v57=some r:=h
        unfold zf3 at h
        refine zv ?_
        refine rg j0<|u<|mv j0<|u<|nc j0 j0<|u<|fa zS j0 j0 j0<|u<|ld ti4 j0 j0<|u<|nt j0<|u<|asg j0<|za ?_
        refine zj ?_
        obtain rfl:=sm h
        exact ⟨_,j0,[],ci j0,j0,j5,j0,j1⟩
       ·
        rintro r' rfl env st hp
        obtain rfl:=sm h
        exact hp
      ·
       rintro r' rfl env st hp
       obtain rfl:=sm h
       exact hp
   ·
    rintro r' rfl env st hp
    obtain rfl:=sm h
    exact hp
def zgM (a:(Option zK)×Int):Option ((Option zK)×Int) :=
  some (a.1,0)
def zgL (a:Int):Option (Sum (Int) (Sum (Unit) ((Option zK)×Int))) :=
  some (.inl (IntKind.i64.wrap (a+1)))
def zgN (f:(Option zK)×Int) (b:zc) (a:Int):Option (Sum (Int) (Sum (Unit) ((Option zK)×Int))) :=
  cond (decide (a < (List.length b.Methods:Int))) ((idx b.Methods a).bind fun c=>(cond (!c.Abstract) ((zif f.1 b.Name a).bind fun d=>some (!d)) (some false)).bind fun e=>cond e (some (.inr (.inr (none,5)))) (some (.inl (IntKind.i64.wrap (a+1))))) (some (.inr (.inl ())))
def zgO (c:List zc) (e:(Option zK)×Int) (a:Int):Option (Sum (Int) (Sum (Unit) ((Option zK)×Int))) :=
  cond (decide (a < (List.length c:Int))) ((idx c a).bind fun d=>(zab (fun z=>zgN e d z) 0).bind fun o=>zaJ o (fun b=>zgL a) (fun r=>some (.inr (.inr r)))) (some (.inr (.inl ())))
def ziG (d:List zc) (e:zj8):Option ((Option zK)×Int) :=
  (znn d).bind fun a=>cond (!(a.2 == (0:Int))) (some (none,a.2)) ((zh3 a.1).bind fun f=>cond (!(f == (0:Int))) (some (none,f)) ((zj2 a.1 e.C e.M).bind fun c=>cond ((((!c.2.2)||(!c.2.1.Static))||(decide (0 < (List.length c.2.1.Params:Int))))||(!(c.2.1.Ret == [86]))) (some (none,4)) ((zab (fun z=>zgO d a z) 0).bind fun o=>zaJ o (fun b=>zgM a) some)))
theorem zl3 (c:List zc) (F:zj8) {r:(Option zK)×Int} (h:ziG c F=some r):zu Tryz.prog 42 [.isl 6 (List.map zb c),.agg (zry F)] (.tup [zk8 2 zcG r.1,iA r.2]):=by
 refine zn Tryz.func42 j0 (by kernel_rfl) j0 (zs3 (zuH (znq (fun _=>j0)) (j0))) ?_
 unfold ziG at h
 refine rg j0<|u<|bx 0 2 j0 j0 j0 j0<|u<|asg j0<|u<|asg j0<|za ?_
 obtain ⟨d,L,h⟩:=bs h
 refine rg j0<|u<|mv j0<|u<|pc (zoZ c L) j0 j0 j0<|u<|mv j0<|u<|ex j0 j0<|u<|ex j0 j0<|u<|asg j0<|u<|asg j0<|za ?_
 refine zl ?_
 refine rg j0<|u<|mv j0<|u<|neq zv4 j0 j0<|za ?_
 refine zh j0 (fun v=>?_) (fun v=>?_)
 ·
  replace h:=bT v h
  refine rg j0<|u<|mv j0<|u<|asg j0<|u<|asg j0<|za ?_
  refine zj ?_
  obtain rfl:=sm h
  exact ⟨_,j0,[],z8 ⟨(ci j0),(ci j0),j5⟩,j0,j5,j0,j1⟩
 ·
  replace h:=bF v h
  refine zk ?_
  refine zl ?_
  obtain ⟨S,N,h⟩:=bs h
  refine rg j0<|u<|mv j0<|u<|pc (zlw d.1 N) j0 j0 (zuH (znq (fun _=>j0)) (j0))<|u<|asg j0<|za ?_
  refine rg j0<|u<|mv j0<|u<|neq zv4 j0 j0<|za ?_
  refine zh j0 (fun D=>?_) (fun D=>?_)
  ·
   replace h:=bT D h
   refine rg j0<|u<|mv j0<|u<|asg j0<|u<|asg j0<|za ?_
   refine zj ?_
   obtain rfl:=sm h
   exact ⟨_,j0,[],z8 ⟨(ci j0),(ci j0),j5⟩,j0,j5,j0,j1⟩
  ·
   replace h:=bF D h
   refine zk ?_
   refine zl ?_
   obtain ⟨T,O,h⟩:=bs h
   refine rg j0<|u<|mv j0<|u<|fa zv5 j0 j0 j0<|u<|ld ti9 j0 j0<|u<|fa zv5 j0 j0 j0<|u<|ld ti9 j0 j0<|u<|pc (zmH d.1 F.C F.M O) j0 j0 (zuH (znq (fun _=>j0)) (j0))<|u<|mv j0<|u<|ex j0 j0<|u<|ex j0 j0<|u<|ex j0 j0<|u<|al 1 zN j0<|u<|asg j0<|u<|sto zN j0 j0 j0<|u<|asg j0<|za ?_
   refine rg j0<|u<|mv j0<|u<|nt j0<|u<|mv j0<|zfo (j:=2) 3 j0 j0 j0 j0 j0 gpn (fun p=>g j0 p<|fa zN j0 j0 j0<|g j0 p<|ld ti4 j0 j0<|g j0 p<|nt j0<|za (egO [42,43,44] 3 p j0 j0 j0 j0)) orT<|u<|mv j0<|zfo (j:=7) 4 j0 j0 j0 j0 j0 gpn (fun f=>g j0 f<|fa zN j0 j0 j0<|g j0 f<|ld zM j0 j0<|g j0 f<|lnI zM j0 j0<|g j0 f<|gtr ti3 j0 j0<|za (egO [47,48,49,50] 4 f j0 j0 j0 j0)) orT<|u<|mv j0<|zfo (j:=13) 3 j0 j0 j0 j0 j0 gpn (fun q=>g j0 q<|fa zN j0 j0 j0<|g j0 q<|ld ti9 j0 j0<|g j0 q<|sne ti9 j0 j0<|za (egO [53,54,55] 3 q j0 j0 j0 j0)) orT<|za ?_
   refine zh j0 (fun E=>?_) (fun E=>?_)
   ·
    replace h:=bT E h
    refine rg j0<|u<|asg j0<|u<|asg j0<|za ?_
    refine zj ?_
    obtain rfl:=sm h
    exact ⟨_,j0,[],z8 ⟨(ci j0),(ci j0),j5⟩,j0,j5,j0,j1⟩
   ·
    replace h:=bF E h
    refine zk ?_
    refine zl ?_
    refine rg j0<|u<|mv j0<|u<|lnI zjl j0 j0<|u<|mv j0<|za ?_
    obtain ⟨o,ho,h⟩:=bs h
    refine zT (X:=Int) (B:=Unit) (R:=(Option zK)×Int) (fun z=>[(6,zk8 2 zcG d.1),(57,.isl 6 (List.map zb c)),(58,iA (List.length c:Int)),(59,iA z)]) (fun z=>[]) (fun b=>[(6,zk8 2 zcG d.1)]) (fun b=>[]) (fun r env st=>zaC Tryz.prog Tryz.f42 0 (.tup [zk8 2 zcG r.1,iA r.2]) [] env st) ho ⟨[],cv j0 (ci (znq (fun _=>j0)))<|ce j0 j0<|ce j0 j0<|ce j0 j0<|cn,j0,j5,j0,j1⟩ ?_ ?_ ?_
    ·
     rintro s r h
     replace h:zgO c d s=some r:=h
     unfold zgO at h
     refine rg j0<|u<|lss ti3 j0 j0<|za ?_
     refine zl ?_
     refine zh j0 (fun l=>?_) (fun l=>?_)
     ·
      replace h:=bT l h
      refine zk ?_
      refine zl ?_
      refine zq ?_
      obtain ⟨i,G,h⟩:=bs h
      refine rg j0<|u<|ixI zjl j0 zaf j0 j0 j0 G<|u<|ldI zaf j0 (zp G).2.2 j0<|u<|al 0 zaf j0<|u<|sto zaf j0 j0 j0<|za ?_
      refine rg j0<|u<|fa zaf j0 j0 j0<|u<|ld zc7 j0 j0<|u<|lnI zc7 j0 j0<|u<|mv j0<|za ?_
      obtain ⟨o,ho,h⟩:=bs h
      refine zT (X:=Int) (B:=Unit) (R:=(Option zK)×Int) (fun z=>[(6,zk8 2 zcG d.1),(13,.mpt 0 0 0),(57,.isl 6 (List.map zb c)),(58,iA (List.length c:Int)),(59,iA s),(64,.isl 10 (List.map zf i.Methods)),(65,iA (List.length i.Methods:Int)),(66,iA z)]) (fun z=>[some (6,[(zb i)])]) (fun b=>[(6,zk8 2 zcG d.1),(57,.isl 6 (List.map zb c)),(58,iA (List.length c:Int)),(59,iA s)]) (fun b=>[]) (fun r env st=>zaC Tryz.prog Tryz.f42 0 (.tup [zk8 2 zcG r.1,iA r.2]) [] env st) ho ⟨[.old 0],cv j0 (ci (znq (fun _=>j0)))<|cv j0 (.mpt j0)<|ce j0 j0<|ce j0 j0<|ce j0 j0<|ce j0 j0<|ce j0 j0<|ce j0 j0<|cn,j0,⟨⟨_,j0,zg (ciL j0)⟩,j5⟩,j0,j1⟩ ?_ ?_ ?_
      ·
       rintro H r h
       replace h:zgN d i H=some r:=h
       unfold zgN at h
       refine rg j0<|u<|lss ti3 j0 j0<|za ?_
       refine zl ?_
       refine zh j0 (fun m=>?_) (fun m=>?_)
       ·
        replace h:=bT m h
        refine zk ?_
        refine zl ?_
        refine zq ?_
        obtain ⟨P,I,h⟩:=bs h
        refine rg j0<|u<|mv j0<|u<|ixI zc7 j0 zN j0 j0 j0 I<|u<|ldI zN j0 (zp I).2.2 j0<|u<|al 1 zN j0<|u<|asg j0<|u<|sto zN j0 j0 j0<|za ?_
        obtain ⟨J,e,h⟩:=bs h
        refine rg j0<|u<|fa zN j0 j0 j0<|u<|ld ti4 j0 j0<|u<|nt j0<|u<|mv j0<|za7 (x:=J) (j:=3) 6 j0 j0 j0 j0 j0 gpn (fun a=>by replace e:=bT a e; obtain ⟨Q,K,e⟩:=bs e; obtain rfl:=sm e; exact g j0 a<|mv j0<|g j0 a<|fa zaf j0 j0 j0<|g j0 a<|ld ti9 j0 j0<|g j0 a<|mv j0<|g j0 a<|pc (zlD d.1 i.Name H K) j0 j0 (zuH (znq (fun _=>j0)) (j0))<|g j0 a<|nt j0<|za (eg [75,76,77,78,79,80] 6 j0 j0 j0 j0)) (fun hb=>(sm (bF hb e)).symm)<|za ?_
        refine zh j0 (fun n=>?_) (fun n=>?_)
        ·
         replace h:=bT n h
         refine rg j0<|u<|asg j0<|u<|asg j0<|za ?_
         refine zj ?_
         obtain rfl:=sm h
         exact ⟨_,j0,_,j0,[],z8 ⟨(ci j0),(ci j0),j5⟩,j0,j5,j0,j1⟩
        ·
         replace h:=bF n h
         refine zk ?_
         refine rl j0<|u<|add ti3 j0 j0<|u<|mv j0<|za ?_
         obtain rfl:=sm h
         exact ⟨_,j0,[.old 0],cv j0 (ci (znq (fun _=>j0)))<|cv j0 (.mpt j0)<|ce j0 j0<|ce j0 j0<|ce j0 j0<|ce j0 j0<|ce j0 j0<|ce j0 j0<|cn,j0,⟨⟨_,j0,zg (ciL j0)⟩,j5⟩,j0,j1⟩
       ·
        replace h:=bF m h
        refine zz ?_
        obtain rfl:=sm h
        exact ⟨j0,_,j0,[],cv j0 (ci (znq (fun _=>j0)))<|ce j0 j0<|ce j0 j0<|ce j0 j0<|cn,j0,j5,j0,j1⟩
      ·
       rintro ⟨⟩ rfl
       replace h:zgL s=some r:=h
       unfold zgL at h
       refine zv ?_
       refine rl j0<|u<|add ti3 j0 j0<|u<|mv j0<|za ?_
       obtain rfl:=sm h
       exact ⟨_,j0,[],cv j0 (ci (znq (fun _=>j0)))<|ce j0 j0<|ce j0 j0<|ce j0 j0<|cn,j0,j5,j0,j1⟩
      ·
       rintro r' rfl env st hp
       obtain rfl:=sm h
       exact ⟨_,j0,hp⟩
     ·
      replace h:=bF l h
      refine zz ?_
      obtain rfl:=sm h
      exact ⟨j0,_,j0,[],cv j0 (ci (znq (fun _=>j0)))<|cn,j0,j5,j0,j1⟩
    ·
     rintro ⟨⟩ rfl
     replace h:zgM d=some r:=h
     unfold zgM at h
     refine zv ?_
     refine rg j0<|u<|mv j0<|u<|asg j0<|u<|asg j0<|za ?_
     refine zj ?_
     obtain rfl:=sm h
     exact ⟨_,j0,[],z8 ⟨(ci (znq (fun _=>j0))),(ci j0),j5⟩,j0,j5,j0,j1⟩
    ·
     rintro r' rfl env st hp
     obtain rfl:=sm h
     exact hp
end
end Go.Proofs.YthmnlfenkhmmhaaGreat
