/- What the proofs of this seat's laws rest on: how the program's functions compute, each for every input. No further condition. Part 5 of 8. -/
import Derived.Test.YtjbdfkapnffjnaaGreatVf4
namespace Go.Proofs.YtjbdfkapnffjnaaGreat
noncomputable section
open List (length map)
set_option linter.unusedSimpArgs false
set_option linter.unusedVariables false
set_option maxRecDepth 100000
set_option maxHeartbeats 4000000
def zaB(e:List za)(f:T2)(g:T0)(h:zc)(i:T1)(b:zc)(c:T1)(a:Bool):Option (T1×Bool):=
  cond (!(b.Ret == [86])) ((zB e f g h i c a b.Ret).bind fun d=>some (d,a)) (some (c,a))
def za4(b:List za)(c:T2)(e:T0)(g:zc)(h:T1)(j:zp)(l:T0)(f:zc)(d:T1×Bool)(m:Bool):Option (T1×Bool):=
  cond m ((zH b c e g h d.1 d.2 [j.C]).bind fun i=>zaB b c e g h f i.1 i.2) (cond (j.Op == (44:Int)) ((zag b c e g h d.1 d.2).bind fun a=>(zeF b c a.1 j.C).bind fun n=>cond n ((zeF b c a.1 e).bind fun o=>cond o ((zbz b c e).bind fun p=>(zK p l).bind fun q=>zaB b c e g h f a.2.1 (a.2.2||(!q))) (zaB b c e g h f a.2.1 (a.2.2||(!false)))) (zaB b c e g h f a.2.1 (a.2.2||(!false)))) (zaB b c e g h f d.1 d.2))
def zbh(e:List za)(f:T2)(g:T0)(h:zc)(i:T1)(l:T1)(m:Bool)(b:zp)(c:T0)(a:zc)(j:Bool):Option (T1×Bool):=
  (zH e f g h i l (m||(!(j&&(a.Static == (b.Op == (42:Int)))))) a.Params).bind fun d=>cond (b.Op == (43:Int)) (za4 e f g h i b c a d (b.Op == (43:Int))) (za4 e f g h i b c a d (b.Op == (45:Int)))
def zcH(c:List za)(d:T2)(f:T0)(g:zc)(h:T1)(i:T1)(j:Bool)(a:zp):Option (T1×Bool):=
  (zgM c d a.C a.M).bind fun e=>cond (a.Op == (45:Int)) ((zit c d a.C a.M).bind fun b=>zbh c d f g h i j a b.1 b.2.1 b.2.2) (zbh c d f g h i j a e.1 e.2.1 (e.2.2&&(!e.2.1.Abstract)))
theorem zla(c:List za)(d:T2)(i:T0)(l:zc)(e:T1)(v:T1)(G:Bool)(f:zp){r:T1×Bool}(h:zcH c d i l e v G f=some r):SC Tryz.prog 145 [.mpt 0 0 0,.agg (zu f)] [.one 15 (vK c d i l (.msl 1 0 (length e)) (.msl 2 0 (length v)) (bA G)),.many 1 (map zf e),.many 1 (map zf v)] (.tup []) [.one 15 (vK c d i l (.msl 1 0 (length e)) (.msl 3 0 (length r.1)) (bA r.2)),.many 1 (map zf e),.no,.many 1 (map zf r.1)]:=by
 refine ⟨⟨t,zh0 (sz:=1) (fun _=>y),t,zh0 (sz:=1) (fun _=>y),t⟩,zV Tryz.func145 y kz y ?_⟩
 unfold zcH at h
 refine rg y<|u<|bx 3 4 y y y y<|zb ?_
 obtain ⟨q,W,h⟩:=bs h
 refine rdA [(0,.mpt 0 0 0),(3,.mpt 3 0 0),(4,sA q.1),(5,.mpt 4 0 0),(6,bA q.2.2)] [some (15,[(vK c d i l (.msl 1 0 (length e)) (.msl 2 0 (length v)) (bA G))]),some (1,map zf e),some (1,map zf v),some (4,[(zu f)]),some (10,[(zh q.2.1)])] [13,15] [12,11,10,9,8,7,6,5,4,3,2,1,0] [(20,bA q.2.2),(19,.agg (zh q.2.1)),(18,sA q.1),(8,.tup [sA q.1,.agg (zh q.2.1),bA q.2.2]),(17,.tup [sA q.1,.agg (zh q.2.1),bA q.2.2]),(16,sA f.M),(15,.mpt 3 0 3),(14,sA f.C),(13,.mpt 3 0 2),(12,.ipt 2 [[.isl 6 (map zd c),.imp (map (rKV (fun x=>iA x)) d)]] 0 0),(11,.mpt 0 0 0),(10,.mpt 0 0 0),(9,.mpt 0 0 0)] 2 (zeo ⟨pe,pe,pe,pe,(pb y (pc (zjZ c d f.C f.M W) y y y w)),pe,pe,pe,pe,pe,pe,pe,pe,t⟩ ⟨(fun _ _=>⟨_,y,y,al 4 ti y<|⟨(.mpt 4 0 0),[14],[(4,sA q.1),(5,.mpt 4 0 0)],y,y,kz,y,zeo ⟨pe,pe,pe,pe,pe,(pb y (pc (zjZ c d f.C f.M W) y y y w)),pe,pe,pe,pe,pe,pe,pe,pe,t⟩ ⟨nv,(fun _ _=>⟨_,y,y,sto ti y y y<|⟨.any,[16],[(6,bA q.2.2)],y,y,kz,t,zh3 (zo [.old 0,.old 1,.old 2,.old 3,.old 4])⟩⟩),t⟩⟩⟩),nw,t⟩) ?_
 refine rg y<|u<|mv y<|u<|mv y<|z7 (j:=1) 3 y y y y y gpn (fun N=>g y N<|fa ti y y y<|g y N<|ld ti y y<|g y N<|nt y<|zb (egA [23,24,25] 3 N y y y y)) ze3<|u<|asg y<|zb ?_
 refine zaX (X:=T0×zc×Bool) (fun z=>[(0,.mpt 0 0 0),(3,.mpt 3 0 0),(4,sA z.1),(5,.mpt 4 0 0),(6,bA z.2.2)]) (fun z=>[some (15,[(vK c d i l (.msl 1 0 (length e)) (.msl 2 0 (length v)) (bA G))]),some (1,map zf e),some (1,map zf v),some (4,[(zu f)]),some (10,[(zh z.2.1)])]) (fun z=>zbh c d i l e v G f z.1 z.2.1 z.2.2=some r) ?_ ?_
 ·
  refine rg y<|u<|fa ti y y y<|u<|ld ti y y<|u<|eql ti y y<|zb ?_
  refine ze y (fun P=>?_) (fun P=>?_)
  ·
   replace h:=bT P h
   obtain ⟨n,q4,h⟩:=bs h
   refine zjw [(0,.mpt 0 0 0),(3,.mpt 3 0 0),(4,sA n.1),(5,.mpt 4 0 0),(6,bA n.2.2)] [some (15,[(vK c d i l (.msl 1 0 (length e)) (.msl 2 0 (length v)) (bA G))]),some (1,map zf e),some (1,map zf v),some (4,[(zu f)]),some (10,[(zh n.2.1)])] [14] [13,12,11,10,9,8,7,6,5,4,3,2,1,0] [(4,sA n.1),(42,bA n.2.2),(41,.agg (zh n.2.1)),(40,sA n.1),(30,.tup [sA n.1,.agg (zh n.2.1),bA n.2.2]),(39,.tup [sA n.1,.agg (zh n.2.1),bA n.2.2]),(38,sA f.M),(37,.mpt 3 0 3),(36,sA f.C),(35,.mpt 3 0 2),(34,.ipt 2 [[.isl 6 (map zd c),.imp (map (rKV (fun x=>iA x)) d)]] 0 0),(33,.mpt 0 0 0),(32,.mpt 0 0 0),(31,.mpt 0 0 0)] 1 (zeo ⟨pe,pe,pe,pe,pe,(pb y (pc (zpA c d f.C f.M q4) y y y w)),pe,pe,pe,pe,pe,pe,pe,pe,t⟩ ⟨(fun _ _=>⟨_,y,y,sto ti y y y<|⟨.any,[15],[(6,bA n.2.2)],y,y,kz,t,zh3 (zo [.old 0,.old 1,.old 2,.old 3,.old 4])⟩⟩),t⟩) ?_
   exact ⟨⟨n.1,n.2.1,n.2.2⟩,h,zo [.old 0,.old 1,.old 2,.old 3,.old 4]⟩
  ·
   replace h:=bF P h
   refine zg ?_
   exact ⟨⟨q.1,q.2.1,(q.2.2&&(!q.2.1.Abstract))⟩,h,zo [.old 0,.old 1,.old 2,.old 3,.old 4]⟩
 ·
  rintro ⟨A,m,O⟩ h
  replace h:zbh c d i l e v G f A m O=some r:=h
  unfold zbh at h
  refine rg y<|u<|mv y<|u<|mv y<|u<|mv y<|z7 (j:=2) 6 y y y y y gpn (fun D=>g y D<|fa ti y y y<|g y D<|ld ti y y<|g y D<|fa ti y y y<|g y D<|ld ti y y<|g y D<|eql ti y y<|g y D<|beq ti y y y<|zb (egA [46,47,48,49,50,51] 6 D y y y y)) ze3<|u<|sx [0,1,2] (zv c d i l e v G (O&&(m.Static == (f.Op == (42:Int)))) y)<|zx (env0:=[(0,.mpt 0 0 0),(3,.mpt 3 0 0),(4,sA A),(5,.mpt 4 0 0)]) (st0:=[some (15,[(vK c d i l (.msl 1 0 (length e)) (.msl 2 0 (length v)) (bA (G||(!(O&&(m.Static == (f.Op == (42:Int))))))))]),some (1,map zf e),some (1,map zf v),some (4,[(zu f)]),some (10,[(zh m)])]) (zo [.old 0,.old 1,.old 2,.old 3,.old 4])<|zb ?_
  obtain ⟨o,q6,h⟩:=bs h
  refine rg y<|u<|mv y<|u<|fa ti y y y<|u<|ld ti y y<|u<|sx [0,1,2] (zI c d i l e v (G||(!(O&&(m.Static == (f.Op == (42:Int)))))) m.Params q6)<|zx (env0:=[(0,.mpt 0 0 0),(3,.mpt 3 0 0),(4,sA A),(5,.mpt 4 0 0)]) (st0:=[some (15,[(vK c d i l (.msl 1 0 (length e)) (.msl 2 0 (length o.1)) (bA o.2))]),some (1,map zf e),some (1,map zf o.1),some (4,[(zu f)]),some (10,[(zh m)])]) (zo [.old 0,.old 1,.old 2,.old 3,.old 4])<|zb ?_
  refine zaX (X:=T1×Bool) (fun z=>[(0,.mpt 0 0 0),(5,.mpt 3 0 0)]) (fun z=>[some (15,[(vK c d i l (.msl 1 0 (length e)) (.msl 2 0 (length z.1)) (bA z.2))]),some (1,map zf e),some (1,map zf z.1),some (10,[(zh m)])]) (fun z=>zaB c d i l e m z.1 z.2=some r) ?_ ?_
  ·
   refine rg y<|u<|fa ti y y y<|u<|ld ti y y<|zb ?_
   refine zs ?_
   refine zaX (X:=Bool) (fun z=>[(0,.mpt 0 0 0),(3,.mpt 3 0 0),(4,sA A),(5,.mpt 4 0 0),(59,iA f.Op),(60,bA z)]) (fun z=>[some (15,[(vK c d i l (.msl 1 0 (length e)) (.msl 2 0 (length o.1)) (bA o.2))]),some (1,map zf e),some (1,map zf o.1),some (4,[(zu f)]),some (10,[(zh m)])]) (fun z=>za4 c d i l e f A m o z=some r) ?_ ?_
   ·
    refine rg y<|u<|eql ti y y<|u<|asg y<|zb ?_
    refine ze y (fun Q=>?_) (fun Q=>?_)
    ·
     replace h:=bT Q h
     refine zg ?_
     exact ⟨(f.Op == (43:Int)),h,zo [.old 0,.old 1,.old 2,.old 3,.old 4]⟩
    ·
     replace h:=bF Q h
     exact rl y<|u<|eql ti y y<|u<|asg y<|zb (⟨(f.Op == (45:Int)),h,zo [.old 0,.old 1,.old 2,.old 3,.old 4]⟩)
   ·
    rintro Y h
    replace h:za4 c d i l e f A m o Y=some r:=h
    unfold za4 at h
    refine ze y (fun R=>?_) (fun R=>?_)
    ·
     replace h:=bT R h
     obtain ⟨I,q9,h⟩:=bs h
     exact rl y<|u<|mv y<|u<|fa ti y y y<|u<|ld ti y y<|u<|bl 5 ti y ti y (by decide) (by decide) y y y<|zx (env0:=[(0,.mpt 0 0 0),(5,.mpt 3 0 0),(63,.mpt 0 0 0),(66,.isl 1 (map zf [f.C]))]) (st0:=[some (15,[(vK c d i l (.msl 1 0 (length e)) (.msl 2 0 (length o.1)) (bA o.2))]),some (1,map zf e),some (1,map zf o.1),some (10,[(zh m)])]) (zo [.old 0,.old 1,.old 2,.old 4])<|u<|sx [0,1,2] (zI c d i l e o.1 o.2 [f.C] q9)<|zx (env0:=[(0,.mpt 0 0 0),(5,.mpt 3 0 0)]) (st0:=[some (15,[(vK c d i l (.msl 1 0 (length e)) (.msl 2 0 (length I.1)) (bA I.2))]),some (1,map zf e),some (1,map zf I.1),some (10,[(zh m)])]) (zo [.old 0,.old 1,.old 2,.old 3])<|zb (⟨⟨I.1,I.2⟩,h,zo [.old 0,.old 1,.old 2,.old 3]⟩)
    ·
     replace h:=bF R h
     refine rg y<|u<|eql ti y y<|u<|asg y<|zb ?_
     refine ze y (fun K=>?_) (fun K=>?_)
     ·
      replace h:=bT K h
      obtain ⟨a,Z,h⟩:=bs h
      refine rg y<|u<|mv y<|u<|sx [0,1,2] (zaN c d i l e o.1 o.2 Z)<|zx (env0:=[(0,.mpt 0 0 0),(3,.mpt 3 0 0),(4,sA A),(5,.mpt 4 0 0),(71,sA a.1)]) (st0:=[some (15,[(vK c d i l (.msl 1 0 (length e)) (.msl 2 0 (length a.2.1)) (bA a.2.2))]),some (1,map zf e),some (1,map zf a.2.1),some (4,[(zu f)]),some (10,[(zh m)])]) (zo [.old 0,.old 1,.old 2,.old 3,.old 4])<|u<|asg y<|zb ?_
      obtain ⟨p,E,h⟩:=bs h
      rcases bb p with s |s
      ·
       replace h:=bT s h
       obtain ⟨B,J,h⟩:=bs h
       rcases bb B with F |F
       ·
        replace h:=bT F h
        obtain ⟨S,q16,h⟩:=bs h
        obtain ⟨H,q17,h⟩:=bs h
        refine zjw [(0,.mpt 0 0 0),(5,.mpt 3 0 0)] [some (15,[(vK c d i l (.msl 1 0 (length e)) (.msl 2 0 (length a.2.1)) (bA (a.2.2||(!H))))]),some (1,map zf e),some (1,map zf a.2.1),some (10,[(zh m)])] [30,34] [31,29,28,27,26,25,24,23,22,21,20,19,18,17,16,15,14,13,12,11,10,9,8,7,6,5,4,3,2,1,0] [(103,sA A),(101,sA i),(100,.mpt 0 0 1),(99,.mpt 0 0 0),(98,.mpt 0 0 0),(97,.ipt 2 [[.isl 6 (map zd c),.imp (map (rKV (fun x=>iA x)) d)]] 0 0),(96,.mpt 0 0 0),(95,.mpt 0 0 0),(94,.mpt 0 0 0),(93,bA B),(92,bA B),(91,bA B),(90,sA i),(89,.mpt 0 0 1),(88,.mpt 0 0 0),(87,.mpt 0 0 0),(86,sA a.1),(85,.ipt 2 [[.isl 6 (map zd c),.imp (map (rKV (fun x=>iA x)) d)]] 0 0),(84,.mpt 0 0 0),(83,.mpt 0 0 0),(82,.mpt 0 0 0),(81,bA p),(80,bA p),(79,sA f.C),(78,.mpt 3 0 2),(77,sA a.1),(76,.ipt 2 [[.isl 6 (map zd c),.imp (map (rKV (fun x=>iA x)) d)]] 0 0),(75,.mpt 0 0 0),(74,.mpt 0 0 0),(73,.mpt 0 0 0),(72,.mpt 0 0 0)] 2 (zeo ⟨pe,pe,pe,pe,pe,pe,pe,pe,pe,pe,pe,(fun _=>pag (b:=p) y y y y s y (pc (zaS c d a.1 i J) y y y<|w)),pe,pe,pe,pe,pe,pe,pe,pe,pe,pe,(pb y (pc (zaS c d a.1 f.C E) y y y w)),pe,pe,pe,pe,pe,pe,pe,pe,t⟩ ⟨(fun _ _=>⟨_,y,cg (b:=B) y F,sx [] (zdk c d i q16)<|⟨(.msl 5 0 (length S)),[33,32],[(105,bA H),(104,bA H),(102,.msl 5 0 (length S))],y,y,kz,y,zeo ⟨pe,(fun _=>pag (b:=B) y y y y F y (pcs (zaI S A q17) y y (.cons (zhm y (fun _=>y)) (.cons (si y) .nil)) zcn<|w)),pe,pe,pe,pe,pe,pe,pe,pe,pe,pe,pe,(fun _=>pag (b:=p) y y y y s y (pc (zaS c d a.1 i J) y y y<|w)),pe,pe,pe,pe,pe,pe,pe,pe,pe,pe,(pb y (pc (zaS c d a.1 f.C E) y y y w)),pe,pe,pe,pe,pe,pe,pe,pe,t⟩ ⟨nv,(fun _ _=>⟨_,y,y,sc [0,1,2] (args:=[.mpt 0 0 0,bA H]) (zv c d i l e a.2.1 a.2.2 H y) y y y y ⟨(.mpt y),(rnI y),t⟩ ⟨⟨_,y,(zwe y ⟨(.msl y),(.msl y),(rnI y),t⟩)⟩,⟨y,mkI (fun _=>y)⟩,⟨y,mkI (fun _=>y)⟩,t⟩<|⟨(.tup []),[],[(106,.tup [])],y,y,kz,y,zhA ⟨pe,pe,pe,pe,pe,pe,pe,pe,pe,pe,pe,pe,pe,(fun _=>pag (b:=p) y y y y s y (pc (zaS c d a.1 i J) y y y<|w)),pe,pe,pe,pe,pe,pe,pe,pe,pe,pe,(pb y (pc (zaS c d a.1 f.C E) y y y w)),pe,pe,pe,pe,pe,pe,pe,pe,t⟩ (zo [.old 0,.old 1,.old 2,.old 4])⟩⟩),t⟩⟩⟩),nw,t⟩) ?_
        exact ⟨⟨a.2.1,(a.2.2||(!H))⟩,h,zo [.old 0,.old 1,.old 2,.old 3]⟩
       ·
        replace h:=bF F h
        refine zjw [(0,.mpt 0 0 0),(5,.mpt 3 0 0)] [some (15,[(vK c d i l (.msl 1 0 (length e)) (.msl 2 0 (length a.2.1)) (bA (a.2.2||(!false))))]),some (1,map zf e),some (1,map zf a.2.1),some (10,[(zh m)])] [34] [33,32,31,30,29,28,27,26,25,24,23,22,21,20,19,18,17,16,15,14,13,12,11,10,9,8,7,6,5,4,3,2,1,0] [(105,bA false),(104,.lit undef),(103,.lit undef),(102,.lit undef),(101,.lit undef),(100,.lit undef),(99,.lit undef),(98,.lit undef),(97,.lit undef),(96,.lit undef),(95,.lit undef),(94,.lit undef),(93,bA B),(92,bA B),(91,bA B),(90,sA i),(89,.mpt 0 0 1),(88,.mpt 0 0 0),(87,.mpt 0 0 0),(86,sA a.1),(85,.ipt 2 [[.isl 6 (map zd c),.imp (map (rKV (fun x=>iA x)) d)]] 0 0),(84,.mpt 0 0 0),(83,.mpt 0 0 0),(82,.mpt 0 0 0),(81,bA p),(80,bA p),(79,sA f.C),(78,.mpt 3 0 2),(77,sA a.1),(76,.ipt 2 [[.isl 6 (map zd c),.imp (map (rKV (fun x=>iA x)) d)]] 0 0),(75,.mpt 0 0 0),(74,.mpt 0 0 0),(73,.mpt 0 0 0),(72,.mpt 0 0 0)] 1 (zeo ⟨pe,pe,pe,pe,pe,pe,pe,pe,pe,pe,pe,pe,pe,pe,(fun _=>pag (b:=p) y y y y s y (pc (zaS c d a.1 i J) y y y<|w)),pe,pe,pe,pe,pe,pe,pe,pe,pe,pe,(pb y (pc (zaS c d a.1 f.C E) y y y w)),pe,pe,pe,pe,pe,pe,pe,pe,t⟩ ⟨(fun _ _=>⟨_,y,y,sc [0,1,2] (args:=[.mpt 0 0 0,bA false]) (zv c d i l e a.2.1 a.2.2 false y) y y y y ⟨(.mpt y),(rnI y),t⟩ ⟨⟨_,y,(zwe y ⟨(.msl y),(.msl y),(rnI y),t⟩)⟩,⟨y,mkI (fun _=>y)⟩,⟨y,mkI (fun _=>y)⟩,t⟩<|⟨(.tup []),[],[(106,.tup [])],y,y,kz,y,zhA ⟨pe,pe,pe,pe,pe,pe,pe,pe,pe,pe,pe,pe,pe,pe,(fun _=>pag (b:=p) y y y y s y (pc (zaS c d a.1 i J) y y y<|w)),pe,pe,pe,pe,pe,pe,pe,pe,pe,pe,(pb y (pc (zaS c d a.1 f.C E) y y y w)),pe,pe,pe,pe,pe,pe,pe,pe,t⟩ (zo [.old 0,.old 1,.old 2,.old 4])⟩⟩),t⟩) ?_
        exact ⟨⟨a.2.1,(a.2.2||(!false))⟩,h,zo [.old 0,.old 1,.old 2,.old 3]⟩
      ·
       replace h:=bF s h
       refine zjw [(0,.mpt 0 0 0),(5,.mpt 3 0 0)] [some (15,[(vK c d i l (.msl 1 0 (length e)) (.msl 2 0 (length a.2.1)) (bA (a.2.2||(!false))))]),some (1,map zf e),some (1,map zf a.2.1),some (10,[(zh m)])] [34] [33,32,31,30,29,28,27,26,25,24,23,22,21,20,19,18,17,16,15,14,13,12,11,10,9,8,7,6,5,4,3,2,1,0] [(105,bA false),(104,.lit undef),(103,.lit undef),(102,.lit undef),(101,.lit undef),(100,.lit undef),(99,.lit undef),(98,.lit undef),(97,.lit undef),(96,.lit undef),(95,.lit undef),(94,.lit undef),(93,bA false),(92,bA false),(91,.lit undef),(90,.lit undef),(89,.lit undef),(88,.lit undef),(87,.lit undef),(86,.lit undef),(85,.lit undef),(84,.lit undef),(83,.lit undef),(82,.lit undef),(81,bA p),(80,bA p),(79,sA f.C),(78,.mpt 3 0 2),(77,sA a.1),(76,.ipt 2 [[.isl 6 (map zd c),.imp (map (rKV (fun x=>iA x)) d)]] 0 0),(75,.mpt 0 0 0),(74,.mpt 0 0 0),(73,.mpt 0 0 0),(72,.mpt 0 0 0)] 1 (zeo ⟨pe,pe,pe,pe,pe,pe,pe,pe,pe,pe,pe,pe,pe,pe,pe,pe,pe,pe,pe,pe,pe,pe,pe,pe,pe,(pb y (pc (zaS c d a.1 f.C E) y y y w)),pe,pe,pe,pe,pe,pe,pe,pe,t⟩ ⟨(fun _ _=>⟨_,y,y,sc [0,1,2] (args:=[.mpt 0 0 0,bA false]) (zv c d i l e a.2.1 a.2.2 false y) y y y y ⟨(.mpt y),(rnI y),t⟩ ⟨⟨_,y,(zwe y ⟨(.msl y),(.msl y),(rnI y),t⟩)⟩,⟨y,mkI (fun _=>y)⟩,⟨y,mkI (fun _=>y)⟩,t⟩<|⟨(.tup []),[],[(106,.tup [])],y,y,kz,y,zhA ⟨pe,pe,pe,pe,pe,pe,pe,pe,pe,pe,pe,pe,pe,pe,pe,pe,pe,pe,pe,pe,pe,pe,pe,pe,pe,(pb y (pc (zaS c d a.1 f.C E) y y y w)),pe,pe,pe,pe,pe,pe,pe,pe,t⟩ (zo [.old 0,.old 1,.old 2,.old 4])⟩⟩),t⟩) ?_
       exact ⟨⟨a.2.1,(a.2.2||(!false))⟩,h,zo [.old 0,.old 1,.old 2,.old 3]⟩
     ·
      replace h:=bF K h
      refine zg ?_
      exact ⟨⟨o.1,o.2⟩,h,zo [.old 0,.old 1,.old 2,.old 4]⟩
  ·
   rintro ⟨U,T⟩ h
   replace h:zaB c d i l e m U T=some r:=h
   unfold zaB at h
   refine rg y<|u<|fa ti y y y<|u<|ld ti y y<|u<|sne ti y y<|zb ?_
   refine ze y (fun L=>?_) (fun L=>?_)
   ·
    replace h:=bT L h
    obtain ⟨V,q19,h⟩:=bs h
    refine rl y<|u<|mv y<|u<|fa ti y y y<|u<|ld ti y y<|u<|sx [0,1,2] (zA c d i l e U T m.Ret q19)<|zx (env0:=[]) (st0:=[some (15,[(vK c d i l (.msl 1 0 (length e)) (.msl 3 0 (length V)) (bA T))]),some (1,map zf e),none,some (1,map zf V)]) (zo [.old 0,.old 1,.dead,.old 4])<|zb ?_
    obtain rfl:=sm h
    exact ⟨_,y,zz [.old 0,.old 1,.dead,.old 3]⟩
   ·
    replace h:=bF L h
    refine zg ?_
    obtain rfl:=sm h
    exact ⟨_,y,zz [.old 0,.old 1,.dead,.old 2]⟩
def zc4(e:List za)(f:T2)(g:T0)(a:zc)(h:T1)(c:T1)(d:Bool)(i:Int):Option (T1×Bool):=
  cond (i == (46:Int)) (some (c,(d||(!(a.Ret == [86]))))) (cond (i == (47:Int)) ((zH e f g a h c (d||(!(a.Ret == [73]))) ([[73]])).bind fun j=>some (j.1,j.2)) ((zjt a.Ret).bind fun l=>(zH e f g a h c (d||(!l)) [a.Ret]).bind fun b=>some (b.1,b.2)))
theorem zl2(d:List za)(e:T2)(f:T0)(a:zc)(b:T1)(c:T1)(g:Bool)(o:Int){r:T1×Bool}(h:zc4 d e f a b c g o=some r):SC Tryz.prog 146 [.mpt 0 0 0,iA o] [.one 15 (vK d e f a (.msl 1 0 (length b)) (.msl 2 0 (length c)) (bA g)),.many 1 (map zf b),.many 1 (map zf c)] (.tup []) [.one 15 (vK d e f a (.msl 1 0 (length b)) (.msl 2 0 (length r.1)) (bA r.2)),.many 1 (map zf b),.many 1 (map zf r.1)]:=by
 refine ⟨⟨t,zh0 (sz:=1) (fun _=>y),zh0 (sz:=1) (fun _=>y),t⟩,zV Tryz.func146 y kz y ?_⟩
 unfold zc4 at h
 refine zs ?_
 refine rg y<|u<|mv y<|u<|eql ti y y<|u<|asg y<|zb ?_
 refine ze y (fun j=>?_) (fun j=>?_)
 ·
  replace h:=bT j h
  refine rl y<|u<|mv y<|u<|mv y<|u<|nc y y<|u<|fa ti y y y<|u<|fa ti y y y<|u<|ld ti y y<|u<|seq ti y y<|u<|sx [0,1,2] (zv d e f a b c g (a.Ret == [86]) y)<|zx (env0:=[]) (st0:=[some (15,[(vK d e f a (.msl 1 0 (length b)) (.msl 2 0 (length c)) (bA (g||(!(a.Ret == [86])))))]),some (1,map zf b),some (1,map zf c)]) (zo [.old 0,.old 1,.old 2])<|zb ?_
  obtain rfl:=sm h
  exact ⟨_,y,zz [.old 0,.old 1,.old 2]⟩
 ·
  replace h:=bF j h
  refine rg y<|u<|mv y<|u<|eql ti y y<|u<|asg y<|zb ?_
  refine ze y (fun l=>?_) (fun l=>?_)
  ·
   replace h:=bT l h
   refine rg y<|u<|mv y<|u<|mv y<|u<|nc y y<|u<|fa ti y y y<|u<|fa ti y y y<|u<|ld ti y y<|u<|seq ti y y<|u<|sx [0,1,2] (zv d e f a b c g (a.Ret == [73]) y)<|zx (env0:=[(0,.mpt 0 0 0)]) (st0:=[some (15,[(vK d e f a (.msl 1 0 (length b)) (.msl 2 0 (length c)) (bA (g||(!(a.Ret == [73])))))]),some (1,map zf b),some (1,map zf c)]) (zo [.old 0,.old 1,.old 2])<|zb ?_
   obtain ⟨n,p,h⟩:=bs h
   refine rl y<|u<|mv y<|u<|bl 3 ti y ti y (by decide) (by decide) y y y<|zx (env0:=[(42,.mpt 0 0 0),(43,.isl 1 (map zf ([[73]])))]) (st0:=[some (15,[(vK d e f a (.msl 1 0 (length b)) (.msl 2 0 (length c)) (bA (g||(!(a.Ret == [73])))))]),some (1,map zf b),some (1,map zf c)]) (zo [.old 0,.old 1,.old 2])<|u<|sx [0,1,2] (zI d e f a b c (g||(!(a.Ret == [73]))) ([[73]]) p)<|zx (env0:=[]) (st0:=[some (15,[(vK d e f a (.msl 1 0 (length b)) (.msl 2 0 (length n.1)) (bA n.2))]),some (1,map zf b),some (1,map zf n.1)]) (zo [.old 0,.old 1,.old 2])<|zb ?_
   obtain rfl:=sm h
   exact ⟨_,y,zz [.old 0,.old 1,.old 2]⟩
  ·
   replace h:=bF l h
   obtain ⟨i,q,h⟩:=bs h
   refine rg y<|u<|mv y<|u<|mv y<|u<|nc y y<|u<|fa ti y y y<|u<|fa ti y y y<|u<|ld ti y y<|u<|pc (zkC a.Ret q) y y y<|u<|sx [0,1,2] (zv d e f a b c g i y)<|zx (env0:=[(0,.mpt 0 0 0)]) (st0:=[some (15,[(vK d e f a (.msl 1 0 (length b)) (.msl 2 0 (length c)) (bA (g||(!i))))]),some (1,map zf b),some (1,map zf c)]) (zo [.old 0,.old 1,.old 2])<|zb ?_
   obtain ⟨m,s,h⟩:=bs h
   refine rl y<|u<|mv y<|u<|mv y<|u<|nc y y<|u<|fa ti y y y<|u<|fa ti y y y<|u<|ld ti y y<|u<|bl 3 ti y ti y (by decide) (by decide) y y y<|zx (env0:=[(12,.mpt 0 0 0),(18,.isl 1 (map zf [a.Ret]))]) (st0:=[some (15,[(vK d e f a (.msl 1 0 (length b)) (.msl 2 0 (length c)) (bA (g||(!i))))]),some (1,map zf b),some (1,map zf c)]) (zo [.old 0,.old 1,.old 2])<|u<|sx [0,1,2] (zI d e f a b c (g||(!i)) [a.Ret] s)<|zx (env0:=[]) (st0:=[some (15,[(vK d e f a (.msl 1 0 (length b)) (.msl 2 0 (length m.1)) (bA m.2))]),some (1,map zf b),some (1,map zf m.1)]) (zo [.old 0,.old 1,.old 2])<|zb ?_
   obtain rfl:=sm h
   exact ⟨_,y,zz [.old 0,.old 1,.old 2]⟩
def zjX(a:T0):Option (T0):=
  (zhH a).bind fun b=>(cond (!b) (some true) ((zz4 [91] a).bind fun c=>(zhH c).bind fun d=>some (!d))).bind fun e=>cond e (some []) ((zz4 [91] a).bind fun f=>some f)
theorem zrn(d:T0){r:T0}(h:zjX d=some r):zG Tryz.prog 214 [sA d] (sA r):=by
 refine zr Tryz.func214 y kz y y ?_
 unfold zjX at h
 refine rg y<|u<|asg y<|zb ?_
 refine zi ?_
 obtain ⟨o,e,h⟩:=bs h
 obtain ⟨f,a,h⟩:=bs h
 refine rg y<|u<|mv y<|u<|pc (zhc d e) y y y<|u<|nt y<|u<|mv y<|zcU (x:=f) (j:=3) 4 y y y y y gpn (fun b=>by replace a:=bF b a;obtain ⟨i,l,a⟩:=bs a;obtain ⟨p,m,a⟩:=bs a;obtain rfl:=sm a;exact g y b<|mv y<|g y b<|zCx ti y y l<|g y b<|pc (zhc i m) y y y<|g y b<|nt y<|zb (eg [7,8,9,10] 4 y y y y)) (fun hb=>(sm (bT hb a)).symm)<|zb ?_
 refine ze y (fun c=>?_) (fun c=>?_)
 ·
  replace h:=bT c h
  refine rg y<|u<|asg y<|zb ?_
  refine zj ?_
  obtain rfl:=sm h
  exact ⟨_,y,zz []⟩
 ·
  replace h:=bF c h
  refine zg ?_
  obtain ⟨q,n,h⟩:=bs h
  refine rg y<|u<|mv y<|u<|zCx ti y y n<|u<|asg y<|zb ?_
  refine zj ?_
  obtain rfl:=sm h
  exact ⟨_,y,zz []⟩
def zc7(c:List za)(d:T2)(e:T0)(f:zc)(g:T1)(h:T1)(i:Bool):Option (T0×T1×Bool):=
  (zag c d e f g h i).bind fun a=>(zfZ a.1).bind fun b=>cond (a.1 == [78]) (some (a.1,a.2.1,(a.2.2||(!((a.1 == [78])||(b.2&&(!(b.1 == [73])))))))) (some (b.1,a.2.1,(a.2.2||(!((a.1 == [78])||(b.2&&(!(b.1 == [73]))))))))
theorem zhZ(c:List za)(d:T2)(e:T0)(f:zc)(b:T1)(o:T1)(p:Bool){r:T0×T1×Bool}(h:zc7 c d e f b o p=some r):SC Tryz.prog 215 [.mpt 0 0 0] [.one 15 (vK c d e f (.msl 1 0 (length b)) (.msl 2 0 (length o)) (bA p)),.many 1 (map zf b),.many 1 (map zf o)] (sA r.1) [.one 15 (vK c d e f (.msl 1 0 (length b)) (.msl 2 0 (length r.2.1)) (bA r.2.2)),.many 1 (map zf b),.many 1 (map zf r.2.1)]:=by
 refine ⟨⟨t,zh0 (sz:=1) (fun _=>y),zh0 (sz:=1) (fun _=>y),t⟩,zV Tryz.func215 y kz y ?_⟩
 unfold zc7 at h
 refine rg y<|u<|asg y<|zb ?_
 obtain ⟨a,q,h⟩:=bs h
 refine rg y<|u<|mv y<|u<|sx [0,1,2] (zaN c d e f b o p q)<|zx (env0:=[(0,.mpt 0 0 0),(7,sA a.1)]) (st0:=[some (15,[(vK c d e f (.msl 1 0 (length b)) (.msl 2 0 (length a.2.1)) (bA a.2.2))]),some (1,map zf b),some (1,map zf a.2.1)]) (zo [.old 0,.old 1,.old 2])<|u<|asg y<|zb ?_
 obtain ⟨l,s,h⟩:=bs h
 refine rg y<|u<|mv y<|u<|pc (zhs a.1 s) y y y<|u<|mv y<|u<|ex y y<|u<|ex y y<|u<|asg y<|u<|asg y<|zb ?_
 refine rg y<|u<|mv y<|u<|mv y<|u<|seq ti y y<|u<|mv y<|zcU (j:=3) 5 y y y y y gpn (fun i=>g y i<|mv y<|g y i<|mv y<|z7 (j:=5) 2 y y y y y (gps y y i) (fun m=>g y m<|mv y<|g y m<|sne ti y y<|zb (egA [19,20] 2 m y y y y)) ze3<|zb (egO [17,18,19,20,21] 3 i y y y y)) orT<|u<|sx [0,1,2] (zv c d e f b a.2.1 a.2.2 ((a.1 == [78])||(l.2&&(!(l.1 == [73])))) y)<|zx (env0:=[(3,sA a.1),(4,sA l.1)]) (st0:=[some (15,[(vK c d e f (.msl 1 0 (length b)) (.msl 2 0 (length a.2.1)) (bA (a.2.2||(!((a.1 == [78])||(l.2&&(!(l.1 == [73]))))))))]),some (1,map zf b),some (1,map zf a.2.1)]) (zo [.old 0,.old 1,.old 2])<|zb ?_
 refine zi ?_
 refine rg y<|u<|mv y<|u<|seq ti y y<|zb ?_
 refine ze y (fun n=>?_) (fun n=>?_)
 ·
  replace h:=bT n h
  refine rg y<|u<|mv y<|u<|asg y<|zb ?_
  refine zj ?_
  obtain rfl:=sm h
  exact ⟨_,y,zz [.old 0,.old 1,.old 2]⟩
 ·
  replace h:=bF n h
  refine zg ?_
  refine rg y<|u<|mv y<|u<|asg y<|zb ?_
  refine zj ?_
  obtain rfl:=sm h
  exact ⟨_,y,zz [.old 0,.old 1,.old 2]⟩
def zay(a:List za)(b:T2)(c:T0)(d:zc)(e:T1)(g:T1)(h:Bool)(i:zp):Option (T1×Bool):=
  cond (i.Op == (49:Int)) ((zH a b c d e g h ([[73]])).bind fun v=>(zB a b c d e v.1 v.2 [91,73]).bind fun x=>some (x,v.2)) (cond (i.Op == (50:Int)) ((zjX i.C).bind fun l=>(cond (!(l == [])) ((zdy a b l).bind fun z=>some z) (some false)).bind fun A=>(zH a b c d e g (h||(!A)) ([[73]])).bind fun m=>(zB a b c d e m.1 m.2 l).bind fun B=>some (B,m.2)) (cond (i.Op == (51:Int)) ((zag a b c d e g h).bind fun f=>(zfZ f.1).bind fun o=>(zB a b c d e f.2.1 (f.2.2||(!(o.2||(f.1 == [78])))) [73]).bind fun D=>some (D,(f.2.2||(!(o.2||(f.1 == [78])))))) (cond (i.Op == (52:Int)) ((zH a b c d e g h ([[91,73],[73]])).bind fun n=>(zB a b c d e n.1 n.2 [73]).bind fun E=>some (E,n.2)) (cond (i.Op == (53:Int)) ((zH a b c d e g h ([[91,73],[73],[73]])).bind fun p=>some (p.1,p.2)) (cond (i.Op == (54:Int)) ((zH a b c d e g h ([[73]])).bind fun q=>(zc7 a b c d e q.1 q.2).bind fun j=>(zB a b c d e j.2.1 j.2.2 j.1).bind fun F=>some (F,j.2.2)) ((zb1 a b c d e g h).bind fun r=>(zH a b c d e r.2.1 r.2.2 ([[73]])).bind fun s=>(zc7 a b c d e s.1 s.2).bind fun u=>some (u.2.1,u.2.2)))))))
theorem zkd(b:List za)(c:T2)(d:T0)(e:zc)(a:T1)(i:T1)(l:Bool)(T:zp){r:T1×Bool}(h:zay b c d e a i l T=some r):SC Tryz.prog 147 [.mpt 0 0 0,.agg (zu T)] [.one 15 (vK b c d e (.msl 1 0 (length a)) (.msl 2 0 (length i)) (bA l)),.many 1 (map zf a),.many 1 (map zf i)] (.tup []) [.one 15 (vK b c d e (.msl 1 0 (length a)) (.msl 3 0 (length r.1)) (bA r.2)),.many 1 (map zf a),.no,.many 1 (map zf r.1)]:=by
 refine ⟨⟨t,zh0 (sz:=1) (fun _=>y),t,zh0 (sz:=1) (fun _=>y),t⟩,zV Tryz.func147 y kz y ?_⟩
 unfold zay at h
 refine rg y<|u<|bx 3 4 y y y y<|zb ?_
 refine rg y<|u<|fa ti y y y<|u<|ld ti y y<|zb ?_
 refine zs ?_
 refine rg y<|u<|eql ti y y<|u<|asg y<|zb ?_
 refine ze y (fun K=>?_) (fun K=>?_)
 ·
  replace h:=bT K h
  obtain ⟨I,q2,h⟩:=bs h
  refine rg y<|u<|mv y<|u<|bl 4 ti y ti y (by decide) (by decide) y y y<|zx (env0:=[(0,.mpt 0 0 0),(19,.mpt 0 0 0),(20,.isl 1 (map zf ([[73]])))]) (st0:=[some (15,[(vK b c d e (.msl 1 0 (length a)) (.msl 2 0 (length i)) (bA l))]),some (1,map zf a),some (1,map zf i)]) (zo [.old 0,.old 1,.old 2])<|u<|sx [0,1,2] (zI b c d e a i l ([[73]]) q2)<|zx (env0:=[(0,.mpt 0 0 0)]) (st0:=[some (15,[(vK b c d e (.msl 1 0 (length a)) (.msl 2 0 (length I.1)) (bA I.2))]),some (1,map zf a),some (1,map zf I.1)]) (zo [.old 0,.old 1,.old 2])<|zb ?_
  obtain ⟨O,q3,h⟩:=bs h
  refine rl y<|u<|mv y<|u<|sx [0,1,2] (zA b c d e a I.1 I.2 [91,73] q3)<|zx (env0:=[]) (st0:=[some (15,[(vK b c d e (.msl 1 0 (length a)) (.msl 3 0 (length O)) (bA I.2))]),some (1,map zf a),none,some (1,map zf O)]) (zo [.old 0,.old 1,.dead,.old 3])<|zb ?_
  obtain rfl:=sm h
  exact ⟨_,y,zz [.old 0,.old 1,.dead,.old 3]⟩
 ·
  replace h:=bF K h
  refine rg y<|u<|eql ti y y<|u<|asg y<|zb ?_
  refine ze y (fun L=>?_) (fun L=>?_)
  ·
   replace h:=bT L h
   obtain ⟨s,q5,h⟩:=bs h
   refine rg y<|u<|fa ti y y y<|u<|ld ti y y<|u<|pc (zrn T.C q5) y y y<|u<|asg y<|zb ?_
   obtain ⟨v,J,h⟩:=bs h
   refine rg y<|u<|mv y<|u<|mv y<|u<|sne ti y y<|u<|mv y<|z7 (x:=v) (j:=3) 6 y y y y y gpn (fun o=>by replace J:=bT o J;obtain ⟨v12,q7,J⟩:=bs J;obtain rfl:=sm J;exact g y o<|mv y<|g y o<|nc y y<|g y o<|fa ti y y y<|g y o<|ld ti y y<|g y o<|mv y<|g y o<|pc (zeZ b c s q7) y y y<|zb (eg [33,34,35,36,37,38] 6 y y y y)) (fun hb=>(sm (bF hb J)).symm)<|u<|sx [0,1,2] (zv b c d e a i l v y)<|zx (env0:=[(0,.mpt 0 0 0),(4,sA s)]) (st0:=[some (15,[(vK b c d e (.msl 1 0 (length a)) (.msl 2 0 (length i)) (bA (l||(!v))))]),some (1,map zf a),some (1,map zf i)]) (zo [.old 0,.old 1,.old 2])<|zb ?_
   obtain ⟨p,q9,h⟩:=bs h
   refine rg y<|u<|mv y<|u<|bl 3 ti y ti y (by decide) (by decide) y y y<|zx (env0:=[(0,.mpt 0 0 0),(4,sA s),(41,.mpt 0 0 0),(42,.isl 1 (map zf ([[73]])))]) (st0:=[some (15,[(vK b c d e (.msl 1 0 (length a)) (.msl 2 0 (length i)) (bA (l||(!v))))]),some (1,map zf a),some (1,map zf i)]) (zo [.old 0,.old 1,.old 2])<|u<|sx [0,1,2] (zI b c d e a i (l||(!v)) ([[73]]) q9)<|zx (env0:=[(0,.mpt 0 0 0),(4,sA s)]) (st0:=[some (15,[(vK b c d e (.msl 1 0 (length a)) (.msl 2 0 (length p.1)) (bA p.2))]),some (1,map zf a),some (1,map zf p.1)]) (zo [.old 0,.old 1,.old 2])<|zb ?_
   obtain ⟨P,U,h⟩:=bs h
   refine rl y<|u<|mv y<|u<|mv y<|u<|sx [0,1,2] (zA b c d e a p.1 p.2 s U)<|zx (env0:=[]) (st0:=[some (15,[(vK b c d e (.msl 1 0 (length a)) (.msl 3 0 (length P)) (bA p.2))]),some (1,map zf a),none,some (1,map zf P)]) (zo [.old 0,.old 1,.dead,.old 3])<|zb ?_
   obtain rfl:=sm h
   exact ⟨_,y,zz [.old 0,.old 1,.dead,.old 3]⟩
  ·
   replace h:=bF L h
   refine rg y<|u<|eql ti y y<|u<|asg y<|zb ?_
   refine ze y (fun B=>?_) (fun B=>?_)
   ·
    replace h:=bT B h
    obtain ⟨f,V,h⟩:=bs h
    refine rg y<|u<|mv y<|u<|sx [0,1,2] (zaN b c d e a i l V)<|zx (env0:=[(0,.mpt 0 0 0),(50,sA f.1)]) (st0:=[some (15,[(vK b c d e (.msl 1 0 (length a)) (.msl 2 0 (length f.2.1)) (bA f.2.2))]),some (1,map zf a),some (1,map zf f.2.1)]) (zo [.old 0,.old 1,.old 2])<|u<|asg y<|zb ?_
    obtain ⟨H,W,h⟩:=bs h
    refine rg y<|u<|mv y<|u<|pc (zhs f.1 W) y y y<|u<|mv y<|u<|ex y y<|u<|ex y y<|u<|asg y<|u<|asg y<|zb ?_
    refine rg y<|u<|mv y<|u<|mv y<|u<|mv y<|zcU (j:=2) 2 y y y y y gpn (fun D=>g y D<|mv y<|g y D<|seq ti y y<|zb (egO [59,60] 2 D y y y y)) orT<|u<|sx [0,1,2] (zv b c d e a f.2.1 f.2.2 (H.2||(f.1 == [78])) y)<|zx (env0:=[(0,.mpt 0 0 0)]) (st0:=[some (15,[(vK b c d e (.msl 1 0 (length a)) (.msl 2 0 (length f.2.1)) (bA (f.2.2||(!(H.2||(f.1 == [78]))))))]),some (1,map zf a),some (1,map zf f.2.1)]) (zo [.old 0,.old 1,.old 2])<|zb ?_
    obtain ⟨Q,X,h⟩:=bs h
    refine rl y<|u<|mv y<|u<|sx [0,1,2] (zA b c d e a f.2.1 (f.2.2||(!(H.2||(f.1 == [78])))) [73] X)<|zx (env0:=[]) (st0:=[some (15,[(vK b c d e (.msl 1 0 (length a)) (.msl 3 0 (length Q)) (bA (f.2.2||(!(H.2||(f.1 == [78]))))))]),some (1,map zf a),none,some (1,map zf Q)]) (zo [.old 0,.old 1,.dead,.old 3])<|zb ?_
    obtain rfl:=sm h
    exact ⟨_,y,zz [.old 0,.old 1,.dead,.old 3]⟩
   ·
    replace h:=bF B h
    refine rg y<|u<|eql ti y y<|u<|asg y<|zb ?_
    refine ze y (fun E=>?_) (fun E=>?_)
    ·
     replace h:=bT E h
     obtain ⟨q,Y,h⟩:=bs h
     refine rg y<|u<|mv y<|u<|bl 4 ti y ti y (by decide) (by decide) y y y<|zx (env0:=[(0,.mpt 0 0 0),(67,.mpt 0 0 0),(68,.isl 1 (map zf ([[91,73],[73]])))]) (st0:=[some (15,[(vK b c d e (.msl 1 0 (length a)) (.msl 2 0 (length i)) (bA l))]),some (1,map zf a),some (1,map zf i)]) (zo [.old 0,.old 1,.old 2])<|u<|sx [0,1,2] (zI b c d e a i l ([[91,73],[73]]) Y)<|zx (env0:=[(0,.mpt 0 0 0)]) (st0:=[some (15,[(vK b c d e (.msl 1 0 (length a)) (.msl 2 0 (length q.1)) (bA q.2))]),some (1,map zf a),some (1,map zf q.1)]) (zo [.old 0,.old 1,.old 2])<|zb ?_
     obtain ⟨R,Z,h⟩:=bs h
     refine rl y<|u<|mv y<|u<|sx [0,1,2] (zA b c d e a q.1 q.2 [73] Z)<|zx (env0:=[]) (st0:=[some (15,[(vK b c d e (.msl 1 0 (length a)) (.msl 3 0 (length R)) (bA q.2))]),some (1,map zf a),none,some (1,map zf R)]) (zo [.old 0,.old 1,.dead,.old 3])<|zb ?_
     obtain rfl:=sm h
     exact ⟨_,y,zz [.old 0,.old 1,.dead,.old 3]⟩
    ·
     replace h:=bF E h
     refine rg y<|u<|eql ti y y<|u<|asg y<|zb ?_
     refine ze y (fun F=>?_) (fun F=>?_)
     ·
      replace h:=bT F h
      obtain ⟨M,q20,h⟩:=bs h
      refine rl y<|u<|mv y<|u<|bl 4 ti y ti y (by decide) (by decide) y y y<|zx (env0:=[(74,.mpt 0 0 0),(75,.isl 1 (map zf ([[91,73],[73],[73]])))]) (st0:=[some (15,[(vK b c d e (.msl 1 0 (length a)) (.msl 2 0 (length i)) (bA l))]),some (1,map zf a),some (1,map zf i)]) (zo [.old 0,.old 1,.old 2])<|u<|sx [0,1,2] (zI b c d e a i l ([[91,73],[73],[73]]) q20)<|zx (env0:=[]) (st0:=[some (15,[(vK b c d e (.msl 1 0 (length a)) (.msl 2 0 (length M.1)) (bA M.2))]),some (1,map zf a),some (1,map zf M.1)]) (zo [.old 0,.old 1,.old 2])<|zb ?_
      obtain rfl:=sm h
      exact ⟨_,y,zz [.old 0,.old 1,.dead,.old 2]⟩
     ·
      replace h:=bF F h
      refine rg y<|u<|eql ti y y<|u<|asg y<|zb ?_
      refine ze y (fun G=>?_) (fun G=>?_)
      ·
       replace h:=bT G h
       obtain ⟨z,q22,h⟩:=bs h
       refine rg y<|u<|mv y<|u<|bl 4 ti y ti y (by decide) (by decide) y y y<|zx (env0:=[(0,.mpt 0 0 0),(79,.mpt 0 0 0),(80,.isl 1 (map zf ([[73]])))]) (st0:=[some (15,[(vK b c d e (.msl 1 0 (length a)) (.msl 2 0 (length i)) (bA l))]),some (1,map zf a),some (1,map zf i)]) (zo [.old 0,.old 1,.old 2])<|u<|sx [0,1,2] (zI b c d e a i l ([[73]]) q22)<|zx (env0:=[(0,.mpt 0 0 0)]) (st0:=[some (15,[(vK b c d e (.msl 1 0 (length a)) (.msl 2 0 (length z.1)) (bA z.2))]),some (1,map zf a),some (1,map zf z.1)]) (zo [.old 0,.old 1,.old 2])<|zb ?_
       obtain ⟨m,q23,h⟩:=bs h
       obtain ⟨S,q24,h⟩:=bs h
       refine rl y<|u<|mv y<|u<|mv y<|u<|sx [0,1,2] (zhZ b c d e a z.1 z.2 q23)<|zx (env0:=[(82,.mpt 0 0 0),(84,sA m.1)]) (st0:=[some (15,[(vK b c d e (.msl 1 0 (length a)) (.msl 2 0 (length m.2.1)) (bA m.2.2))]),some (1,map zf a),some (1,map zf m.2.1)]) (zo [.old 0,.old 1,.old 2])<|u<|sx [0,1,2] (zA b c d e a m.2.1 m.2.2 m.1 q24)<|zx (env0:=[]) (st0:=[some (15,[(vK b c d e (.msl 1 0 (length a)) (.msl 3 0 (length S)) (bA m.2.2))]),some (1,map zf a),none,some (1,map zf S)]) (zo [.old 0,.old 1,.dead,.old 3])<|zb ?_
       obtain rfl:=sm h
       exact ⟨_,y,zz [.old 0,.old 1,.dead,.old 3]⟩
      ·
       replace h:=bF G h
       obtain ⟨n,q25,h⟩:=bs h
       refine rg y<|u<|mv y<|u<|sx [0,1,2] (zdM b c d e a i l q25)<|zx (env0:=[(0,.mpt 0 0 0)]) (st0:=[some (15,[(vK b c d e (.msl 1 0 (length a)) (.msl 2 0 (length n.2.1)) (bA n.2.2))]),some (1,map zf a),some (1,map zf n.2.1)]) (zo [.old 0,.old 1,.old 2])<|zb ?_
       obtain ⟨A,q26,h⟩:=bs h
       refine rg y<|u<|mv y<|u<|bl 3 ti y ti y (by decide) (by decide) y y y<|zx (env0:=[(0,.mpt 0 0 0),(12,.mpt 0 0 0),(13,.isl 1 (map zf ([[73]])))]) (st0:=[some (15,[(vK b c d e (.msl 1 0 (length a)) (.msl 2 0 (length n.2.1)) (bA n.2.2))]),some (1,map zf a),some (1,map zf n.2.1)]) (zo [.old 0,.old 1,.old 2])<|u<|sx [0,1,2] (zI b c d e a n.2.1 n.2.2 ([[73]]) q26)<|zx (env0:=[(0,.mpt 0 0 0)]) (st0:=[some (15,[(vK b c d e (.msl 1 0 (length a)) (.msl 2 0 (length A.1)) (bA A.2))]),some (1,map zf a),some (1,map zf A.1)]) (zo [.old 0,.old 1,.old 2])<|zb ?_
       obtain ⟨N,q27,h⟩:=bs h
       refine rl y<|u<|mv y<|u<|sx [0,1,2] (zhZ b c d e a A.1 A.2 q27)<|zx (env0:=[]) (st0:=[some (15,[(vK b c d e (.msl 1 0 (length a)) (.msl 2 0 (length N.2.1)) (bA N.2.2))]),some (1,map zf a),some (1,map zf N.2.1)]) (zo [.old 0,.old 1,.old 2])<|zb ?_
       obtain rfl:=sm h
       exact ⟨_,y,zz [.old 0,.old 1,.dead,.old 2]⟩
def zaC(b:List za)(c:T2)(e:T0)(f:zc)(g:T1)(j:T1)(h:Bool)(i:zp)(q:Bool):Option (T1×Bool):=
  cond q ((zb1 b c e f g j h).bind fun a=>(zdy b c i.C).bind fun d=>cond (i.Op == (56:Int)) ((zB b c e f g a.2.1 (a.2.2||(!d)) i.C).bind fun n=>some (n,(a.2.2||(!d)))) ((zB b c e f g a.2.1 (a.2.2||(!d)) [73]).bind fun o=>some (o,(a.2.2||(!d))))) (cond (i.Op == (58:Int)) ((zH b c e f g j h ([[84,104,114,111,119,110]])).bind fun l=>some (l.1,l.2)) (cond (i.Op == (59:Int)) ((zB b c e f g j h [73]).bind fun p=>some (p,h)) ((zH b c e f g j h ([[73]])).bind fun m=>some (m.1,m.2))))
def zbH(b:List za)(c:T2)(d:T0)(e:zc)(f:T1)(g:T1)(h:Bool)(a:zp):Option (T1×Bool):=
  cond (a.Op == (56:Int)) (zaC b c d e f g h a (a.Op == (56:Int))) (zaC b c d e f g h a (a.Op == (57:Int)))
theorem zlc(b:List za)(c:T2)(d:T0)(e:zc)(a:T1)(g:T1)(j:Bool)(i:zp){r:T1×Bool}(h:zbH b c d e a g j i=some r):SC Tryz.prog 148 [.mpt 0 0 0,.agg (zu i)] [.one 15 (vK b c d e (.msl 1 0 (length a)) (.msl 2 0 (length g)) (bA j)),.many 1 (map zf a),.many 1 (map zf g)] (.tup []) [.one 15 (vK b c d e (.msl 1 0 (length a)) (.msl 3 0 (length r.1)) (bA r.2)),.many 1 (map zf a),.no,.many 1 (map zf r.1)]:=by
 refine ⟨⟨t,zh0 (sz:=1) (fun _=>y),t,zh0 (sz:=1) (fun _=>y),t⟩,zV Tryz.func148 y kz y ?_⟩
 unfold zbH at h
 refine rg y<|u<|bx 3 4 y y y y<|zb ?_
 refine rg y<|u<|fa ti y y y<|u<|ld ti y y<|zb ?_
 refine zs ?_
 refine zaX (X:=Bool) (fun z=>[(0,.mpt 0 0 0),(3,.mpt 3 0 0),(5,iA i.Op),(9,bA z)]) (fun z=>[some (15,[(vK b c d e (.msl 1 0 (length a)) (.msl 2 0 (length g)) (bA j))]),some (1,map zf a),some (1,map zf g),some (4,[(zu i)])]) (fun z=>zaC b c d e a g j i z=some r) ?_ ?_
 ·
  refine rg y<|u<|eql ti y y<|u<|asg y<|zb ?_
  refine ze y (fun n=>?_) (fun n=>?_)
  ·
   replace h:=bT n h
   refine zg ?_
   exact ⟨(i.Op == (56:Int)),h,zo [.old 0,.old 1,.old 2,.old 3]⟩
  ·
   replace h:=bF n h
   exact rl y<|u<|eql ti y y<|u<|asg y<|zb (⟨(i.Op == (57:Int)),h,zo [.old 0,.old 1,.old 2,.old 3]⟩)
 ·
  rintro G h
  replace h:zaC b c d e a g j i G=some r:=h
  unfold zaC at h
  refine ze y (fun o=>?_) (fun o=>?_)
  ·
   replace h:=bT o h
   obtain ⟨f,H,h⟩:=bs h
   refine rg y<|u<|mv y<|u<|sx [0,1,2] (zdM b c d e a g j H)<|zx (env0:=[(0,.mpt 0 0 0),(3,.mpt 3 0 0)]) (st0:=[some (15,[(vK b c d e (.msl 1 0 (length a)) (.msl 2 0 (length f.2.1)) (bA f.2.2))]),some (1,map zf a),some (1,map zf f.2.1),some (4,[(zu i)])]) (zo [.old 0,.old 1,.old 2,.old 3])<|zb ?_
   obtain ⟨l,I,h⟩:=bs h
   refine rdA [(0,.mpt 0 0 0),(3,.mpt 3 0 0)] [some (15,[(vK b c d e (.msl 1 0 (length a)) (.msl 2 0 (length f.2.1)) (bA (f.2.2||(!l))))]),some (1,map zf a),some (1,map zf f.2.1),some (4,[(zu i)])] [8] [7,6,5,4,3,2,1,0] [(21,bA l),(20,sA i.C),(19,.mpt 3 0 2),(18,.ipt 2 [[.isl 6 (map zd b),.imp (map (rKV (fun x=>iA x)) c)]] 0 0),(17,.mpt 0 0 0),(16,.mpt 0 0 0),(15,.mpt 0 0 0),(14,.mpt 0 0 0)] 1 (zeo ⟨(pb y (pc (zeZ b c i.C I) y y y w)),pe,pe,pe,pe,pe,pe,pe,t⟩ ⟨(fun _ _=>⟨_,y,y,sx [0,1,2] (zv b c d e a f.2.1 f.2.2 l y)<|⟨(.tup []),[],[(22,.tup [])],y,y,kz,y,zh3 (zo [.old 0,.old 1,.old 2,.old 3])⟩⟩),t⟩) ?_
   refine rg y<|u<|fa ti y y y<|u<|ld ti y y<|u<|eql ti y y<|zb ?_
   refine ze y (fun p=>?_) (fun p=>?_)
   ·
    replace h:=bT p h
    obtain ⟨A,J,h⟩:=bs h
    refine rl y<|u<|mv y<|u<|fa ti y y y<|u<|ld ti y y<|u<|sx [0,1,2] (zA b c d e a f.2.1 (f.2.2||(!l)) i.C J)<|zx (env0:=[]) (st0:=[some (15,[(vK b c d e (.msl 1 0 (length a)) (.msl 3 0 (length A)) (bA (f.2.2||(!l))))]),some (1,map zf a),none,some (1,map zf A)]) (zo [.old 0,.old 1,.dead,.old 4])<|zb ?_
    obtain rfl:=sm h
    exact ⟨_,y,zz [.old 0,.old 1,.dead,.old 3]⟩
   ·
    replace h:=bF p h
    obtain ⟨B,K,h⟩:=bs h
    refine rl y<|u<|mv y<|u<|sx [0,1,2] (zA b c d e a f.2.1 (f.2.2||(!l)) [73] K)<|zx (env0:=[]) (st0:=[some (15,[(vK b c d e (.msl 1 0 (length a)) (.msl 3 0 (length B)) (bA (f.2.2||(!l))))]),some (1,map zf a),none,some (1,map zf B)]) (zo [.old 0,.old 1,.dead,.old 4])<|zb ?_
    obtain rfl:=sm h
    exact ⟨_,y,zz [.old 0,.old 1,.dead,.old 3]⟩
  ·
   replace h:=bF o h
   refine rg y<|u<|eql ti y y<|u<|asg y<|zb ?_
   refine ze y (fun q=>?_) (fun q=>?_)
   ·
    replace h:=bT q h
    obtain ⟨s,L,h⟩:=bs h
    refine rl y<|u<|mv y<|u<|bl 4 ti y ti y (by decide) (by decide) y y y<|zx (env0:=[(34,.mpt 0 0 0),(35,.isl 1 (map zf ([[84,104,114,111,119,110]])))]) (st0:=[some (15,[(vK b c d e (.msl 1 0 (length a)) (.msl 2 0 (length g)) (bA j))]),some (1,map zf a),some (1,map zf g)]) (zo [.old 0,.old 1,.old 2])<|u<|sx [0,1,2] (zI b c d e a g j ([[84,104,114,111,119,110]]) L)<|zx (env0:=[]) (st0:=[some (15,[(vK b c d e (.msl 1 0 (length a)) (.msl 2 0 (length s.1)) (bA s.2))]),some (1,map zf a),some (1,map zf s.1)]) (zo [.old 0,.old 1,.old 2])<|zb ?_
    obtain rfl:=sm h
    exact ⟨_,y,zz [.old 0,.old 1,.dead,.old 2]⟩
   ·
    replace h:=bF q h
    refine rg y<|u<|eql ti y y<|u<|asg y<|zb ?_
    refine ze y (fun m=>?_) (fun m=>?_)
    ·
     replace h:=bT m h
     obtain ⟨D,E,h⟩:=bs h
     refine rl y<|u<|mv y<|u<|sx [0,1,2] (zA b c d e a g j [73] E)<|zx (env0:=[]) (st0:=[some (15,[(vK b c d e (.msl 1 0 (length a)) (.msl 3 0 (length D)) (bA j))]),some (1,map zf a),none,some (1,map zf D)]) (zo [.old 0,.old 1,.dead,.old 4])<|zb ?_
     obtain rfl:=sm h
     exact ⟨_,y,zz [.old 0,.old 1,.dead,.old 3]⟩
    ·
     replace h:=bF m h
     obtain ⟨v,F,h⟩:=bs h
     refine rl y<|u<|mv y<|u<|bl 4 ti y ti y (by decide) (by decide) y y y<|zx (env0:=[(6,.mpt 0 0 0),(7,.isl 1 (map zf ([[73]])))]) (st0:=[some (15,[(vK b c d e (.msl 1 0 (length a)) (.msl 2 0 (length g)) (bA j))]),some (1,map zf a),some (1,map zf g)]) (zo [.old 0,.old 1,.old 2])<|u<|sx [0,1,2] (zI b c d e a g j ([[73]]) F)<|zx (env0:=[]) (st0:=[some (15,[(vK b c d e (.msl 1 0 (length a)) (.msl 2 0 (length v.1)) (bA v.2))]),some (1,map zf a),some (1,map zf v.1)]) (zo [.old 0,.old 1,.old 2])<|zb ?_
     obtain rfl:=sm h
     exact ⟨_,y,zz [.old 0,.old 1,.dead,.old 2]⟩
def zk(c:List za)(d:T2)(e:T0)(f:zc)(a:T1)(g:T1)(h:Bool)(b:zp):Option (T1×T1×Bool):=
  cond (zaM b.Op 1 7) ((zaY c d e f a g h b).bind fun x=>some (x.1,x.2.1,x.2.2)) (cond (b.Op == (13:Int)) ((zH c d e f a g h ([[73]])).bind fun i=>(zB c d e f a i.1 i.2 [73]).bind fun z=>some (a,z,i.2)) (cond (zaM b.Op 8 19) ((zH c d e f a g h ([[73],[73]])).bind fun j=>(zB c d e f a j.1 j.2 [73]).bind fun A=>some (a,A,j.2)) (cond (b.Op == (20:Int)) (some (a,g,h)) (cond (zaM b.Op 21 26) ((zH c d e f a g h ([[73]])).bind fun l=>some (a,l.1,l.2)) (cond (zaM b.Op 27 32) ((zH c d e f a g h ([[73],[73]])).bind fun m=>some (a,m.1,m.2)) (cond (zaM b.Op 33 34) ((zb1 c d e f a g h).bind fun n=>some (a,n.2.1,n.2.2)) (cond (zaM b.Op 35 36) ((zb1 c d e f a g h).bind fun o=>(zb1 c d e f a o.2.1 o.2.2).bind fun p=>some (a,p.2.1,p.2.2)) (cond ((b.Op == (37:Int))||(zaM b.Op 38 41)) ((zc8 c d e f a g h b).bind fun q=>some (a,q.1,q.2)) (cond (zaM b.Op 42 45) ((zcH c d e f a g h b).bind fun r=>some (a,r.1,r.2)) (cond (zaM b.Op 46 48) ((zc4 c d e f a g h b.Op).bind fun s=>some (a,s.1,s.2)) (cond (zaM b.Op 49 55) ((zay c d e f a g h b).bind fun u=>some (a,u.1,u.2)) ((zbH c d e f a g h b).bind fun v=>some (a,v.1,v.2)))))))))))))
theorem zl1(b:List za)(c:T2)(d:T0)(e:zc)(a:T1)(f:T1)(i:Bool)(l:zp){r:T1×T1×Bool}(h:zk b c d e a f i l=some r):SC Tryz.prog 86 [.mpt 0 0 0,.agg (zu l)] [.one 15 (vK b c d e (.msl 1 0 (length a)) (.msl 2 0 (length f)) (bA i)),.many 1 (map zf a),.many 1 (map zf f)] (.tup []) [.one 15 (vK b c d e (.msl 3 0 (length r.1)) (.msl 4 0 (length r.2.1)) (bA r.2.2)),.no,.no,.many 1 (map zf r.1),.many 1 (map zf r.2.1)]:=by
 refine ⟨⟨t,t,t,zh0 (sz:=1) (fun _=>y),zh0 (sz:=1) (fun _=>y),t⟩,zV Tryz.func86 y kz y ?_⟩
 unfold zk at h
 refine rg y<|u<|bx 3 4 y y y y<|zb ?_
 refine rg y<|u<|fa ti y y y<|u<|ld ti y y<|u<|asg y<|zb ?_
 refine zs ?_
 refine rg y<|u<|mv y<|u<|pc (zbN l.Op 1 7 y) y y y<|u<|asg y<|zb ?_
 refine ze y (fun D=>?_) (fun D=>?_)
 ·
  replace h:=bT D h
  obtain ⟨E,q2,h⟩:=bs h
  refine rl y<|u<|mv y<|u<|ld ti y y<|u<|sx [0,1,2] (zlb b c d e a f i l q2)<|zx (env0:=[]) (st0:=[some (15,[(vK b c d e (.msl 3 0 (length E.1)) (.msl 4 0 (length E.2.1)) (bA E.2.2))]),none,none,some (1,map zf E.1),some (1,map zf E.2.1)]) (zo [.old 0,.dead,.dead,.old 4,.old 5])<|zb ?_
  obtain rfl:=sm h
  exact ⟨_,y,zz [.old 0,.dead,.dead,.old 3,.old 4]⟩
 ·
  replace h:=bF D h
  refine rg y<|u<|mv y<|u<|eql ti y y<|u<|asg y<|zb ?_
  refine ze y (fun F=>?_) (fun F=>?_)
  ·
   replace h:=bT F h
   obtain ⟨m,q4,h⟩:=bs h
   refine rg y<|u<|mv y<|u<|bl 4 ti y ti y (by decide) (by decide) y y y<|zx (env0:=[(0,.mpt 0 0 0),(19,.mpt 0 0 0),(20,.isl 1 (map zf ([[73]])))]) (st0:=[some (15,[(vK b c d e (.msl 1 0 (length a)) (.msl 2 0 (length f)) (bA i))]),some (1,map zf a),some (1,map zf f)]) (zo [.old 0,.old 1,.old 2])<|u<|sx [0,1,2] (zI b c d e a f i ([[73]]) q4)<|zx (env0:=[(0,.mpt 0 0 0)]) (st0:=[some (15,[(vK b c d e (.msl 1 0 (length a)) (.msl 2 0 (length m.1)) (bA m.2))]),some (1,map zf a),some (1,map zf m.1)]) (zo [.old 0,.old 1,.old 2])<|zb ?_
   obtain ⟨R,q5,h⟩:=bs h
   refine rl y<|u<|mv y<|u<|sx [0,1,2] (zA b c d e a m.1 m.2 [73] q5)<|zx (env0:=[]) (st0:=[some (15,[(vK b c d e (.msl 1 0 (length a)) (.msl 3 0 (length R)) (bA m.2))]),some (1,map zf a),none,some (1,map zf R)]) (zo [.old 0,.old 1,.dead,.old 3])<|zb ?_
   obtain rfl:=sm h
   exact ⟨_,y,zz [.old 0,.dead,.dead,.old 1,.old 3]⟩
  ·
   replace h:=bF F h
   refine rg y<|u<|mv y<|u<|pc (zbN l.Op 8 19 y) y y y<|u<|asg y<|zb ?_
   refine ze y (fun G=>?_) (fun G=>?_)
   ·
    replace h:=bT G h
    obtain ⟨n,q7,h⟩:=bs h
    refine rg y<|u<|mv y<|u<|bl 4 ti y ti y (by decide) (by decide) y y y<|zx (env0:=[(0,.mpt 0 0 0),(27,.mpt 0 0 0),(28,.isl 1 (map zf ([[73],[73]])))]) (st0:=[some (15,[(vK b c d e (.msl 1 0 (length a)) (.msl 2 0 (length f)) (bA i))]),some (1,map zf a),some (1,map zf f)]) (zo [.old 0,.old 1,.old 2])<|u<|sx [0,1,2] (zI b c d e a f i ([[73],[73]]) q7)<|zx (env0:=[(0,.mpt 0 0 0)]) (st0:=[some (15,[(vK b c d e (.msl 1 0 (length a)) (.msl 2 0 (length n.1)) (bA n.2))]),some (1,map zf a),some (1,map zf n.1)]) (zo [.old 0,.old 1,.old 2])<|zb ?_
    obtain ⟨S,q8,h⟩:=bs h
    refine rl y<|u<|mv y<|u<|sx [0,1,2] (zA b c d e a n.1 n.2 [73] q8)<|zx (env0:=[]) (st0:=[some (15,[(vK b c d e (.msl 1 0 (length a)) (.msl 3 0 (length S)) (bA n.2))]),some (1,map zf a),none,some (1,map zf S)]) (zo [.old 0,.old 1,.dead,.old 3])<|zb ?_
    obtain rfl:=sm h
    exact ⟨_,y,zz [.old 0,.dead,.dead,.old 1,.old 3]⟩
   ·
    replace h:=bF G h
    refine rg y<|u<|mv y<|u<|eql ti y y<|u<|asg y<|zb ?_
    refine ze y (fun H=>?_) (fun H=>?_)
    ·
     replace h:=bT H h
     refine zg ?_
     obtain rfl:=sm h
     exact ⟨_,y,zz [.old 0,.dead,.dead,.old 1,.old 2]⟩
    ·
     replace h:=bF H h
     refine rg y<|u<|mv y<|u<|pc (zbN l.Op 21 26 y) y y y<|u<|asg y<|zb ?_
     refine ze y (fun p=>?_) (fun p=>?_)
     ·
      replace h:=bT p h
      obtain ⟨I,T,h⟩:=bs h
      refine rl y<|u<|mv y<|u<|bl 4 ti y ti y (by decide) (by decide) y y y<|zx (env0:=[(38,.mpt 0 0 0),(39,.isl 1 (map zf ([[73]])))]) (st0:=[some (15,[(vK b c d e (.msl 1 0 (length a)) (.msl 2 0 (length f)) (bA i))]),some (1,map zf a),some (1,map zf f)]) (zo [.old 0,.old 1,.old 2])<|u<|sx [0,1,2] (zI b c d e a f i ([[73]]) T)<|zx (env0:=[]) (st0:=[some (15,[(vK b c d e (.msl 1 0 (length a)) (.msl 2 0 (length I.1)) (bA I.2))]),some (1,map zf a),some (1,map zf I.1)]) (zo [.old 0,.old 1,.old 2])<|zb ?_
      obtain rfl:=sm h
      exact ⟨_,y,zz [.old 0,.dead,.dead,.old 1,.old 2]⟩
     ·
      replace h:=bF p h
      refine rg y<|u<|mv y<|u<|pc (zbN l.Op 27 32 y) y y y<|u<|asg y<|zb ?_
      refine ze y (fun q=>?_) (fun q=>?_)
      ·
       replace h:=bT q h
       obtain ⟨J,U,h⟩:=bs h
       refine rl y<|u<|mv y<|u<|bl 4 ti y ti y (by decide) (by decide) y y y<|zx (env0:=[(44,.mpt 0 0 0),(45,.isl 1 (map zf ([[73],[73]])))]) (st0:=[some (15,[(vK b c d e (.msl 1 0 (length a)) (.msl 2 0 (length f)) (bA i))]),some (1,map zf a),some (1,map zf f)]) (zo [.old 0,.old 1,.old 2])<|u<|sx [0,1,2] (zI b c d e a f i ([[73],[73]]) U)<|zx (env0:=[]) (st0:=[some (15,[(vK b c d e (.msl 1 0 (length a)) (.msl 2 0 (length J.1)) (bA J.2))]),some (1,map zf a),some (1,map zf J.1)]) (zo [.old 0,.old 1,.old 2])<|zb ?_
       obtain rfl:=sm h
       exact ⟨_,y,zz [.old 0,.dead,.dead,.old 1,.old 2]⟩
      ·
       replace h:=bF q h
       refine rg y<|u<|mv y<|u<|pc (zbN l.Op 33 34 y) y y y<|u<|asg y<|zb ?_
       refine ze y (fun s=>?_) (fun s=>?_)
       ·
        replace h:=bT s h
        obtain ⟨K,V,h⟩:=bs h
        refine rl y<|u<|mv y<|u<|sx [0,1,2] (zdM b c d e a f i V)<|zx (env0:=[]) (st0:=[some (15,[(vK b c d e (.msl 1 0 (length a)) (.msl 2 0 (length K.2.1)) (bA K.2.2))]),some (1,map zf a),some (1,map zf K.2.1)]) (zo [.old 0,.old 1,.old 2])<|zb ?_
        obtain rfl:=sm h
        exact ⟨_,y,zz [.old 0,.dead,.dead,.old 1,.old 2]⟩
       ·
        replace h:=bF s h
        refine rg y<|u<|mv y<|u<|pc (zbN l.Op 35 36 y) y y y<|u<|asg y<|zb ?_
        refine ze y (fun v=>?_) (fun v=>?_)
        ·
         replace h:=bT v h
         obtain ⟨o,W,h⟩:=bs h
         refine rg y<|u<|mv y<|u<|sx [0,1,2] (zdM b c d e a f i W)<|zx (env0:=[(0,.mpt 0 0 0)]) (st0:=[some (15,[(vK b c d e (.msl 1 0 (length a)) (.msl 2 0 (length o.2.1)) (bA o.2.2))]),some (1,map zf a),some (1,map zf o.2.1)]) (zo [.old 0,.old 1,.old 2])<|zb ?_
         obtain ⟨L,X,h⟩:=bs h
         refine rl y<|u<|mv y<|u<|sx [0,1,2] (zdM b c d e a o.2.1 o.2.2 X)<|zx (env0:=[]) (st0:=[some (15,[(vK b c d e (.msl 1 0 (length a)) (.msl 2 0 (length L.2.1)) (bA L.2.2))]),some (1,map zf a),some (1,map zf L.2.1)]) (zo [.old 0,.old 1,.old 2])<|zb ?_
         obtain rfl:=sm h
         exact ⟨_,y,zz [.old 0,.dead,.dead,.old 1,.old 2]⟩
        ·
         replace h:=bF v h
         refine rg y<|u<|mv y<|u<|eql ti y y<|u<|mv y<|zcU (j:=2) 2 y y y y y gpn (fun x=>g y x<|mv y<|g y x<|pc (zbN l.Op 38 41 y) y y y<|zb (egO [63,64] 2 x y y y y)) orT<|u<|asg y<|zb ?_
         refine ze y (fun z=>?_) (fun z=>?_)
         ·
          replace h:=bT z h
          obtain ⟨M,Y,h⟩:=bs h
          refine rl y<|u<|mv y<|u<|ld ti y y<|u<|sx [0,1,2] (zkY b c d e a f i l Y)<|zx (env0:=[]) (st0:=[some (15,[(vK b c d e (.msl 1 0 (length a)) (.msl 3 0 (length M.1)) (bA M.2))]),some (1,map zf a),none,some (1,map zf M.1)]) (zo [.old 0,.old 1,.dead,.old 4])<|zb ?_
          obtain rfl:=sm h
          exact ⟨_,y,zz [.old 0,.dead,.dead,.old 1,.old 3]⟩
         ·
          replace h:=bF z h
          refine rg y<|u<|mv y<|u<|pc (zbN l.Op 42 45 y) y y y<|u<|asg y<|zb ?_
          refine ze y (fun A=>?_) (fun A=>?_)
          ·
           replace h:=bT A h
           obtain ⟨N,Z,h⟩:=bs h
           refine rl y<|u<|mv y<|u<|ld ti y y<|u<|sx [0,1,2] (zla b c d e a f i l Z)<|zx (env0:=[]) (st0:=[some (15,[(vK b c d e (.msl 1 0 (length a)) (.msl 3 0 (length N.1)) (bA N.2))]),some (1,map zf a),none,some (1,map zf N.1)]) (zo [.old 0,.old 1,.dead,.old 4])<|zb ?_
           obtain rfl:=sm h
           exact ⟨_,y,zz [.old 0,.dead,.dead,.old 1,.old 3]⟩
          ·
           replace h:=bF A h
           refine rg y<|u<|mv y<|u<|pc (zbN l.Op 46 48 y) y y y<|u<|asg y<|zb ?_
           refine ze y (fun B=>?_) (fun B=>?_)
           ·
            replace h:=bT B h
            obtain ⟨O,q25,h⟩:=bs h
            refine rl y<|u<|mv y<|u<|mv y<|u<|sx [0,1,2] (zl2 b c d e a f i l.Op q25)<|zx (env0:=[]) (st0:=[some (15,[(vK b c d e (.msl 1 0 (length a)) (.msl 2 0 (length O.1)) (bA O.2))]),some (1,map zf a),some (1,map zf O.1)]) (zo [.old 0,.old 1,.old 2])<|zb ?_
            obtain rfl:=sm h
            exact ⟨_,y,zz [.old 0,.dead,.dead,.old 1,.old 2]⟩
           ·
            replace h:=bF B h
            refine rg y<|u<|mv y<|u<|pc (zbN l.Op 49 55 y) y y y<|u<|asg y<|zb ?_
            refine ze y (fun C=>?_) (fun C=>?_)
            ·
             replace h:=bT C h
             obtain ⟨P,q27,h⟩:=bs h
             refine rl y<|u<|mv y<|u<|ld ti y y<|u<|sx [0,1,2] (zkd b c d e a f i l q27)<|zx (env0:=[]) (st0:=[some (15,[(vK b c d e (.msl 1 0 (length a)) (.msl 3 0 (length P.1)) (bA P.2))]),some (1,map zf a),none,some (1,map zf P.1)]) (zo [.old 0,.old 1,.dead,.old 4])<|zb ?_
             obtain rfl:=sm h
             exact ⟨_,y,zz [.old 0,.dead,.dead,.old 1,.old 3]⟩
            ·
             replace h:=bF C h
             obtain ⟨Q,q28,h⟩:=bs h
             refine rl y<|u<|mv y<|u<|ld ti y y<|u<|sx [0,1,2] (zlc b c d e a f i l q28)<|zx (env0:=[]) (st0:=[some (15,[(vK b c d e (.msl 1 0 (length a)) (.msl 3 0 (length Q.1)) (bA Q.2))]),some (1,map zf a),none,some (1,map zf Q.1)]) (zo [.old 0,.old 1,.dead,.old 4])<|zb ?_
             obtain rfl:=sm h
             exact ⟨_,y,zz [.old 0,.dead,.dead,.old 1,.old 3]⟩
def zgA(b:T1)(c:T1)(a:Bool):Option (Bool):=
  some (!a)
def zdh(e:zc)(b:Int)(c:zp)(a:T1×T1×Bool)(d:Bool):Option (Sum (T1×T1×Bool×Bool×Int) (Sum (T1×T1×Bool) (Bool))):=
  some (.inl (a.1,a.2.1,(d||(!(decide (((length a.2.1):Int)≤e.Stack)))),(!(ziE c.Op)),(IntKind.i64.wrap (b+1))))
def zav(g:T0)(d:zad)(e:zc)(h:T1)(i:T1)(j:Bool)(m:Bool)(a:Int):Option (Sum (T1×T1×Bool×Bool×Int) (Sum (T1×T1×Bool) (Bool))):=
  cond (decide (a<(length e.Code:Int))) ((idx e.Code a).bind fun f=>(zd1 d.l d.at_ g e h i j a m).bind fun b=>cond b.2.2 (some (.inr (.inr false))) ((zc9 d.l d.at_ g e b.1 b.2.1 b.2.2 a).bind fun n=>(zk d.l d.at_ g e b.1 b.2.1 n f).bind fun c=>cond (zeN f.Op) ((zcJ d.l d.at_ g e c.1 c.2.1 c.2.2 f.A).bind fun o=>zdh e a f c o) (zdh e a f c c.2.2))) (some (.inr (.inl (h,i,j))))
def ziH(e:T0)(f:zad)(g:zc)(a:Bool)(c:Bool)(d:T1):Option (Bool):=
  (zw (fun z=>zav e f g z.1 z.2.1 z.2.2.1 z.2.2.2.1 z.2.2.2.2) (d,[],(a||(!c)),true,0)).bind fun o=>zU o (fun b=>zgA b.1 b.2.1 b.2.2) some
def zfy(c:zc)(a:T1):Option (Sum (T1) (Sum (T1) (Bool))):=
  cond (decide (((length a):Int)<c.Locals)) ((zh2 16 a ([[84]])).bind fun b=>some (.inl b)) (some (.inr (.inl a)))
def zdW(g:T0)(h:zad)(a:zc)(c:Bool)(d:Bool)(e:T1):Option (Bool):=
  (zh2 16 e a.Params).bind fun f=>(zw (fun z=>zfy a z) f).bind fun o=>zU o (fun b=>ziH g h a c d b) some
def zdV(e:T0)(a:zad)(b:zc)(c:Bool):Option (Bool):=
  (zhY b.Params a.l a.at_).bind fun d=>cond (!b.Static) ((zh2 16 ([]:T1) [e]).bind fun f=>zdW e a b c d f) (zdW e a b c d [])
def zfx(d:T0)(b:zad)(a:zc)(c:Bool):Option (Bool):=
  cond (a.Ret == [86]) (zdV d b a (c||(!true))) ((zcz b.l b.at_ a.Ret a.Ret).bind fun e=>zdV d b a (c||(!e)))
def zcC(b:zad)(e:zc)(c:Bool)(a:Int):Option (Sum (Bool×Int) (Sum (Bool) (Bool))):=
  cond (decide (a<(length e.Maps:Int))) ((idx e.Maps a).bind fun d=>(ziY d.Locals b.l b.at_).bind fun f=>(cond f ((ziY d.Stack b.l b.at_).bind fun g=>some g) (some false)).bind fun h=>some (.inl ((c||(!h)),(IntKind.i64.wrap (a+1))))) (some (.inr (.inl c)))
def zc3(g:Option zad)(e:T0)(a:Int):Option (Bool):=
  zAo g (none) (fun c=>(zaQ c.l c.at_ e).bind fun d=>(cond (((!d.2)||(decide (a<0)))||(decide ((length d.1.Methods:Int)≤a))) (some true) ((idx d.1.Methods a).bind fun h=>some h.Abstract)).bind fun i=>cond i (some false) ((idx d.1.Methods a).bind fun f=>(zw (fun z=>zcC c f z.1 z.2) (false,0)).bind fun o=>zU o (fun b=>zfx e c f b) some))
theorem zdX(v1:Option zad)(d:T0)(W:Int){r:Bool}(h:zc3 v1 d W=some r):zG Tryz.prog 40 [zlf 2 zeT v1,sA d,iA W] (bA r):=by
 refine zr Tryz.func40 y kz y y ?_
 unfold zc3 at h
 rcases v1 with _ |a
 ·
  replace h:=oeN h
  cases h
 ·
  replace h:=oeS h
  refine rg y<|u<|bx 0 1 y y y y<|u<|asg y<|zb ?_
  obtain ⟨v5,q1,h⟩:=bs h
  refine rg y<|u<|ld ti y y<|u<|mv y<|u<|pc (zbw a.l a.at_ d q1) y y y<|u<|mv y<|u<|ex y y<|u<|ex y y<|u<|al 1 ti y<|u<|sto ti y y y<|u<|asg y<|zb ?_
  refine zi ?_
  obtain ⟨v7,P,h⟩:=bs h
  refine rg y<|u<|mv y<|u<|nt y<|u<|mv y<|zcU (j:=2) 2 y y y y y gpn (fun Q=>g y Q<|mv y<|g y Q<|lss ti y y<|zb (egO [25,26] 2 Q y y y y)) orT<|u<|mv y<|zcU (j:=6) 5 y y y y y gpn (fun D=>g y D<|mv y<|g y D<|fa ti y y y<|g y D<|ld ti y y<|g y D<|lnI ti y y<|g y D<|geq ti y y<|zb (egO [29,30,31,32,33] 5 D y y y y)) orT<|u<|mv y<|zcU (x:=v7) (j:=13) 6 y y y y y gpn (fun s=>by replace P:=bF s P;obtain ⟨v6,q5,P⟩:=bs P;obtain rfl:=sm P;exact g y s<|fa ti y y y<|g y s<|ld ti y y<|g y s<|mv y<|g y s<|ixI ti y ti y y y q5<|g y s<|fa ti y y y<|g y s<|ldI ti y (zl q5).2.2 y<|zb (eg [36,37,38,39,40,41] 6 y y y y)) (fun hb=>(sm (bT hb P)).symm)<|zb ?_
  refine ze y (fun S=>?_) (fun S=>?_)
  ·
   replace h:=bT S h
   refine rg y<|u<|asg y<|zb ?_
   refine zj ?_
   obtain rfl:=sm h
   exact ⟨_,y,zz []⟩
  ·
   replace h:=bF S h
   refine zg ?_
   obtain ⟨c,Y,h⟩:=bs h
   refine rdA [(1,sA d),(3,.mpt 0 0 0),(9,.mpt 1 0 0)] [some (1,[[.ipt 2 [[.isl 6 (map zd a.l),.imp (map (rKV (fun x=>iA x)) a.at_)]] 0 0]]),some (15,[(vK a.l a.at_ d c (.lit (.slice none 0 0)) (.lit (.slice none 0 0)) (bA false))])] [8] [7,6,5,4,3,2,1,0] [(50,.agg [.ipt 2 [[.isl 6 (map zd a.l),.imp (map (rKV (fun x=>iA x)) a.at_)]] 0 0,sA d,sA c.Name,.isl 1 (map zf c.Params),sA c.Ret,bA c.Static,bA c.Abstract,iA c.Locals,iA c.Stack,.isl 4 (map zu c.Code),.isl 3 (map zL c.Maps),.isl 4 (map za9 c.Traps),.lit (.slice none 0 0),.lit (.slice none 0 0),bA false]),(49,.agg (zh c)),(48,.ipt 10 (map zh v5.1.Methods) (Int.toNat W) 0),(47,iA W),(46,.isl 10 (map zh v5.1.Methods)),(45,.mpt 1 0 5),(44,sA d),(43,.ipt 2 [[.isl 6 (map zd a.l),.imp (map (rKV (fun x=>iA x)) a.at_)]] 0 0)] 1 (zeo ⟨(pb y (bd ti y y y w)),(pb y (ldI ti y (zl Y).2.2 y w)),(pb y (ixI ti y ti y y y Y w)),pe,pe,pe,pe,pe,t⟩ ⟨(fun _ _=>⟨_,y,y,bx 2 15 y y y y<|⟨(.mpt 2 0 0),[9],[(9,.mpt 2 0 0),(51,.mpt 2 0 0)],y,y,kz,y,zhA ⟨pe,pe,(pb y (ldI ti y (zl Y).2.2 y w)),(pb y (ixI ti y ti y y y Y w)),pe,pe,pe,pe,pe,t⟩ (zo [.old 0,.old 2])⟩⟩),t⟩) ?_
   refine zi ?_
   refine rg y<|u<|mv y<|u<|nc y y<|u<|fa ti y y y<|u<|fa ti y y y<|u<|ld ti y y<|u<|lnI ti y y<|u<|mv y<|zb ?_
   obtain ⟨o,ho,h⟩:=bs h
   refine zY (X:=Bool×Int) (B:=Bool) (R:=Bool) (fun z=>[(1,sA d),(3,.mpt 0 0 0),(9,.mpt 1 0 0),(56,.isl 3 (map zL c.Maps)),(57,iA (length c.Maps:Int)),(58,iA z.2)]) (fun z=>[some (1,[[.ipt 2 [[.isl 6 (map zd a.l),.imp (map (rKV (fun x=>iA x)) a.at_)]] 0 0]]),some (15,[(vK a.l a.at_ d c (.msl 2 0 0) (.msl 3 0 0) (bA z.1))]),some (1,map zf []),some (1,map zf [])]) (fun b=>[(1,sA d),(3,.mpt 0 0 0),(9,.mpt 1 0 0)]) (fun b=>[some (1,[[.ipt 2 [[.isl 6 (map zd a.l),.imp (map (rKV (fun x=>iA x)) a.at_)]] 0 0]]),some (15,[(vK a.l a.at_ d c (.msl 2 0 0) (.msl 3 0 0) (bA b))]),some (1,map zf []),some (1,map zf [])]) (fun r env st=>zaO Tryz.prog Tryz.f40 0 (bA r) [] env st) ho ⟨[.old 0,.old 1,.fresh 1,.fresh 1],ce y y<|cv y (.mpt y)<|cv y (.mpt y)<|ce y y<|ce y y<|ce y y<|cn,y,⟨⟨_,y,ziT ⟨ci y,t⟩⟩,⟨_,y,ziT (zAL y (by exact ⟨.nilown y,.nilown y,ci y,t⟩))⟩,w,w,t⟩,y,k⟩ ?_ ?_ ?_
   ·
    rintro ⟨T,Z⟩ r h
    replace h:zcC a c T Z=some r:=h
    unfold zcC at h
    refine rg y<|u<|lss ti y y<|zb ?_
    refine zi ?_
    refine ze y (fun I=>?_) (fun I=>?_)
    ·
     replace h:=bT I h
     refine zg ?_
     refine zi ?_
     refine zs ?_
     obtain ⟨v17,q16,h⟩:=bs h
     refine rg y<|u<|ixI ti y ti y y y q16<|u<|ldI ti y (zl q16).2.2 y<|u<|al 4 ti y<|u<|sto ti y y y<|zb ?_
     refine rg y<|u<|mf y y<|u<|asg y<|zb ?_
     obtain ⟨v18,q17,h⟩:=bs h
     obtain ⟨U,E,h⟩:=bs h
     refine rl y<|u<|mv y<|u<|fa ti y y y<|u<|ld ti y y<|u<|mv y<|u<|pcs (znT v17.Locals a.l a.at_ q17) y y (.cons (si y) (.cons (zh4 t ⟨(zcT y ⟨(si y),t⟩),t⟩) .nil)) zcn<|u<|mv y<|z7 (x:=U) (j:=5) 4 y y y y y gpn (fun v=>by replace E:=bT v E;obtain ⟨v19,q19,E⟩:=bs E;obtain rfl:=sm E;exact g y v<|fa ti y y y<|g y v<|ld ti y y<|g y v<|mv y<|g y v<|pcs (znT v17.Stack a.l a.at_ q19) y y (.cons (si y) (.cons (zh4 t ⟨(zcT y ⟨(si y),t⟩),t⟩) .nil)) zcn<|zb (eg [69,70,71,72] 4 y y y y)) (fun hb=>(sm (bF hb E)).symm)<|u<|sx [1,2,3] (zv a.l a.at_ d c [] [] T U y)<|zx (env0:=[(1,sA d),(3,.mpt 0 0 0),(9,.mpt 1 0 0),(56,.isl 3 (map zL c.Maps)),(57,iA (length c.Maps:Int)),(58,iA Z)]) (st0:=[some (1,[[.ipt 2 [[.isl 6 (map zd a.l),.imp (map (rKV (fun x=>iA x)) a.at_)]] 0 0]]),some (15,[(vK a.l a.at_ d c (.msl 2 0 0) (.msl 3 0 0) (bA (T||(!U))))]),some (1,map zf []),some (1,map zf [])]) (zo [.old 0,.old 1,.old 2,.old 3])<|zb ?_
     refine rl y<|u<|add ti y y<|u<|mv y<|zb ?_
     obtain rfl:=sm h
     exact ⟨_,y,zo [.old 0,.old 1,.old 2,.old 3]⟩
    ·
     replace h:=bF I h
     refine zE ?_
     obtain rfl:=sm h
     exact ⟨y,_,y,zo [.old 0,.old 1,.old 2,.old 3]⟩
   ·
    rintro G rfl
    replace h:zfx d a c G=some r:=h
    unfold zfx at h
    refine zy ?_
    refine zaX (X:=Bool) (fun z=>[(1,sA d),(3,.mpt 0 0 0),(9,.mpt 1 0 0)]) (fun z=>[some (1,[[.ipt 2 [[.isl 6 (map zd a.l),.imp (map (rKV (fun x=>iA x)) a.at_)]] 0 0]]),some (15,[(vK a.l a.at_ d c (.msl 2 0 0) (.msl 3 0 0) (bA z))]),some (1,map zf []),some (1,map zf [])]) (fun z=>zdV d a c z=some r) ?_ ?_
    ·
     rcases bb (c.Ret == [86]) with F |F
     ·
      replace h:=bT F h
      exact zaf [21] [20,19,18,17,16,15,14,13,12,11,10,9,8,7,6,5,4,3,2,1,0] [(96,bA true),(95,.lit undef),(94,.lit undef),(93,.lit undef),(92,.lit undef),(91,.lit undef),(90,.lit undef),(89,.lit undef),(88,.lit undef),(87,.lit undef),(86,.lit undef),(85,.lit undef),(84,.lit undef),(83,bA (c.Ret == [86])),(82,bA (c.Ret == [86])),(81,sA c.Ret),(80,.mpt 1 0 4),(79,.mpt 1 0 2),(78,.mpt 1 0 0),(77,.mpt 1 0 0),(76,.mpt 1 0 0)] 1 kz kz y kz (zmt ⟨(fun _ _=>⟨_,y,y,sc [1,2,3] (args:=[.mpt 1 0 0,bA true]) (zv a.l a.at_ d c [] [] G true y) y y y y ⟨(.mpt y),(rnI y),t⟩ ⟨⟨_,y,(zwe y ⟨(.msl y),(.msl y),(rnI y),t⟩)⟩,⟨y,mkI (fun _=>y)⟩,⟨y,mkI (fun _=>y)⟩,t⟩<|⟨(.tup []),[],[(97,.tup [])],y,y,kz,y,zh3 ⟨(G||(!true)),h,zo [.old 0,.old 1,.old 2,.old 3]⟩⟩⟩),t⟩)
     ·
      replace h:=bF F h
      obtain ⟨H,q22,h⟩:=bs h
      exact zaf [21] [20,19,18,17,16,15,14,13,12,11,10,9,8,7,6,5,4,3,2,1,0] [(96,bA H),(95,bA H),(94,sA c.Ret),(93,.mpt 1 0 4),(92,.mpt 1 0 2),(91,.mpt 1 0 0),(90,.mpt 1 0 0),(89,sA c.Ret),(88,.mpt 1 0 4),(87,.mpt 1 0 2),(86,.mpt 1 0 0),(85,.mpt 1 0 0),(84,.ipt 2 [[.isl 6 (map zd a.l),.imp (map (rKV (fun x=>iA x)) a.at_)]] 0 0),(83,bA (c.Ret == [86])),(82,bA (c.Ret == [86])),(81,sA c.Ret),(80,.mpt 1 0 4),(79,.mpt 1 0 2),(78,.mpt 1 0 0),(77,.mpt 1 0 0),(76,.mpt 1 0 0)] 1 kz kz y kz (zeo ⟨pe,(fun _=>pag (b:=(c.Ret == [86])) y y y y F y (pc (zdn a.l a.at_ c.Ret c.Ret q22) y y y<|w)),pe,pe,pe,pe,pe,pe,pe,pe,pe,pe,pe,pe,pe,pe,pe,pe,pe,pe,pe,t⟩ ⟨(fun _ _=>⟨_,y,y,sc [1,2,3] (args:=[.mpt 1 0 0,bA H]) (zv a.l a.at_ d c [] [] G H y) y y y y ⟨(.mpt y),(rnI y),t⟩ ⟨⟨_,y,(zwe y ⟨(.msl y),(.msl y),(rnI y),t⟩)⟩,⟨y,mkI (fun _=>y)⟩,⟨y,mkI (fun _=>y)⟩,t⟩<|⟨(.tup []),[],[(97,.tup [])],y,y,kz,y,zh3 ⟨(G||(!H)),h,zo [.old 0,.old 1,.old 2,.old 3]⟩⟩⟩),t⟩)
    ·
     rintro p h
     replace h:zdV d a c p=some r:=h
     unfold zdV at h
     obtain ⟨q,q23,h⟩:=bs h
     refine rg y<|u<|mv y<|u<|mv y<|u<|nc y y<|u<|fa ti y y y<|u<|fa ti y y y<|u<|ld ti y y<|u<|mf y y<|u<|pcs (zoX c.Params a.l a.at_ q23) y y (.cons (si y) (.cons (zh4 t ⟨(zcT y ⟨(si y),t⟩),t⟩) .nil)) zcn<|u<|sx [1,2,3] (zv a.l a.at_ d c [] [] p q y)<|zx (env0:=[(1,sA d),(9,.mpt 0 0 0)]) (st0:=[some (15,[(vK a.l a.at_ d c (.msl 1 0 0) (.msl 2 0 0) (bA (p||(!q))))]),some (1,map zf []),some (1,map zf [])]) (zo [.old 1,.old 2,.old 3])<|zb ?_
     refine zaX (X:=T1) (fun z=>[(9,.mpt 0 0 0)]) (fun z=>[some (15,[(vK a.l a.at_ d c (.msl 1 0 (length z)) (.msl 2 0 0) (bA (p||(!q))))]),some (1,map zf z),some (1,map zf [])]) (fun z=>zdW d a c p q z=some r) ?_ ?_
     ·
      refine rg y<|u<|mv y<|u<|nc y y<|u<|fa ti y y y<|u<|fa ti y y y<|u<|ld ti y y<|u<|nt y<|zb ?_
      refine ze y (fun J=>?_) (fun J=>?_)
      ·
       replace h:=bT J h
       obtain ⟨v25,q25,h⟩:=bs h
       exact rl y<|u<|mv y<|u<|mv y<|u<|nc y y<|u<|fa ti y y y<|u<|ld ti y y<|u<|mv y<|u<|bl 3 ti y ti y (by decide) (by decide) y y y<|u<|apM 4 ti y ti y y (by decide) ti y y y y (roX (f:=zf) (z:=[d]) y y) (fun _=>y) y q25<|u<|nc y y<|u<|fa ti y y y<|u<|sto ti y y y<|zb (⟨v25,h,zo [.old 0,.old 4,.old 2]⟩)
      ·
       replace h:=bF J h
       refine zg ?_
       exact ⟨[],h,zo [.old 0,.old 1,.old 2]⟩
     ·
      rintro v26 h
      replace h:zdW d a c p q v26=some r:=h
      unfold zdW at h
      obtain ⟨O,q26,h⟩:=bs h
      refine rdA [(9,.mpt 0 0 0)] [some (15,[(vK a.l a.at_ d c (.msl 1 0 (length O)) (.msl 2 0 0) (bA (p||(!q))))]),some (1,map zf O),some (1,map zf [])] [10,13] [9,8,7,6,5,4,3,2,1,0] [(132,.isl 1 (map zf c.Params)),(131,.mpt 0 0 3),(130,.mpt 0 0 2),(129,.mpt 0 0 0),(128,.mpt 0 0 0),(127,.msl 1 0 (length v26)),(126,.mpt 0 0 12),(125,.mpt 0 0 0),(124,.mpt 0 0 0),(123,.mpt 0 0 0)] 2 (zmt ⟨(fun _ _=>⟨_,y,y,apM 3 ti y ti y y (by decide) ti y y y y roI (fun _=>y) y q26<|⟨(.msl 3 0 (length O)),[12,11],[(135,.mpt 0 0 12),(134,.mpt 0 0 0),(133,.msl 3 0 (length O))],y,y,kz,y,zmt ⟨nv,(fun _ _=>⟨_,y,y,sto ti y y y<|⟨.any,[],[],y,y,kz,t,zh3 (zo [.old 0,.old 3,.old 2])⟩⟩),t⟩⟩⟩),nw,t⟩) ?_
      obtain ⟨o,ho,h⟩:=bs h
      refine zzM (X:=T1) (B:=T1) (R:=Bool) (fun z=>[(9,.mpt 0 0 0)]) (fun z=>[some (15,[(vK a.l a.at_ d c (.msl 1 0 (length z)) (.msl 2 0 0) (bA (p||(!q))))]),some (1,map zf z),some (1,map zf [])]) (fun b=>[(9,.mpt 0 0 0)]) (fun b=>[some (15,[(vK a.l a.at_ d c (.msl 1 0 (length b)) (.msl 2 0 0) (bA (p||(!q))))]),some (1,map zf b),some (1,map zf [])]) (fun r env st=>zaO Tryz.prog Tryz.f40 0 (bA r) [] env st) ho (zo [.old 0,.old 1,.old 2]) ?_ ?_ ?_
      ·
       rintro C r h
       replace h:zfy c C=some r:=h
       unfold zfy at h
       refine zi ?_
       refine rdA [(9,.mpt 0 0 0),(146,bA (decide (((length C):Int)<c.Locals)))] [some (15,[(vK a.l a.at_ d c (.msl 1 0 (length C)) (.msl 2 0 0) (bA (p||(!q))))]),some (1,map zf C),some (1,map zf [])] [] [10,9,8,7,6,5,4,3,2,1,0] [(146,bA (decide (((length C):Int)<c.Locals))),(145,iA c.Locals),(144,.mpt 0 0 7),(143,.mpt 0 0 2),(142,.mpt 0 0 0),(141,.mpt 0 0 0),(140,iA ((length C):Int)),(139,.msl 1 0 (length C)),(138,.mpt 0 0 12),(137,.mpt 0 0 0),(136,.mpt 0 0 0)] 0 (zhA ⟨pe,pe,pe,pe,pe,pe,(pb y (lnM ti y y y w)),pe,pe,pe,pe,t⟩ (zo [.old 0,.old 1,.old 2])) ?_
       refine ze y (fun K=>?_) (fun K=>?_)
       ·
        replace h:=bT K h
        refine zg ?_
        refine zs ?_
        obtain ⟨v31,q30,h⟩:=bs h
        refine rl y<|u<|mv y<|u<|mv y<|u<|nc y y<|u<|fa ti y y y<|u<|ld ti y y<|u<|bl 3 ti y ti y (by decide) (by decide) y y y<|u<|apM 4 ti y ti y y (by decide) ti y y y y (roX (f:=zf) (z:=[[84]]) y y) (fun _=>y) y q30<|u<|nc y y<|u<|fa ti y y y<|u<|sto ti y y y<|zb ?_
        obtain rfl:=sm h
        exact ⟨_,y,zo [.old 0,.old 4,.old 2]⟩
       ·
        replace h:=bF K h
        refine zE ?_
        obtain rfl:=sm h
        exact ⟨y,_,y,zo [.old 0,.old 1,.old 2]⟩
      ·
       rintro v32 rfl
       replace h:ziH d a c p q v32=some r:=h
       unfold ziH at h
       refine rg y<|u<|asg y<|zb ?_
       refine zi ?_
       refine rg y<|u<|mv y<|u<|nc y y<|u<|fa ti y y y<|u<|fa ti y y y<|u<|ld ti y y<|u<|lnI ti y y<|u<|mv y<|zb ?_
       obtain ⟨o,ho,h⟩:=bs h
       refine zY (X:=T1×T1×Bool×Bool×Int) (B:=T1×T1×Bool) (R:=Bool) (fun z=>[(9,.mpt 0 0 0),(13,bA z.2.2.2.1),(160,.isl 4 (map zu c.Code)),(161,iA (length c.Code:Int)),(162,iA z.2.2.2.2)]) (fun z=>[some (15,[(vK a.l a.at_ d c (.msl 1 0 (length z.1)) (.msl 2 0 (length z.2.1)) (bA z.2.2.1))]),some (1,map zf z.1),some (1,map zf z.2.1)]) (fun b=>[(9,.mpt 0 0 0)]) (fun b=>[some (15,[(vK a.l a.at_ d c (.msl 1 0 (length b.1)) (.msl 2 0 (length b.2.1)) (bA b.2.2))]),some (1,map zf b.1),some (1,map zf b.2.1)]) (fun r env st=>zaO Tryz.prog Tryz.f40 0 (bA r) [] env st) ho (zo [.old 0,.old 1,.old 2]) ?_ ?_ ?_
       ·
        rintro ⟨v44,v45,v46,v47,n⟩ r h
        replace h:zav d a c v44 v45 v46 v47 n=some r:=h
        unfold zav at h
        refine rg y<|u<|lss ti y y<|zb ?_
        refine zi ?_
        refine ze y (fun L=>?_) (fun L=>?_)
        ·
         replace h:=bT L h
         refine zg ?_
         refine zi ?_
         refine zs ?_
         obtain ⟨m,q40,h⟩:=bs h
         refine rg y<|u<|mv y<|u<|ixI ti y ti y y y q40<|u<|ldI ti y (zl q40).2.2 y<|u<|al 3 ti y<|u<|asg y<|u<|sto ti y y y<|zb ?_
         obtain ⟨i,q41,h⟩:=bs h
         refine rg y<|u<|mv y<|u<|mv y<|u<|mv y<|u<|sx [0,1,2] (zkX a.l a.at_ d c v44 v45 v46 n v47 q41)<|zx (env0:=[(9,.mpt 0 0 0),(14,iA n),(15,.mpt 3 0 0),(160,.isl 4 (map zu c.Code)),(161,iA (length c.Code:Int)),(162,iA n)]) (st0:=[some (15,[(vK a.l a.at_ d c (.msl 1 0 (length i.1)) (.msl 2 0 (length i.2.1)) (bA i.2.2))]),some (1,map zf i.1),some (1,map zf i.2.1),some (4,[(zu m)])]) (zo [.old 0,.old 4,.old 5,.old 3])<|zb ?_
         refine zi ?_
         refine rg y<|u<|mv y<|u<|nc y y<|u<|fa ti y y y<|u<|ld ti y y<|zb ?_
         refine ze y (fun M=>?_) (fun M=>?_)
         ·
          replace h:=bT M h
          refine rg y<|u<|asg y<|zb ?_
          refine zj ?_
          obtain rfl:=sm h
          exact ⟨_,y,_,y,zz []⟩
         ·
          replace h:=bF M h
          refine zg ?_
          obtain ⟨v51,q43,h⟩:=bs h
          refine rg y<|u<|mv y<|u<|mv y<|u<|sx [0,1,2] (zkZ a.l a.at_ d c i.1 i.2.1 i.2.2 n q43)<|zx (env0:=[(9,.mpt 0 0 0),(15,.mpt 3 0 0),(160,.isl 4 (map zu c.Code)),(161,iA (length c.Code:Int)),(162,iA n)]) (st0:=[some (15,[(vK a.l a.at_ d c (.msl 1 0 (length i.1)) (.msl 2 0 (length i.2.1)) (bA v51))]),some (1,map zf i.1),some (1,map zf i.2.1),some (4,[(zu m)])]) (zo [.old 0,.old 1,.old 2,.old 3])<|zb ?_
          obtain ⟨e,q44,h⟩:=bs h
          refine rg y<|u<|mv y<|u<|ld ti y y<|u<|sx [0,1,2] (zl1 a.l a.at_ d c i.1 i.2.1 v51 m q44)<|zx (env0:=[(9,.mpt 0 0 0),(15,.mpt 3 0 0),(160,.isl 4 (map zu c.Code)),(161,iA (length c.Code:Int)),(162,iA n)]) (st0:=[some (15,[(vK a.l a.at_ d c (.msl 1 0 (length e.1)) (.msl 2 0 (length e.2.1)) (bA e.2.2))]),some (1,map zf e.1),some (1,map zf e.2.1),some (4,[(zu m)])]) (zo [.old 0,.old 4,.old 5,.old 3])<|zb ?_
          refine zaX (X:=Bool) (fun z=>[(9,.mpt 0 0 0),(15,.mpt 3 0 0),(160,.isl 4 (map zu c.Code)),(161,iA (length c.Code:Int)),(162,iA n)]) (fun z=>[some (15,[(vK a.l a.at_ d c (.msl 1 0 (length e.1)) (.msl 2 0 (length e.2.1)) (bA z))]),some (1,map zf e.1),some (1,map zf e.2.1),some (4,[(zu m)])]) (fun z=>zdh c n m e z=some r) ?_ ?_
          ·
           refine rg y<|u<|fa ti y y y<|u<|ld ti y y<|u<|pc (zmZ m.Op y) y y y<|zb ?_
           refine ze y (fun N=>?_) (fun N=>?_)
           ·
            replace h:=bT N h
            obtain ⟨v53,q46,h⟩:=bs h
            refine zjw [(9,.mpt 0 0 0),(15,.mpt 3 0 0),(160,.isl 4 (map zu c.Code)),(161,iA (length c.Code:Int)),(162,iA n)] [some (15,[(vK a.l a.at_ d c (.msl 1 0 (length e.1)) (.msl 2 0 (length e.2.1)) (bA v53))]),some (1,map zf e.1),some (1,map zf e.2.1),some (4,[(zu m)])] [7] [6,5,4,3,2,1,0] [(190,.msl 2 0 (length e.2.1)),(189,.mpt 0 0 13),(188,.mpt 0 0 0),(187,.mpt 0 0 0),(186,iA m.A),(185,.mpt 3 0 1),(184,.mpt 0 0 0)] 1 (zmt ⟨(fun _ _=>⟨_,y,y,sx [0,1,2] (zh5 a.l a.at_ d c e.1 e.2.1 e.2.2 m.A q46)<|⟨(.tup []),[],[(191,.tup [])],y,y,kz,y,zh3 (zo [.old 0,.old 1,.old 2,.old 3])⟩⟩),t⟩) ?_
            exact ⟨v53,h,zo [.old 0,.old 1,.old 2,.old 3]⟩
           ·
            replace h:=bF N h
            refine zg ?_
            exact ⟨e.2.2,h,zo [.old 0,.old 1,.old 2,.old 3]⟩
          ·
           rintro V h
           replace h:zdh c n m e V=some r:=h
           unfold zdh at h
           refine rdA [(9,.mpt 0 0 0),(15,.mpt 3 0 0),(160,.isl 4 (map zu c.Code)),(161,iA (length c.Code:Int)),(162,iA n)] [some (15,[(vK a.l a.at_ d c (.msl 1 0 (length e.1)) (.msl 2 0 (length e.2.1)) (bA (V||(!(decide (((length e.2.1):Int)≤c.Stack))))))]),some (1,map zf e.1),some (1,map zf e.2.1),some (4,[(zu m)])] [12] [11,10,9,8,7,6,5,4,3,2,1,0] [(203,bA (decide (((length e.2.1):Int)≤c.Stack))),(202,iA c.Stack),(201,.mpt 0 0 8),(200,.mpt 0 0 2),(199,.mpt 0 0 0),(198,.mpt 0 0 0),(197,iA ((length e.2.1):Int)),(196,.msl 2 0 (length e.2.1)),(195,.mpt 0 0 13),(194,.mpt 0 0 0),(193,.mpt 0 0 0),(192,.mpt 0 0 0)] 1 (zeo ⟨pe,pe,pe,pe,pe,pe,(pb y (lnM ti y y y w)),pe,pe,pe,pe,pe,t⟩ ⟨(fun _ _=>⟨_,y,y,sx [0,1,2] (zv a.l a.at_ d c e.1 e.2.1 V (decide (((length e.2.1):Int)≤c.Stack)) y)<|⟨(.tup []),[],[(204,.tup [])],y,y,kz,y,zhA ⟨pe,pe,pe,pe,pe,pe,(pb y (lnM ti y y y w)),pe,pe,pe,pe,pe,t⟩ (zo [.old 0,.old 1,.old 2,.old 3])⟩⟩),t⟩) ?_
           refine rl y<|u<|fa ti y y y<|u<|ld ti y y<|u<|pc (zqR m.Op y) y y y<|u<|nt y<|u<|asg y<|zb ?_
           refine rl y<|u<|add ti y y<|u<|mv y<|zb ?_
           obtain rfl:=sm h
           exact ⟨_,y,zo [.old 0,.old 1,.old 2]⟩
        ·
         replace h:=bF L h
         refine zE ?_
         obtain rfl:=sm h
         exact ⟨y,_,y,zo [.old 0,.old 1,.old 2]⟩
       ·
        rintro ⟨v55,v56,v57⟩ rfl
        replace h:zgA v55 v56 v57=some r:=h
        unfold zgA at h
        refine zy ?_
        refine rg y<|u<|mv y<|u<|nc y y<|u<|fa ti y y y<|u<|ld ti y y<|u<|nt y<|u<|asg y<|zb ?_
        refine zj ?_
        obtain rfl:=sm h
        exact ⟨_,y,zz []⟩
       ·
        rintro r' rfl env st hp
        obtain rfl:=sm h
        exact hp
      ·
       rintro r' rfl env st hp
       obtain rfl:=sm h
       exact hp
   ·
    rintro r' rfl env st hp
    obtain rfl:=sm h
    exact hp
def zhd:Option (Bool):=
  (zkr ([(za.mk [70,97,99,101] [79,98,106,101,99,116] true [] [] ([(zc.mk [102] [] [73] false true 0 0 [] [] [])])),(za.mk [65,97] [79,98,106,101,99,116] false ([[70,97,99,101]]) ([(zt.mk [120] [73] false),(zt.mk [115] [73] true)]) ([(zc.mk [102] [] [73] false false 1 1 ([(zp.mk 1 5 [] []),(zp.mk 47 0 [] [])]) [] [])])),(za.mk [66,98] [65,97] false [] ([(zt.mk [121] [91,65,97] false)]) ([(zc.mk [109,97,105,110] [] [86] true false 0 0 ([(zp.mk 46 0 [] [])]) [] [])]))])).bind fun a=>(zkr ([(za.mk [70,97,99,101] [79,98,106,101,99,116] true [] [] ([(zc.mk [102] [] [73] false true 0 0 [] [] [])])),(za.mk [65,97] [79,98,106,101,99,116] false ([[70,97,99,101]]) ([(zt.mk [120] [73] false),(zt.mk [115] [73] true)]) ([(zc.mk [102] [] [73] false false 1 1 ([(zp.mk 2 0 [] []),(zp.mk 47 0 [] [])]) [] [])])),(za.mk [66,98] [65,97] false [] ([(zt.mk [121] [91,65,97] false)]) ([(zc.mk [109,97,105,110] [] [86] true false 0 0 ([(zp.mk 46 0 [] [])]) [] [])]))])).bind fun b=>cond ((!(a.2 == (0:Int)))||(!(b.2 == (0:Int)))) (some false) ((cond (zn8) ((zc3 a.1 [65,97] 0).bind fun h=>some h) (some false)).bind fun i=>(cond i ((zc3 a.1 [66,98] 0).bind fun j=>some j) (some false)).bind fun l=>(cond l ((zc3 b.1 [65,97] 0).bind fun m=>some (!m)) (some false)).bind fun n=>(cond n ((zc3 a.1 [70,97,99,101] 0).bind fun o=>some (!o)) (some false)).bind fun c=>(cond c ((zc3 a.1 [65,97] 1).bind fun d=>some (!d)) (some false)).bind fun e=>(cond e ((zc3 a.1 [90,122] 0).bind fun f=>some (!f)) (some false)).bind fun g=>some g)
theorem zik{r:Bool}(h:zhd=some r):zG Tryz.prog 37 [] (bA r):=by
 refine zr Tryz.func37 y kz y y ?_
 unfold zhd at h
 refine rg y<|u<|asg y<|zb ?_
 obtain ⟨f,G,h⟩:=bs h
 refine rg y<|u<|sx [] (zmU y)<|zx (env0:=[(7,.msl 0 0 3)]) (st0:=[some (6,[[sA [70,97,99,101],sA [79,98,106,101,99,116],bA true,.lit (.slice none 0 0),.lit (.slice none 0 0),.msl 1 0 1],[sA [65,97],sA [79,98,106,101,99,116],bA false,.msl 2 0 1,.msl 3 0 2,.msl 4 0 1],[sA [66,98],sA [65,97],bA false,.lit (.slice none 0 0),.msl 6 0 1,.msl 7 0 1]]),some (10,[[sA [102],.lit (.slice none 0 0),sA [73],bA false,bA true,iA 0,iA 0,.lit (.slice none 0 0),.lit (.slice none 0 0),.lit (.slice none 0 0)]]),some (1,[[sA [70,97,99,101]]]),some (3,[[sA [120],sA [73],bA false],[sA [115],sA [73],bA true]]),some (10,[[sA [102],.lit (.slice none 0 0),sA [73],bA false,bA false,iA 1,iA 1,.msl 5 0 2,.lit (.slice none 0 0),.lit (.slice none 0 0)]]),some (4,[[iA 1,iA 5,sA [],sA []],[iA 47,iA 0,sA [],sA []]]),some (3,[[sA [121],sA [91,65,97],bA false]]),some (10,[[sA [109,97,105,110],.lit (.slice none 0 0),sA [86],bA true,bA false,iA 0,iA 0,.msl 8 0 1,.lit (.slice none 0 0),.lit (.slice none 0 0)]]),some (4,[[iA 46,iA 0,sA [],sA []]])]) (zo [.old 0,.old 1,.old 2,.old 3,.old 4,.old 5,.old 6,.old 7,.old 8])<|zx (env0:=[(7,.isl 6 (map zd ([(za.mk [70,97,99,101] [79,98,106,101,99,116] true [] [] ([(zc.mk [102] [] [73] false true 0 0 [] [] [])])),(za.mk [65,97] [79,98,106,101,99,116] false ([[70,97,99,101]]) ([(zt.mk [120] [73] false),(zt.mk [115] [73] true)]) ([(zc.mk [102] [] [73] false false 1 1 ([(zp.mk 1 5 [] []),(zp.mk 47 0 [] [])]) [] [])])),(za.mk [66,98] [65,97] false [] ([(zt.mk [121] [91,65,97] false)]) ([(zc.mk [109,97,105,110] [] [86] true false 0 0 ([(zp.mk 46 0 [] [])]) [] [])]))])))]) (st0:=[]) (zo [])<|u<|pc (zmK ([(za.mk [70,97,99,101] [79,98,106,101,99,116] true [] [] ([(zc.mk [102] [] [73] false true 0 0 [] [] [])])),(za.mk [65,97] [79,98,106,101,99,116] false ([[70,97,99,101]]) ([(zt.mk [120] [73] false),(zt.mk [115] [73] true)]) ([(zc.mk [102] [] [73] false false 1 1 ([(zp.mk 1 5 [] []),(zp.mk 47 0 [] [])]) [] [])])),(za.mk [66,98] [65,97] false [] ([(zt.mk [121] [91,65,97] false)]) ([(zc.mk [109,97,105,110] [] [86] true false 0 0 ([(zp.mk 46 0 [] [])]) [] [])]))]) G) y y y<|u<|mv y<|u<|ex y y<|u<|ex y y<|u<|asg y<|u<|asg y<|zb ?_
 refine rg y<|u<|sx [] (zmU y)<|zx (env0:=[(1,zlf 2 zeT f.1),(2,iA f.2),(11,.msl 0 0 3)]) (st0:=[some (6,[[sA [70,97,99,101],sA [79,98,106,101,99,116],bA true,.lit (.slice none 0 0),.lit (.slice none 0 0),.msl 1 0 1],[sA [65,97],sA [79,98,106,101,99,116],bA false,.msl 2 0 1,.msl 3 0 2,.msl 4 0 1],[sA [66,98],sA [65,97],bA false,.lit (.slice none 0 0),.msl 6 0 1,.msl 7 0 1]]),some (10,[[sA [102],.lit (.slice none 0 0),sA [73],bA false,bA true,iA 0,iA 0,.lit (.slice none 0 0),.lit (.slice none 0 0),.lit (.slice none 0 0)]]),some (1,[[sA [70,97,99,101]]]),some (3,[[sA [120],sA [73],bA false],[sA [115],sA [73],bA true]]),some (10,[[sA [102],.lit (.slice none 0 0),sA [73],bA false,bA false,iA 1,iA 1,.msl 5 0 2,.lit (.slice none 0 0),.lit (.slice none 0 0)]]),some (4,[[iA 1,iA 5,sA [],sA []],[iA 47,iA 0,sA [],sA []]]),some (3,[[sA [121],sA [91,65,97],bA false]]),some (10,[[sA [109,97,105,110],.lit (.slice none 0 0),sA [86],bA true,bA false,iA 0,iA 0,.msl 8 0 1,.lit (.slice none 0 0),.lit (.slice none 0 0)]]),some (4,[[iA 46,iA 0,sA [],sA []]])]) (zo [.old 0,.old 1,.old 2,.old 3,.old 4,.old 5,.old 6,.old 7,.old 8])<|u<|asg y<|zb ?_
 refine rg y<|u<|mv y<|u<|ixX ti y ti y y y<|u<|fa ti y y y<|u<|ld ti y y<|u<|ixX ti y ti y y y<|u<|fa ti y y y<|u<|ld ti y y<|u<|bd ti y y y<|u<|ixX ti y ti y y y<|u<|sto ti y y y<|zb ?_
 obtain ⟨H,I,h⟩:=bs h
 refine rg y<|u<|mv y<|zx (env0:=[(1,zlf 2 zeT f.1),(2,iA f.2),(22,.isl 6 (map zd ([(za.mk [70,97,99,101] [79,98,106,101,99,116] true [] [] ([(zc.mk [102] [] [73] false true 0 0 [] [] [])])),(za.mk [65,97] [79,98,106,101,99,116] false ([[70,97,99,101]]) ([(zt.mk [120] [73] false),(zt.mk [115] [73] true)]) ([(zc.mk [102] [] [73] false false 1 1 ([(zp.mk 2 0 [] []),(zp.mk 47 0 [] [])]) [] [])])),(za.mk [66,98] [65,97] false [] ([(zt.mk [121] [91,65,97] false)]) ([(zc.mk [109,97,105,110] [] [86] true false 0 0 ([(zp.mk 46 0 [] [])]) [] [])]))])))]) (st0:=[]) (zo [])<|u<|pc (zmK ([(za.mk [70,97,99,101] [79,98,106,101,99,116] true [] [] ([(zc.mk [102] [] [73] false true 0 0 [] [] [])])),(za.mk [65,97] [79,98,106,101,99,116] false ([[70,97,99,101]]) ([(zt.mk [120] [73] false),(zt.mk [115] [73] true)]) ([(zc.mk [102] [] [73] false false 1 1 ([(zp.mk 2 0 [] []),(zp.mk 47 0 [] [])]) [] [])])),(za.mk [66,98] [65,97] false [] ([(zt.mk [121] [91,65,97] false)]) ([(zc.mk [109,97,105,110] [] [86] true false 0 0 ([(zp.mk 46 0 [] [])]) [] [])]))]) I) y y y<|u<|mv y<|u<|ex y y<|u<|ex y y<|u<|asg y<|u<|asg y<|zb ?_
 refine zi ?_
 refine rg y<|u<|mv y<|u<|neq ti y y<|u<|mv y<|zcU (j:=2) 2 y y y y y gpn (fun p=>g y p<|mv y<|g y p<|neq ti y y<|zb (egO [29,30] 2 p y y y y)) orT<|zb ?_
 refine ze y (fun q=>?_) (fun q=>?_)
 ·
  replace h:=bT q h
  refine rg y<|u<|asg y<|zb ?_
  refine zj ?_
  obtain rfl:=sm h
  exact ⟨_,y,zz []⟩
 ·
  replace h:=bF q h
  refine zg ?_
  obtain ⟨J,o,h⟩:=bs h
  obtain ⟨K,a,h⟩:=bs h
  obtain ⟨L,b,h⟩:=bs h
  obtain ⟨z,c,h⟩:=bs h
  obtain ⟨A,d,h⟩:=bs h
  obtain ⟨B,e,h⟩:=bs h
  refine rg y<|u<|pc (zrq y) y y y<|u<|mv y<|z7 (x:=J) (j:=1) 2 y y y y y gpn (fun s=>by replace o:=bT s o;obtain ⟨Q,M,o⟩:=bs o;obtain rfl:=sm o;exact g y s<|mv y<|g y s<|pc (zdX f.1 [65,97] 0 M) y y (zyF (zuD (fun _=>y)) (y))<|zb (eg [34,35] 2 y y y y)) (fun hb=>(sm (bF hb o)).symm)<|u<|mv y<|z7 (x:=K) (j:=5) 2 y y y y y gpn (fun v=>by replace a:=bT v a;obtain ⟨R,N,a⟩:=bs a;obtain rfl:=sm a;exact g y v<|mv y<|g y v<|pc (zdX f.1 [66,98] 0 N) y y (zyF (zuD (fun _=>y)) (y))<|zb (eg [38,39] 2 y y y y)) (fun hb=>(sm (bF hb a)).symm)<|u<|mv y<|z7 (x:=L) (j:=9) 3 y y y y y gpn (fun i=>by replace b:=bT i b;obtain ⟨S,C,b⟩:=bs b;obtain rfl:=sm b;exact g y i<|mv y<|g y i<|pc (zdX H.1 [65,97] 0 C) y y (zyF (zuD (fun _=>y)) (y))<|g y i<|nt y<|zb (eg [42,43,44] 3 y y y y)) (fun hb=>(sm (bF hb b)).symm)<|u<|mv y<|z7 (x:=z) (j:=14) 3 y y y y y gpn (fun l=>by replace c:=bT l c;obtain ⟨T,D,c⟩:=bs c;obtain rfl:=sm c;exact g y l<|mv y<|g y l<|pc (zdX f.1 [70,97,99,101] 0 D) y y (zyF (zuD (fun _=>y)) (y))<|g y l<|nt y<|zb (eg [47,48,49] 3 y y y y)) (fun hb=>(sm (bF hb c)).symm)<|u<|mv y<|z7 (x:=A) (j:=19) 3 y y y y y gpn (fun m=>by replace d:=bT m d;obtain ⟨O,E,d⟩:=bs d;obtain rfl:=sm d;exact g y m<|mv y<|g y m<|pc (zdX f.1 [65,97] 1 E) y y (zyF (zuD (fun _=>y)) (y))<|g y m<|nt y<|zb (eg [52,53,54] 3 y y y y)) (fun hb=>(sm (bF hb d)).symm)<|u<|mv y<|z7 (x:=B) (j:=24) 3 y y y y y gpn (fun n=>by replace e:=bT n e;obtain ⟨P,F,e⟩:=bs e;obtain rfl:=sm e;exact g y n<|mv y<|g y n<|pc (zdX f.1 [90,122] 0 F) y y (zyF (zuD (fun _=>y)) (y))<|g y n<|nt y<|zb (eg [57,58,59] 3 y y y y)) (fun hb=>(sm (bF hb e)).symm)<|u<|asg y<|zb ?_
  refine zj ?_
  obtain rfl:=sm h
  exact ⟨_,y,zz []⟩
def zis(a:T1)(b:T0)(c:Int)(d:Int)(e:List zp)(f:List z8)(g:List zaF):Option ((List zc)):=
  (zh2 152 ([(zc.mk [109,97,105,110] [] [86] true false 0 0 ([(zp.mk 46 0 [] [])]) [] [])]) ([(zc.mk [103] a b false false c d e f g)])).bind fun h=>some h
theorem zlx(a:T1)(b:T0)(c:Int)(d:Int)(e:List zp)(f:List z8)(g:List zaF){r:(List zc)}(h:zis a b c d e f g=some r):SC Tryz.prog 39 [.isl 1 (map zf a),sA b,iA c,iA d,.isl 4 (map zu e),.isl 3 (map zL f),.isl 4 (map za9 g)] [] (.msl 0 0 3) [.xs 6 [[sA [70,97,99,101],sA [79,98,106,101,99,116],bA true,.lit (.slice none 0 0),.lit (.slice none 0 0),.msl 1 0 1],[sA [65,97],sA [79,98,106,101,99,116],bA false,.msl 2 0 1,.msl 3 0 2,.msl 4 0 1],[sA [66,98],sA [65,97],bA false,.lit (.slice none 0 0),.msl 6 0 1,.msl 7 0 (length r)]],.xs 10 [[sA [102],.lit (.slice none 0 0),sA [73],bA false,bA true,iA 0,iA 0,.lit (.slice none 0 0),.lit (.slice none 0 0),.lit (.slice none 0 0)]],.xs 1 [[sA [70,97,99,101]]],.xs 3 [[sA [120],sA [73],bA false],[sA [115],sA [73],bA true]],.xs 10 [[sA [102],.lit (.slice none 0 0),sA [73],bA false,bA false,iA 1,iA 1,.msl 5 0 2,.lit (.slice none 0 0),.lit (.slice none 0 0)]],.xs 4 [[iA 1,iA 5,sA [],sA []],[iA 47,iA 0,sA [],sA []]],.xs 3 [[sA [121],sA [91,65,97],bA false]],.many 10 (map zh r)]:=by
 refine ⟨⟨t,t,t,t,t,t,t,zh0 (sz:=10) (fun _=>y),t⟩,zV Tryz.func39 y kz y ?_⟩
 unfold zis at h
 refine rg y<|u<|asg y<|zb ?_
 refine rg y<|u<|sx [] (zmU y)<|zx (env0:=[(0,.isl 1 (map zf a)),(1,sA b),(2,iA c),(3,iA d),(4,.isl 4 (map zu e)),(5,.isl 3 (map zL f)),(6,.isl 4 (map za9 g)),(16,.msl 0 0 3)]) (st0:=[some (6,[[sA [70,97,99,101],sA [79,98,106,101,99,116],bA true,.lit (.slice none 0 0),.lit (.slice none 0 0),.msl 1 0 1],[sA [65,97],sA [79,98,106,101,99,116],bA false,.msl 2 0 1,.msl 3 0 2,.msl 4 0 1],[sA [66,98],sA [65,97],bA false,.lit (.slice none 0 0),.msl 6 0 1,.msl 7 0 1]]),some (10,[[sA [102],.lit (.slice none 0 0),sA [73],bA false,bA true,iA 0,iA 0,.lit (.slice none 0 0),.lit (.slice none 0 0),.lit (.slice none 0 0)]]),some (1,[[sA [70,97,99,101]]]),some (3,[[sA [120],sA [73],bA false],[sA [115],sA [73],bA true]]),some (10,[[sA [102],.lit (.slice none 0 0),sA [73],bA false,bA false,iA 1,iA 1,.msl 5 0 2,.lit (.slice none 0 0),.lit (.slice none 0 0)]]),some (4,[[iA 1,iA 5,sA [],sA []],[iA 47,iA 0,sA [],sA []]]),some (3,[[sA [121],sA [91,65,97],bA false]]),some (10,[[sA [109,97,105,110],.lit (.slice none 0 0),sA [86],bA true,bA false,iA 0,iA 0,.msl 8 0 1,.lit (.slice none 0 0),.lit (.slice none 0 0)]]),some (4,[[iA 46,iA 0,sA [],sA []]])]) (zo [.old 0,.old 1,.old 2,.old 3,.old 4,.old 5,.old 6,.old 7,.old 8])<|u<|asg y<|zb ?_
 obtain ⟨j,i,h⟩:=bs h
 refine rg y<|u<|mv y<|u<|mv y<|u<|ixX ti y ti y y y<|u<|fa ti y y y<|u<|ld ti y y<|u<|mv y<|u<|mv y<|u<|mv y<|u<|mv y<|u<|mv y<|u<|mv y<|u<|mv y<|u<|bd (parts:=[(0,sA [103]),(1,.isl 1 (map zf a)),(2,sA b),(5,iA c),(6,iA d),(7,.isl 4 (map zu e)),(8,.isl 3 (map zL f)),(9,.isl 4 (map za9 g))]) (cs:=[sA [103],.isl 1 (map zf a),sA b,bA false,bA false,iA c,iA d,.isl 4 (map zu e),.isl 3 (map zL f),.isl 4 (map za9 g)]) ti y y kz<|u<|bl 9 ti y ti y (by decide) (by decide) y y y<|zx (env0:=[(15,.msl 0 0 3),(17,.msl 0 0 3),(21,.msl 7 0 (length ([(zc.mk [109,97,105,110] [] [86] true false 0 0 ([(zp.mk 46 0 [] [])]) [] [])]))),(30,.msl 8 0 (length ([(zc.mk [103] a b false false c d e f g)])))]) (st0:=[some (6,[[sA [70,97,99,101],sA [79,98,106,101,99,116],bA true,.lit (.slice none 0 0),.lit (.slice none 0 0),.msl 1 0 1],[sA [65,97],sA [79,98,106,101,99,116],bA false,.msl 2 0 1,.msl 3 0 2,.msl 4 0 1],[sA [66,98],sA [65,97],bA false,.lit (.slice none 0 0),.msl 6 0 1,.msl 7 0 (length ([(zc.mk [109,97,105,110] [] [86] true false 0 0 ([(zp.mk 46 0 [] [])]) [] [])]))]]),some (10,[[sA [102],.lit (.slice none 0 0),sA [73],bA false,bA true,iA 0,iA 0,.lit (.slice none 0 0),.lit (.slice none 0 0),.lit (.slice none 0 0)]]),some (1,[[sA [70,97,99,101]]]),some (3,[[sA [120],sA [73],bA false],[sA [115],sA [73],bA true]]),some (10,[[sA [102],.lit (.slice none 0 0),sA [73],bA false,bA false,iA 1,iA 1,.msl 5 0 2,.lit (.slice none 0 0),.lit (.slice none 0 0)]]),some (4,[[iA 1,iA 5,sA [],sA []],[iA 47,iA 0,sA [],sA []]]),some (3,[[sA [121],sA [91,65,97],bA false]]),some (10,map zh ([(zc.mk [109,97,105,110] [] [86] true false 0 0 ([(zp.mk 46 0 [] [])]) [] [])])),some (10,map zh ([(zc.mk [103] a b false false c d e f g)]))]) (zo [.old 0,.old 1,.old 2,.old 3,.old 4,.old 5,.old 6,.old 7,.old 9])<|u<|apM 9 ti y ti y y (by decide) ti y y y y (roM y) (fun _=>y) y i<|u<|ixX ti y ti y y y<|u<|fa ti y y y<|u<|sto ti y y y<|zb ?_
 refine rg y<|u<|mv y<|u<|asg y<|zb ?_
 refine zj ?_
 obtain rfl:=sm h
 exact ⟨_,y,zz [.old 0,.old 1,.old 2,.old 3,.old 4,.old 5,.old 6,.old 9]⟩
def rK(h0:List za)(c:T0)(m:zc)(x0:AV)(x1:AV)(x2:AV):List AV:=[.ipt 1 [[.isl 6 (map zd h0)]] 0 0,sA c,sA m.Name,.isl 1 (map zf m.Params),sA m.Ret,bA m.Static,bA m.Abstract,iA m.Locals,iA m.Stack,.isl 4 (map zu m.Code),.isl 3 (map zL m.Maps),.isl 4 (map za9 m.Traps),x0,x1,x2]
structure zhB where
  locals:T1
  stack:T1
def zvX(x:zhB):List AV:=[.isl 1 (map zf x.locals),.isl 1 (map zf x.stack)]
def zlM(a:T0)(b:Int):Option (T0×Int):=
  some (a,b)
def zfa(a:T0)(b:Int):Option (Sum (T0×Int) (Sum (T0×Int) (T0×Int))):=
  (cond (decide (0<(length a:Int))) ((idx a 0).bind fun e=>some ((e.toNat:Int) == (91:Int))) (some false)).bind fun c=>cond c ((zkh a 1 (length a:Int)).bind fun d=>some (.inl (d,(IntKind.i64.wrap (b+1))))) (some (.inr (.inl (a,b))))
def zix(a:T0):Option (T0×Int):=
  (zw (fun z=>zfa z.1 z.2) (a,0)).bind fun o=>zU o (fun b=>zlM b.1 b.2) some
theorem zlN(i:T0){r:T0×Int}(h:zix i=some r):zG Tryz.prog 200 [sA i] (.tup [sA r.1,iA r.2]):=by
 refine zr Tryz.func200 y kz y y ?_
 unfold zix at h
 refine rg y<|u<|asg y<|u<|asg y<|zb ?_
 refine rg y<|u<|asg y<|zb ?_
 obtain ⟨o,ho,h⟩:=bs h
 refine zzM (X:=T0×Int) (B:=T0×Int) (R:=T0×Int) (fun z=>[(0,sA z.1),(4,iA z.2)]) (fun z=>[]) (fun b=>[(0,sA b.1),(4,iA b.2)]) (fun b=>[]) (fun r env st=>zaO Tryz.prog Tryz.f200 0 (.tup [sA r.1,iA r.2]) [] env st) ho (zo []) ?_ ?_ ?_
 ·
  rintro ⟨l,q⟩ r h
  replace h:zfa l q=some r:=h
  unfold zfa at h
  refine zi ?_
  obtain ⟨m,d,h⟩:=bs h
  refine rg y<|u<|mv y<|u<|lnS ti y y<|u<|gtr ti y y<|u<|mv y<|z7 (x:=m) (j:=3) 3 y y y y y gpn (fun c=>by replace d:=bT c d;obtain ⟨A,s,d⟩:=bs d;obtain rfl:=sm d;exact g y c<|mv y<|g y c<|ixS ti y y y s<|g y c<|eql ti y y<|zb (eg [9,10,11] 3 y y y y)) (fun hb=>(sm (bF hb d)).symm)<|zb ?_
  refine ze y (fun e=>?_) (fun e=>?_)
  ·
   replace h:=bT e h
   refine zg ?_
   refine zs ?_
   obtain ⟨v,f,h⟩:=bs h
   refine rg y<|u<|mv y<|u<|slS (a:=1) (b:=(length l:Int)) ti y y (zmn y f) y f<|u<|asg y<|zb ?_
   refine rl y<|u<|mv y<|u<|add ti y y<|u<|asg y<|zb ?_
   obtain rfl:=sm h
   exact ⟨_,y,zo []⟩
  ·
   replace h:=bF e h
   refine zE ?_
   obtain rfl:=sm h
   exact ⟨y,_,y,zo []⟩
 ·
  rintro ⟨n,p⟩ rfl
  replace h:zlM n p=some r:=h
  unfold zlM at h
  refine rg y<|u<|mv y<|u<|mv y<|u<|asg y<|u<|asg y<|zb ?_
  refine zj ?_
  obtain rfl:=sm h
  exact ⟨_,y,zz []⟩
 ·
  rintro r' rfl env st hp
  obtain rfl:=sm h
  exact hp
def z1(c:List za)(a:T0):Option (Bool):=
  (zfe a).bind fun d=>cond (!d) (some false) ((zix a).bind fun b=>(cond (b.1 == [73]) (some true) ((zaD c b.1).bind fun e=>some (decide (0≤e)))).bind fun f=>some f)
theorem zab(e:List za)(d:T0){r:Bool}(h:z1 e d=some r):zG Tryz.prog 125 [.ipt 1 [[.isl 6 (map zd e)]] 0 0,sA d] (bA r):=by
 refine zr Tryz.func125 y kz y y ?_
 unfold z1 at h
 refine rg y<|u<|asg y<|zb ?_
 refine zi ?_
 obtain ⟨o,f,h⟩:=bs h
 refine rg y<|u<|mv y<|u<|pc (zee d f) y y y<|u<|nt y<|zb ?_
 refine ze y (fun c=>?_) (fun c=>?_)
 ·
  replace h:=bT c h
  refine rg y<|u<|asg y<|zb ?_
  refine zj ?_
  obtain rfl:=sm h
  exact ⟨_,y,zz []⟩
 ·
  replace h:=bF c h
  refine zg ?_
  obtain ⟨i,l,h⟩:=bs h
  refine rg y<|u<|mv y<|u<|pc (zlN d l) y y y<|u<|mv y<|u<|ex y y<|u<|ex y y<|u<|asg y<|u<|asg y<|zb ?_
  obtain ⟨m,b,h⟩:=bs h
  refine rg y<|u<|mv y<|u<|seq ti y y<|u<|mv y<|zcU (x:=m) (j:=2) 4 y y y y y gpn (fun a=>by replace b:=bF a b;obtain ⟨p,n,b⟩:=bs b;obtain rfl:=sm b;exact g y a<|mv y<|g y a<|mv y<|g y a<|pc (zW e i.1 n) y y y<|g y a<|geq ti y y<|zb (eg [18,19,20,21] 4 y y y y)) (fun hb=>(sm (bT hb b)).symm)<|u<|asg y<|zb ?_
  refine zj ?_
  obtain rfl:=sm h
  exact ⟨_,y,zz []⟩
def zj9(a:List za)(b:T0)(c:zc)(d:Bool)(e:Bool):Unit:=
  ()
theorem zgF(b:List za)(c:T0)(d:zc)(e:Bool)(f:Bool){r:Unit}(h:zj9 b c d e f=r):SC Tryz.prog 124 [.mpt 0 0 0,bA f] [.one 15 (rK b c d (.lit (.slice none 0 0)) (.lit (.slice none 0 0)) (bA e))] (.tup []) [.one 15 (rK b c d (.lit (.slice none 0 0)) (.lit (.slice none 0 0)) (bA (e||(!f))))]:=by
 refine ⟨⟨t,t⟩,zV Tryz.func124 y kz y ?_⟩
 unfold zj9 at h
 refine rl y<|u<|mv y<|u<|mv y<|u<|nc y y<|u<|fa ti y y y<|u<|ld ti y y<|u<|mv y<|zcU (j:=5) 2 y y y y y gpn (fun a=>g y a<|mv y<|g y a<|nt y<|zb (egO [10,11] 2 a y y y y)) orT<|u<|nc y y<|u<|fa ti y y y<|u<|sto ti y y y<|zb ?_
 obtain rfl:=h
 exact ⟨_,y,zz [.old 0]⟩
def zf9(a:T1):Option (T1):=
  some a
def zdJ(c:zc)(a:T1):Option (Sum (T1) (Sum (T1) (T1))):=
  cond (decide (((length a):Int)<c.Locals)) ((zh2 16 a ([[84]])).bind fun b=>some (.inl b)) (some (.inr (.inl a)))
def zcg(a:zc)(c:T1):Option (T1):=
  (zh2 16 c a.Params).bind fun d=>(zw (fun z=>zdJ a z) d).bind fun o=>zU o (fun b=>zf9 b) some
def zeD(e:List za)(c:T0)(a:zc)(b:T1)(f:T1)(g:Bool):Option (T1):=
  cond (!a.Static) ((zh2 16 b [c]).bind fun d=>zcg a d) (zcg a b)
theorem zlO(g:List za)(d:T0)(c:zc)(j:T1)(a:T1)(i:Bool){r:T1}(h:zeD g d c j a i=some r):SC Tryz.prog 126 [.mpt 0 0 0] [.one 15 (rK g d c (.msl 1 0 (length j)) (.msl 2 0 (length a)) (bA i)),.many 1 (map zf j),.many 1 (map zf a)] (.tup []) [.one 15 (rK g d c (.msl 3 0 (length r)) (.msl 2 0 (length a)) (bA i)),.no,.many 1 (map zf a),.many 1 (map zf r)]:=by
 refine ⟨⟨t,t,zh0 (sz:=1) (fun _=>y),zh0 (sz:=1) (fun _=>y),t⟩,zV Tryz.func126 y kz y ?_⟩
 unfold zeD at h
 refine zaX (X:=T1) (fun z=>[(0,.mpt 0 0 0)]) (fun z=>[some (15,[(rK g d c (.msl 3 0 (length z)) (.msl 2 0 (length a)) (bA i))]),none,some (1,map zf a),some (1,map zf z)]) (fun z=>zcg c z=some r) ?_ ?_
 ·
  refine rg y<|u<|mv y<|u<|nc y y<|u<|fa ti y y y<|u<|fa ti y y y<|u<|ld ti y y<|u<|nt y<|zb ?_
  refine ze y (fun l=>?_) (fun l=>?_)
  ·
   replace h:=bT l h
   obtain ⟨m,v,h⟩:=bs h
   refine zjw [(0,.mpt 0 0 0)] [some (15,[(rK g d c (.msl 3 0 (length m)) (.msl 2 0 (length a)) (bA i))]),none,some (1,map zf a),some (1,map zf m)] [10,11,15] [9,8,7,6,5,4,3,2,1,0] [(17,sA d),(16,.mpt 0 0 1),(15,.mpt 0 0 0),(14,.mpt 0 0 0),(13,.msl 1 0 (length j)),(12,.mpt 0 0 12),(11,.mpt 0 0 12),(10,.mpt 0 0 0),(9,.mpt 0 0 0),(8,.mpt 0 0 0)] 3 (zmt ⟨(fun _ _=>⟨_,y,y,bl 3 ti y ti y (by decide) (by decide) y y y<|⟨(.msl 3 0 1),[],[(18,.msl 3 0 1)],y,y,kz,y,zmt ⟨nv,(fun _ _=>⟨_,y,y,apM 4 ti y ti y y (by decide) ti y y y y (roX (f:=zf) (z:=[d]) y y) (fun _=>y) y v<|⟨(.msl 4 0 (length m)),[14,13,12],[(22,.mpt 0 0 12),(21,.mpt 0 0 12),(20,.mpt 0 0 0),(19,.msl 4 0 (length m))],y,y,kz,y,zmt ⟨nv,nv,(fun _ _=>⟨_,y,y,sto ti y y y<|⟨.any,[],[],y,y,kz,t,zh3 (zo [.old 0,.dead,.old 2,.old 4])⟩⟩),t⟩⟩⟩),nw,t⟩⟩⟩),nw,nw,t⟩) ?_
   exact ⟨m,h,zo [.old 0,.dead,.old 2,.old 3]⟩
  ·
   replace h:=bF l h
   refine zg ?_
   exact ⟨j,h,zo [.old 0,.dead,.old 2,.old 1]⟩
 ·
  rintro q h
  replace h:zcg c q=some r:=h
  unfold zcg at h
  obtain ⟨p,x,h⟩:=bs h
  refine rdA [(0,.mpt 0 0 0)] [some (15,[(rK g d c (.msl 3 0 (length p)) (.msl 2 0 (length a)) (bA i))]),none,some (1,map zf a),some (1,map zf p)] [11,15] [10,9,8,7,6,5,4,3,2,1,0] [(33,.isl 1 (map zf c.Params)),(32,.mpt 0 0 3),(31,.mpt 0 0 2),(30,.mpt 0 0 0),(29,.mpt 0 0 0),(28,.msl 3 0 (length q)),(27,.mpt 0 0 12),(26,.mpt 0 0 12),(25,.mpt 0 0 0),(24,.mpt 0 0 0),(23,.mpt 0 0 0)] 2 (zmt ⟨(fun _ _=>⟨_,y,y,apM 4 ti y ti y y (by decide) ti y y y y roI (fun _=>y) y x<|⟨(.msl 4 0 (length p)),[14,13,12],[(37,.mpt 0 0 12),(36,.mpt 0 0 12),(35,.mpt 0 0 0),(34,.msl 4 0 (length p))],y,y,kz,y,zmt ⟨nv,(fun _ _=>⟨_,y,y,sto ti y y y<|⟨.any,[],[],y,y,kz,t,zh3 (zo [.old 0,.dead,.old 2,.old 4])⟩⟩),t⟩⟩⟩),nw,t⟩) ?_
  obtain ⟨o,ho,h⟩:=bs h
  refine zY (X:=T1) (B:=T1) (R:=T1) (fun z=>[(0,.mpt 0 0 0)]) (fun z=>[some (15,[(rK g d c (.msl 3 0 (length z)) (.msl 2 0 (length a)) (bA i))]),none,some (1,map zf a),some (1,map zf z)]) (fun b=>[]) (fun b=>[some (15,[(rK g d c (.msl 3 0 (length b)) (.msl 2 0 (length a)) (bA i))]),none,some (1,map zf a),some (1,map zf b)]) (fun r env st=>zaO Tryz.prog Tryz.f126 3 (.tup []) [some (15,[(rK g d c (.msl 3 0 (length r)) (.msl 2 0 (length a)) (bA i))]),none,some (1,map zf a),some (1,map zf r)] env st) ho (zo [.old 0,.dead,.old 2,.old 3]) ?_ ?_ ?_
  ·
   rintro e r h
   replace h:zdJ c e=some r:=h
   unfold zdJ at h
   refine zi ?_
   refine rdA [(0,.mpt 0 0 0),(49,bA (decide (((length e):Int)<c.Locals)))] [some (15,[(rK g d c (.msl 3 0 (length e)) (.msl 2 0 (length a)) (bA i))]),none,some (1,map zf a),some (1,map zf e)] [] [11,10,9,8,7,6,5,4,3,2,1,0] [(49,bA (decide (((length e):Int)<c.Locals))),(48,iA c.Locals),(47,.mpt 0 0 7),(46,.mpt 0 0 2),(45,.mpt 0 0 0),(44,.mpt 0 0 0),(43,iA ((length e):Int)),(42,.msl 3 0 (length e)),(41,.mpt 0 0 12),(40,.mpt 0 0 12),(39,.mpt 0 0 0),(38,.mpt 0 0 0)] 0 (zhA ⟨pe,pe,pe,pe,pe,pe,(pb y (lnM ti y y y w)),pe,pe,pe,pe,pe,t⟩ (zo [.old 0,.dead,.old 2,.old 3])) ?_
   refine ze y (fun n=>?_) (fun n=>?_)
   ·
    replace h:=bT n h
    refine zg ?_
    refine zs ?_
    obtain ⟨C,A,h⟩:=bs h
    refine rl y<|u<|mv y<|u<|mv y<|u<|nc y y<|u<|fa ti y y y<|u<|fa ti y y y<|u<|ld ti y y<|u<|bl 4 ti y ti y (by decide) (by decide) y y y<|u<|apM 5 ti y ti y y (by decide) ti y y y y (roX (f:=zf) (z:=[[84]]) y y) (fun _=>y) y A<|u<|nc y y<|u<|fa ti y y y<|u<|fa ti y y y<|u<|sto ti y y y<|zb ?_
    obtain rfl:=sm h
    exact ⟨_,y,zo [.old 0,.dead,.old 2,.old 5]⟩
   ·
    replace h:=bF n h
    refine zE ?_
    obtain rfl:=sm h
    exact ⟨y,_,y,zo [.old 0,.dead,.old 2,.old 3]⟩
  ·
   rintro s rfl
   replace h:zf9 s=some r:=h
   unfold zf9 at h
   refine zy ?_
   obtain rfl:=sm h
   exact ⟨_,y,zz [.old 0,.dead,.old 2,.old 3]⟩
  ·
   rintro r' rfl env st hp
   obtain rfl:=sm h
   exact hp
def zga:Option (z8×Bool):=
  some ((z8.mk 0 [] []),false)
def zbx(b:zc)(e:Int)(a:Int):Option (Sum (Int) (Sum (Unit) (z8×Bool))):=
  cond (decide (a<(length b.Maps:Int))) ((idx b.Maps a).bind fun c=>cond (c.At == e) ((idx b.Maps a).bind fun d=>some (.inr (.inr (d,true)))) (some (.inl (IntKind.i64.wrap (a+1))))) (some (.inr (.inl ())))
def zc2(d:List za)(e:T0)(a:zc)(f:T1)(g:T1)(h:Bool)(c:Int):Option (z8×Bool):=
  (zw (fun z=>zbx a c z) 0).bind fun o=>zU o (fun b=>zga) some
theorem zgb(c:List za)(d:T0)(a:zc)(e:T1)(f:T1)(g:Bool)(l:Int){r:z8×Bool}(h:zc2 c d a e f g l=some r):SC Tryz.prog 127 [.mpt 0 0 0,iA l] [.one 15 (rK c d a (.isl 1 (map zf e)) (.isl 1 (map zf f)) (bA g))] (.tup [.agg (zL r.1),bA r.2]) [.one 15 (rK c d a (.isl 1 (map zf e)) (.isl 1 (map zf f)) (bA g))]:=by
 refine ⟨⟨t,t⟩,zV Tryz.func127 y kz y ?_⟩
 unfold zc2 at h
 refine rg y<|u<|al 1 ti y<|u<|asg y<|zb ?_
 refine zi ?_
 refine rg y<|u<|asg y<|zb ?_
 obtain ⟨o,ho,h⟩:=bs h
 refine zY (X:=Int) (B:=Unit) (R:=z8×Bool) (fun z=>[(0,.mpt 0 0 0),(1,iA l),(4,.mpt 1 0 0),(6,iA z)]) (fun z=>[some (15,[(rK c d a (.isl 1 (map zf e)) (.isl 1 (map zf f)) (bA g))]),some (3,[[iA 0,.lit (.slice none 0 0),.lit (.slice none 0 0)]])]) (fun b=>[(4,.mpt 1 0 0)]) (fun b=>[some (15,[(rK c d a (.isl 1 (map zf e)) (.isl 1 (map zf f)) (bA g))]),some (3,[[iA 0,.lit (.slice none 0 0),.lit (.slice none 0 0)]])]) (fun r env st=>zaO Tryz.prog Tryz.f127 1 (.tup [.agg (zL r.1),bA r.2]) [some (15,[(rK c d a (.isl 1 (map zf e)) (.isl 1 (map zf f)) (bA g))])] env st) ho (zo [.old 0,.old 1]) ?_ ?_ ?_
 ·
  rintro m r h
  replace h:zbx a l m=some r:=h
  unfold zbx at h
  refine zi ?_
  refine rg y<|u<|mv y<|u<|mv y<|u<|nc y y<|u<|fa ti y y y<|u<|fa ti y y y<|u<|ld ti y y<|u<|lnI ti y y<|u<|lss ti y y<|zb ?_
  refine ze y (fun i=>?_) (fun i=>?_)
  ·
   replace h:=bT i h
   refine zg ?_
   refine zi ?_
   refine zs ?_
   obtain ⟨q,n,h⟩:=bs h
   refine rg y<|u<|mv y<|u<|nc y y<|u<|fa ti y y y<|u<|fa ti y y y<|u<|ld ti y y<|u<|mv y<|u<|ixI ti y ti y y y n<|u<|fa ti y y y<|u<|ldI ti y (zl n).2.2 y<|u<|mv y<|u<|eql ti y y<|zb ?_
   refine ze y (fun j=>?_) (fun j=>?_)
   ·
    replace h:=bT j h
    obtain ⟨s,p,h⟩:=bs h
    refine rg y<|u<|mv y<|u<|nc y y<|u<|fa ti y y y<|u<|fa ti y y y<|u<|ld ti y y<|u<|mv y<|u<|ixI ti y ti y y y p<|u<|ldI ti y (zl p).2.2 y<|u<|sto ti y y y<|u<|asg y<|zb ?_
    refine zj ?_
    obtain rfl:=sm h
    exact ⟨_,y,_,y,zz [.old 0]⟩
   ·
    replace h:=bF j h
    refine zg ?_
    refine rl y<|u<|mv y<|u<|add ti y y<|u<|asg y<|zb ?_
    obtain rfl:=sm h
    exact ⟨_,y,zo [.old 0,.old 1]⟩
  ·
   replace h:=bF i h
   refine zE ?_
   obtain rfl:=sm h
   exact ⟨y,_,y,zo [.old 0,.old 1]⟩
 ·
  rintro ⟨⟩ rfl
  replace h:zga=some r:=h
  unfold zga at h
  refine zy ?_
  refine rg y<|u<|bd ti y y y<|u<|sto ti y y y<|u<|asg y<|zb ?_
  refine zj ?_
  obtain rfl:=sm h
  exact ⟨_,y,zz [.old 0]⟩
 ·
  rintro r' rfl env st hp
  obtain rfl:=sm h
  exact hp
def zfI(a:T1):Option (T1):=
  some a
def za1(c:List za)(b:T1)(a:Int):Option (Sum (T1×Int) (Sum (T1) (T1))):=
  cond (decide (0≤a)) ((idx c a).bind fun d=>(zh2 16 b [d.Name]).bind fun e=>(idx c a).bind fun f=>(zaD c f.Super).bind fun g=>some (.inl (e,g))) (some (.inr (.inl b)))
def zbA(a:List za)(c:T0):Option (T1):=
  (zaD a c).bind fun d=>(zw (fun z=>za1 a z.1 z.2) ([],d)).bind fun o=>zU o (fun b=>zfI b) some
theorem zcx(a:List za)(e:T0){r:T1}(h:zbA a e=some r):SC Tryz.prog 121 [.ipt 1 [[.isl 6 (map zd a)]] 0 0,sA e] [] (.msl 0 0 (length r)) [.many 1 (map zf r)]:=by
 refine ⟨⟨zh0 (sz:=1) (fun _=>y),t⟩,zV Tryz.func121 y kz y ?_⟩
 unfold zbA at h
 refine rg y<|u<|asg y<|zb ?_
 refine rg y<|u<|asg y<|zb ?_
 refine zi ?_
 obtain ⟨A,q,h⟩:=bs h
 refine rg y<|u<|mv y<|u<|mv y<|u<|pc (zW a e q) y y y<|u<|asg y<|zb ?_
 obtain ⟨o,ho,h⟩:=bs h
 refine zY (X:=T1×Int) (B:=T1) (R:=T1) (fun z=>[(0,.ipt 1 [[.isl 6 (map zd a)]] 0 0),(5,.msl 0 0 (length z.1)),(6,iA z.2)]) (fun z=>[some (1,map zf z.1)]) (fun b=>[(5,.msl 0 0 (length b))]) (fun b=>[some (1,map zf b)]) (fun r env st=>zaO Tryz.prog Tryz.f121 0 (.msl 0 0 (length r)) [some (1,map zf r)] env st) ho ⟨[.fresh 1],ce y y<|cv y (.nilown y)<|ce y y<|cn,y,⟨w,t⟩,y,k⟩ ?_ ?_ ?_
 ·
  rintro ⟨g,i⟩ r h
  replace h:za1 a g i=some r:=h
  unfold za1 at h
  refine zi ?_
  refine rg y<|u<|mv y<|u<|geq ti y y<|zb ?_
  refine ze y (fun c=>?_) (fun c=>?_)
  ·
   replace h:=bT c h
   refine zg ?_
   refine zi ?_
   refine zs ?_
   obtain ⟨j,l,h⟩:=bs h
   obtain ⟨v,s,h⟩:=bs h
   refine rl y<|u<|mv y<|u<|mv y<|u<|nc y y<|u<|fa ti y y y<|u<|ld ti y y<|u<|mv y<|u<|ixI ti y ti y y y l<|u<|fa ti y y y<|u<|ldI ti y (zl l).2.2 y<|u<|bl 1 ti y ti y (by decide) (by decide) y y y<|u<|apM 2 ti y ti y y (by decide) ti y y y y (roX (f:=zf) (z:=[j.Name]) y y) (fun _=>y) y s<|u<|asg y<|zb ?_
   obtain ⟨m,d,h⟩:=bs h
   obtain ⟨x,n,h⟩:=bs h
   refine rl y<|u<|mv y<|u<|mv y<|u<|nc y y<|u<|fa ti y y y<|u<|ld ti y y<|u<|mv y<|u<|ixI ti y ti y y y d<|u<|fa ti y y y<|u<|ldI ti y (zl d).2.2 y<|u<|pc (zW a m.Super n) y y y<|u<|asg y<|zb ?_
   obtain rfl:=sm h
   exact ⟨_,y,zo [.old 2]⟩
  ·
   replace h:=bF c h
   refine zE ?_
   obtain rfl:=sm h
   exact ⟨y,_,y,zo [.old 0]⟩
 ·
  rintro p rfl
  replace h:zfI p=some r:=h
  unfold zfI at h
  refine zy ?_
  refine rg y<|u<|mv y<|u<|asg y<|zb ?_
  refine zj ?_
  obtain rfl:=sm h
  exact ⟨_,y,zz [.old 0]⟩
 ·
  rintro r' rfl env st hp
  obtain rfl:=sm h
  exact hp
def zm2:Option (Bool):=
  some false
def zgd(b:T1)(c:T0)(a:Int):Option (Sum (Int) (Sum (Unit) (Bool))):=
  cond (decide (a<(length b:Int))) ((idx b a).bind fun d=>cond (d == c) (some (.inr (.inr true))) (some (.inl (IntKind.i64.wrap (a+1))))) (some (.inr (.inl ())))
def zjA(a:T1)(c:T0):Option (Bool):=
  (zw (fun z=>zgd a c z) 0).bind fun o=>zU o (fun b=>zm2) some
theorem zhl(d:T1)(e:T0){r:Bool}(h:zjA d e=some r):zG Tryz.prog 254 [.isl 1 (map zf d),sA e] (bA r):=by
 refine zr Tryz.func254 y kz y y ?_
 unfold zjA at h
 refine rg y<|u<|asg y<|zb ?_
 refine zi ?_
 refine rg y<|u<|asg y<|zb ?_
 obtain ⟨o,ho,h⟩:=bs h
 refine zY (X:=Int) (B:=Unit) (R:=Bool) (fun z=>[(0,.isl 1 (map zf d)),(1,sA e),(5,iA z)]) (fun z=>[]) (fun b=>[]) (fun b=>[]) (fun r env st=>zaO Tryz.prog Tryz.f254 0 (bA r) [] env st) ho (zo []) ?_ ?_ ?_
 ·
  rintro g r h
  replace h:zgd d e g=some r:=h
  unfold zgd at h
  refine zi ?_
  refine rg y<|u<|mv y<|u<|mv y<|u<|lnI ti y y<|u<|lss ti y y<|zb ?_
  refine ze y (fun a=>?_) (fun a=>?_)
  ·
   replace h:=bT a h
   refine zg ?_
   refine zi ?_
   refine zs ?_
   obtain ⟨i,f,h⟩:=bs h
   refine rg y<|u<|mv y<|u<|mv y<|u<|ixI ti y ti y y y f<|u<|ldI ti y (zl f).2.2 y<|u<|mv y<|u<|seq ti y y<|zb ?_
   refine ze y (fun c=>?_) (fun c=>?_)
   ·
    replace h:=bT c h
    refine rg y<|u<|asg y<|zb ?_
    refine zj ?_
    obtain rfl:=sm h
    exact ⟨_,y,_,y,zz []⟩
   ·
    replace h:=bF c h
    refine zg ?_
    refine rl y<|u<|mv y<|u<|add ti y y<|u<|asg y<|zb ?_
    obtain rfl:=sm h
    exact ⟨_,y,zo []⟩
  ·
   replace h:=bF a h
   refine zE ?_
   obtain rfl:=sm h
   exact ⟨y,_,y,zo []⟩
 ·
  rintro ⟨⟩ rfl
  replace h:zm2=some r:=h
  unfold zm2 at h
  refine zy ?_
  refine rg y<|u<|asg y<|zb ?_
  refine zj ?_
  obtain rfl:=sm h
  exact ⟨_,y,zz []⟩
 ·
  rintro r' rfl env st hp
  obtain rfl:=sm h
  exact hp
def zim(a:T1)(h:T0)(b:Int):Option (T1):=
  (zkh a 0 b).bind fun c=>(zh2 16 ([]:T1) c).bind fun d=>(zkh a b (length a:Int)).bind fun e=>(zh2 16 d [h]).bind fun f=>(zh2 16 f e).bind fun g=>some g
def zcV(b:T1)(c:T0)(a:Int):Option (Sum (Int) (Sum (Int) (T1))):=
  (cond (decide (a<(length b:Int))) ((idx b a).bind fun d=>some (Op.bytesLess d c)) (some false)).bind fun e=>cond e (some (.inl (IntKind.i64.wrap (a+1)))) (some (.inr (.inl a)))
def zji(a:T1)(c:T0):Option (T1):=
  (zw (fun z=>zcV a c z) 0).bind fun o=>zU o (fun b=>zim a c b) some
theorem zqt(d:T1)(i:T0){r:T1}(h:zji d i=some r):SC Tryz.prog 266 [.isl 1 (map zf d),sA i] [] (.msl 0 0 (length r)) [.many 1 (map zf r)]:=by
 refine ⟨⟨zh0 (sz:=1) (fun _=>y),t⟩,zV Tryz.func266 y kz y ?_⟩
 unfold zji at h
 refine rg y<|u<|asg y<|zb ?_
 refine rg y<|u<|asg y<|zb ?_
 obtain ⟨o,ho,h⟩:=bs h
 refine zzM (X:=Int) (B:=Int) (R:=T1) (fun z=>[(0,.isl 1 (map zf d)),(1,sA i),(5,iA z)]) (fun z=>[]) (fun b=>[(0,.isl 1 (map zf d)),(1,sA i),(5,iA b)]) (fun b=>[]) (fun r env st=>zaO Tryz.prog Tryz.f266 0 (.msl 0 0 (length r)) [some (1,map zf r)] env st) ho (zo []) ?_ ?_ ?_
 ·
  rintro G r h
  replace h:zcV d i G=some r:=h
  unfold zcV at h
  refine zi ?_
  obtain ⟨H,m,h⟩:=bs h
  refine rg y<|u<|mv y<|u<|mv y<|u<|lnI ti y y<|u<|lss ti y y<|u<|mv y<|z7 (x:=H) (j:=4) 6 y y y y y gpn (fun c=>by replace m:=bT c m;obtain ⟨J,s,m⟩:=bs m;obtain rfl:=sm m;exact g y c<|mv y<|g y c<|mv y<|g y c<|ixI ti y ti y y y s<|g y c<|ldI ti y (zl s).2.2 y<|g y c<|mv y<|g y c<|slt ti y y<|zb (eg [12,13,14,15,16,17] 6 y y y y)) (fun hb=>(sm (bF hb m)).symm)<|zb ?_
  refine ze y (fun p=>?_) (fun p=>?_)
  ·
   replace h:=bT p h
   refine zg ?_
   refine zs ?_
   refine rl y<|u<|mv y<|u<|add ti y y<|u<|asg y<|zb ?_
   obtain rfl:=sm h
   exact ⟨_,y,zo []⟩
  ·
   replace h:=bF p h
   refine zE ?_
   obtain rfl:=sm h
   exact ⟨y,_,y,zo []⟩
 ·
  rintro n rfl
  replace h:zim d i n=some r:=h
  unfold zim at h
  obtain ⟨I,v,h⟩:=bs h
  obtain ⟨A,C,h⟩:=bs h
  refine rg y<|u<|mv y<|u<|mv y<|u<|slI (a:=0) (b:=n) ti y ti y y y (zov y v) v<|u<|apN (f:=zf) 0 ti y ti y y (by decide) ti y y y roI (fun _=>y) y C<|u<|asg y<|zb ?_
  obtain ⟨D,e,h⟩:=bs h
  obtain ⟨q,E,h⟩:=bs h
  obtain ⟨l,F,h⟩:=bs h
  refine rdA [(4,.msl 0 0 (length l))] [some (1,map zf l)] [2,3,7] [6,5,4,1,0] [(31,.isl 1 (map zf D)),(30,iA n),(29,.isl 1 (map zf d)),(26,sA i),(25,.msl 0 0 (length A))] 3 (zeo ⟨(pb y (slI (a:=n) (b:=(length d:Int)) ti y ti y y (zmn y e) y e w)),pe,pe,pe,pe,t⟩ ⟨(fun _ _=>⟨_,y,y,bl 1 ti y ti y (by decide) (by decide) y y y<|⟨(.msl 1 0 1),[],[(27,.msl 1 0 1)],y,y,kz,y,zeo ⟨(pb y (slI (a:=n) (b:=(length d:Int)) ti y ti y y (zmn y e) y e w)),pe,pe,pe,pe,t⟩ ⟨nv,(fun _ _=>⟨_,y,y,apM 2 ti y ti y y (by decide) ti y y y y (roX (f:=zf) (z:=[i]) y y) (fun _=>y) y E<|⟨(.msl 2 0 (length q)),[],[(28,.msl 2 0 (length q))],y,y,kz,y,zeo ⟨(pb y (slI (a:=n) (b:=(length d:Int)) ti y ti y y (zmn y e) y e w)),pe,pe,pe,pe,t⟩ ⟨nv,nv,(fun _ _=>⟨_,y,y,apM 3 ti y ti y y (by decide) ti y y y y roI (fun _=>y) y F<|⟨(.msl 3 0 (length l)),[8],[(4,.msl 3 0 (length l)),(32,.msl 3 0 (length l))],y,y,kz,y,zh3 (zo [.old 3])⟩⟩),t⟩⟩⟩),nw,t⟩⟩⟩),nw,nw,t⟩) ?_
  refine zj ?_
  obtain rfl:=sm h
  exact ⟨_,y,zz [.old 0]⟩
 ·
  rintro r' rfl env st hp
  obtain rfl:=sm h
  exact hp
def zhh(a:T1):Option (T1):=
  some a
def zds(a:Int)(b:T1):Option (Sum (T1×Int) (Sum (T1) (T1))):=
  some (.inl (b,(IntKind.i64.wrap (a+1))))
def zaT(g:List za)(c:List Bool)(b:T1)(a:Int):Option (Sum (T1×Int) (Sum (T1) (T1))):=
  cond (decide (a<(length g:Int))) ((idx c a).bind fun d=>cond d ((idx g a).bind fun e=>(zji b e.Name).bind fun f=>zds a f) (zds a b)) (some (.inr (.inl b)))
def zfh(c:List za)(a:List Bool):Option (T1):=
  (zw (fun z=>zaT c a z.1 z.2) ([],0)).bind fun o=>zU o (fun b=>zhh b) some
def zhg(a:List Bool)(b:Bool):Option (Sum ((List Bool)×Bool) (Sum ((List Bool)) (T1))):=
  some (.inl (a,b))
def zdr(a:Int)(b:List Bool)(c:Bool):Option (Sum ((List Bool)×Bool×Int) (Sum ((List Bool)×Bool) (T1))):=
  some (.inl (b,c,(IntKind.i64.wrap (a+1))))
def zfg(a:Int)(b:List Bool)(c:Bool):Option (Sum ((List Bool)×Bool×Int) (Sum ((List Bool)×Bool) (T1))):=
  zdr a b c
def zdq(a:Int)(b:List Bool)(c:Bool):Option (Sum ((List Bool)×Bool×Int) (Sum ((List Bool)×Bool) (T1))):=
  some (.inl (b,c,(IntKind.i64.wrap (a+1))))
def zca(h:List za)(d:za)(a:List Bool)(e:Bool)(b:Int):Option (Sum ((List Bool)×Bool×Int) (Sum ((List Bool)×Bool) (T1))):=
  cond (decide (b<(length d.Impl:Int))) ((idx d.Impl b).bind fun f=>(zaD h f).bind fun c=>(idx a c).bind fun g=>cond (!g) ((idx a c).bind fun i=>zdq b (List.set a (Int.toNat c) true) true) (zdq b a e)) (some (.inr (.inl (a,e))))
def zcb(f:List za)(j:T1)(c:List Bool)(d:Bool)(a:Int):Option (Sum ((List Bool)×Bool×Int) (Sum ((List Bool)×Bool) (T1))):=
  cond (decide (a<(length f:Int))) ((idx f a).bind fun e=>(idx c a).bind fun g=>(cond (!g) ((zjA j e.Name).bind fun h=>some (!h)) (some false)).bind fun i=>cond i (zdr a c d) ((zw (fun z=>zca f e z.1 z.2.1 z.2.2) (c,d,0)).bind fun o=>zU o (fun b=>zfg a b.1 b.2) (fun r=>some (.inr (.inr r))))) (some (.inr (.inl (c,d))))
def zdt(d:List za)(e:T1)(a:List Bool)(c:Bool):Option (Sum ((List Bool)×Bool) (Sum ((List Bool)) (T1))):=
  cond c ((zw (fun z=>zcb d e z.1 z.2.1 z.2.2) (a,false,0)).bind fun o=>zU o (fun b=>zhg b.1 b.2) (fun r=>some (.inr (.inr r)))) (some (.inr (.inl a)))
def zc1(a:List za)(c:T0)(d:List Bool):Option (T1):=
  (zbA a c).bind fun e=>(zw (fun z=>zdt a e z.1 z.2) (d,true)).bind fun o=>zU o (fun b=>zfh a b) some
def zeX(a:List za)(c:T0):Option (T1):=
  (mkP 1 (length a:Int)).bind fun d=>(zaD a c).bind fun b=>cond (decide (b<0)) (some []) ((idx a b).bind fun e=>cond e.Interface ((idx (List.replicate d false) b).bind fun f=>zc1 a c (List.set (List.replicate d false) (Int.toNat b) true)) (zc1 a c (List.replicate d false)))
theorem zjx(a:List za)(s:T0){r:T1}(h:zeX a s=some r):SC Tryz.prog 230 [.ipt 1 [[.isl 6 (map zd a)]] 0 0,sA s] [] (.msl 0 0 (length r)) [.many 1 (map zf r)]:=by
 refine ⟨⟨zh0 (sz:=1) (fun _=>y),t⟩,zV Tryz.func230 y kz y ?_⟩
 unfold zeX at h
 refine rg y<|u<|asg y<|zb ?_
 obtain ⟨v3,q1,h⟩:=bs h
 refine rg y<|u<|mv y<|u<|nc y y<|u<|fa ti y y y<|u<|ld ti y y<|u<|lnI ti y y<|u<|mks (f:=rB) (z:=false) 0 ti y ti y y y y y y q1<|u<|asg y<|zb ?_
 obtain ⟨v4,q2,h⟩:=bs h
 refine rg y<|u<|mv y<|u<|mv y<|u<|pc (zW a s q2) y y y<|u<|asg y<|zb ?_
 refine zi ?_
 refine rg y<|u<|mv y<|u<|lss ti y y<|zb ?_
 refine ze y (fun J=>?_) (fun J=>?_)
 ·
  replace h:=bT J h
  refine rg y<|u<|asg y<|zb ?_
  refine zj ?_
  obtain rfl:=sm h
  exact ⟨_,y,[.fresh 1],.nilown y,y,⟨w,t⟩,y,k⟩
 ·
  replace h:=bF J h
  refine zg ?_
  refine zaX (X:=(List Bool)) (fun z=>[(0,.ipt 1 [[.isl 6 (map zd a)]] 0 0),(1,sA s),(5,.msl 0 0 (length z))]) (fun z=>[some (1,map rB z)]) (fun z=>zc1 a s z=some r) ?_ ?_
  ·
   obtain ⟨v5,q4,h⟩:=bs h
   refine rg y<|u<|mv y<|u<|nc y y<|u<|fa ti y y y<|u<|ld ti y y<|u<|mv y<|u<|ixI ti y ti y y y q4<|u<|fa ti y y y<|u<|ldI ti y (zl q4).2.2 y<|zb ?_
   refine ze y (fun K=>?_) (fun K=>?_)
   ·
    replace h:=bT K h
    obtain ⟨v6,q6,h⟩:=bs h
    exact rl y<|u<|mv y<|u<|mv y<|u<|ixM ti y ti y y y y q6<|u<|zCm (c':=true) ti y y (zl q6).2.2 y y y y y<|zb (⟨(List.set (List.replicate v3 false) (Int.toNat v4) true),h,[.old 0],ce y y<|ce y y<|cv y (zB1 (by simp) y)<|cn,y,⟨⟨_,y,zkb (fun _=>y)⟩,t⟩,y,k⟩)
   ·
    replace h:=bF K h
    refine zg ?_
    exact ⟨(List.replicate v3 false),h,zo [.old 0]⟩
  ·
   rintro v7 h
   replace h:zc1 a s v7=some r:=h
   unfold zc1 at h
   obtain ⟨d,q7,h⟩:=bs h
   refine rg y<|u<|mv y<|u<|mv y<|u<|sx [] (zcx a s q7)<|zx (env0:=[(0,.ipt 1 [[.isl 6 (map zd a)]] 0 0),(5,.msl 0 0 (length v7)),(39,.msl 1 0 (length d))]) (st0:=[some (1,map rB v7),some (1,map zf d)]) (zo [.old 0,.old 1])<|u<|asg y<|zb ?_
   refine zi ?_
   refine rg y<|u<|asg y<|zb ?_
   obtain ⟨o,ho,h⟩:=bs h
   refine zY (X:=(List Bool)×Bool) (B:=(List Bool)) (R:=T1) (fun z=>[(0,.ipt 1 [[.isl 6 (map zd a)]] 0 0),(5,.msl 0 0 (length z.1)),(7,.msl 1 0 (length d)),(8,bA z.2)]) (fun z=>[some (1,map rB z.1),some (1,map zf d)]) (fun b=>[(0,.ipt 1 [[.isl 6 (map zd a)]] 0 0),(5,.msl 0 0 (length b))]) (fun b=>[some (1,map rB b)]) (fun r env st=>zaO Tryz.prog Tryz.f230 0 (.msl 0 0 (length r)) [some (1,map zf r)] env st) ho (zo [.old 0,.old 1]) ?_ ?_ ?_
   ·
    rintro ⟨v71,v72⟩ r h
    replace h:zdt a d v71 v72=some r:=h
    unfold zdt at h
    refine zi ?_
    refine rg y<|u<|mv y<|zb ?_
    refine ze y (fun v=>?_) (fun v=>?_)
    ·
     replace h:=bT v h
     refine zg ?_
     refine zs ?_
     refine rg y<|u<|asg y<|zb ?_
     refine rg y<|u<|asg y<|zb ?_
     obtain ⟨o,ho,h⟩:=bs h
     refine zY (X:=(List Bool)×Bool×Int) (B:=(List Bool)×Bool) (R:=T1) (fun z=>[(0,.ipt 1 [[.isl 6 (map zd a)]] 0 0),(5,.msl 0 0 (length z.1)),(7,.msl 1 0 (length d)),(8,bA z.2.1),(9,iA z.2.2)]) (fun z=>[some (1,map rB z.1),some (1,map zf d)]) (fun b=>[(0,.ipt 1 [[.isl 6 (map zd a)]] 0 0),(5,.msl 0 0 (length b.1)),(7,.msl 1 0 (length d)),(8,bA b.2)]) (fun b=>[some (1,map rB b.1),some (1,map zf d)]) (fun r env st=>zaO Tryz.prog Tryz.f230 0 (.msl 0 0 (length r)) [some (1,map zf r)] env st) ho (zo [.old 0,.old 1]) ?_ ?_ ?_
     ·
      rintro ⟨L,M,e⟩ r h
      replace h:zcb a d L M e=some r:=h
      unfold zcb at h
      refine zi ?_
      refine rg y<|u<|mv y<|u<|mv y<|u<|nc y y<|u<|fa ti y y y<|u<|ld ti y y<|u<|lnI ti y y<|u<|lss ti y y<|zb ?_
      refine ze y (fun A=>?_) (fun A=>?_)
      ·
       replace h:=bT A h
       refine zg ?_
       refine zaX (X:=(List Bool)×Bool) (fun z=>[(0,.ipt 1 [[.isl 6 (map zd a)]] 0 0),(5,.msl 0 0 (length z.1)),(7,.msl 1 0 (length d)),(8,bA z.2),(9,iA e)]) (fun z=>[some (1,map rB z.1),some (1,map zf d)]) (fun z=>zdr e z.1 z.2=some r) ?_ ?_
       ·
        refine zs ?_
        obtain ⟨n,S,h⟩:=bs h
        refine rg y<|u<|mv y<|u<|nc y y<|u<|fa ti y y y<|u<|ld ti y y<|u<|mv y<|u<|ixI ti y ti y y y S<|u<|ldI ti y (zl S).2.2 y<|u<|al 2 ti y<|u<|sto ti y y y<|zb ?_
        refine zi ?_
        obtain ⟨v106,T,h⟩:=bs h
        obtain ⟨v108,m,h⟩:=bs h
        refine rg y<|u<|mv y<|u<|mv y<|u<|ixM ti y ti y y y y T<|u<|ldM ti y y (zl T).2.2 y<|u<|nt y<|u<|mv y<|z7 (x:=v108) (j:=5) 5 y y y y y gpn (fun i=>by replace m:=bT i m;obtain ⟨v107,q70,m⟩:=bs m;obtain rfl:=sm m;exact g y i<|mv y<|g y i<|fa ti y y y<|g y i<|ld ti y y<|g y i<|pcs (zhl d n.Name q70) y y (.cons (zhm y (fun _=>y)) (.cons (si y) .nil)) zcn<|g y i<|nt y<|zb (eg [63,64,65,66,67] 5 y y y y)) (fun hb=>(sm (bF hb m)).symm)<|zb ?_
        refine ze y (fun C=>?_) (fun C=>?_)
        ·
         replace h:=bT C h
         refine zE ?_
         exact ⟨⟨L,M⟩,h,zo [.old 0,.old 1]⟩
        ·
         replace h:=bF C h
         refine zg ?_
         refine rg y<|u<|asg y<|zb ?_
         obtain ⟨o,ho,h⟩:=bs h
         refine zY (X:=(List Bool)×Bool×Int) (B:=(List Bool)×Bool) (R:=T1) (fun z=>[(0,.ipt 1 [[.isl 6 (map zd a)]] 0 0),(5,.msl 0 0 (length z.1)),(7,.msl 1 0 (length d)),(8,bA z.2.1),(9,iA e),(10,.mpt 2 0 0),(11,iA z.2.2)]) (fun z=>[some (1,map rB z.1),some (1,map zf d),some (6,[(zd n)])]) (fun b=>[(0,.ipt 1 [[.isl 6 (map zd a)]] 0 0),(5,.msl 0 0 (length b.1)),(7,.msl 1 0 (length d)),(8,bA b.2),(9,iA e)]) (fun b=>[some (1,map rB b.1),some (1,map zf d)]) (fun r env st=>zaO Tryz.prog Tryz.f230 0 (.msl 0 0 (length r)) [some (1,map zf r)] env st) ho (zo [.old 0,.old 1,.old 2]) ?_ ?_ ?_
         ·
          rintro ⟨D,N,p⟩ r h
          replace h:zca a n D N p=some r:=h
          unfold zca at h
          refine zi ?_
          refine rg y<|u<|mv y<|u<|fa ti y y y<|u<|ld ti y y<|u<|lnI ti y y<|u<|lss ti y y<|zb ?_
          refine ze y (fun E=>?_) (fun E=>?_)
          ·
           replace h:=bT E h
           refine zg ?_
           refine zaX (X:=(List Bool)×Bool) (fun z=>[(0,.ipt 1 [[.isl 6 (map zd a)]] 0 0),(5,.msl 0 0 (length z.1)),(7,.msl 1 0 (length d)),(8,bA z.2),(9,iA e),(10,.mpt 2 0 0),(11,iA p)]) (fun z=>[some (1,map rB z.1),some (1,map zf d),some (6,[(zd n)])]) (fun z=>zdq p z.1 z.2=some r) ?_ ?_
           ·
            refine zs ?_
            obtain ⟨v121,U,h⟩:=bs h
            obtain ⟨v122,q81,h⟩:=bs h
            refine rg y<|u<|mv y<|u<|fa ti y y y<|u<|ld ti y y<|u<|mv y<|u<|ixI ti y ti y y y U<|u<|ldI ti y (zl U).2.2 y<|u<|pc (zW a v121 q81) y y y<|u<|asg y<|zb ?_
            obtain ⟨v123,V,h⟩:=bs h
            refine rg y<|u<|mv y<|u<|mv y<|u<|ixM ti y ti y y y y V<|u<|ldM ti y y (zl V).2.2 y<|u<|nt y<|zb ?_
            refine ze y (fun F=>?_) (fun F=>?_)
            ·
             replace h:=bT F h
             obtain ⟨v124,W,h⟩:=bs h
             exact rl y<|u<|mv y<|u<|mv y<|u<|ixM ti y ti y y y y W<|u<|zCm (c':=true) ti y y (zl W).2.2 y y y y y<|u<|asg y<|zb (⟨⟨(List.set D (Int.toNat v122) true),true⟩,h,[.old 0,.old 1,.old 2],ce y y<|cv y (zB1 (by simp) y)<|cv y (.msl y)<|ce y y<|ce y y<|cv y (.mpt y)<|ce y y<|cn,y,⟨⟨_,y,zkb (fun _=>y)⟩,⟨_,y,zkb (fun _=>y)⟩,⟨_,y,ziT (ciL y)⟩,t⟩,y,k⟩)
            ·
             replace h:=bF F h
             refine zg ?_
             exact ⟨⟨D,N⟩,h,zo [.old 0,.old 1,.old 2]⟩
           ·
            rintro ⟨v125,v126⟩ h
            replace h:zdq p v125 v126=some r:=h
            unfold zdq at h
            refine rl y<|u<|mv y<|u<|add ti y y<|u<|asg y<|zb ?_
            obtain rfl:=sm h
            exact ⟨_,y,zo [.old 0,.old 1,.old 2]⟩
          ·
           replace h:=bF E h
           refine zE ?_
           obtain rfl:=sm h
           exact ⟨y,_,y,zo [.old 0,.old 1]⟩
         ·
          rintro ⟨O,P⟩ rfl
          replace h:zfg e O P=some r:=h
          unfold zfg at h
          refine zy ?_
          exact ⟨⟨O,P⟩,h,zo [.old 0,.old 1]⟩
         ·
          rintro r' rfl env st hp
          obtain rfl:=sm h
          exact ⟨_,y,hp⟩
       ·
        rintro ⟨v129,v130⟩ h
        replace h:zdr e v129 v130=some r:=h
        unfold zdr at h
        refine rl y<|u<|mv y<|u<|add ti y y<|u<|asg y<|zb ?_
        obtain rfl:=sm h
        exact ⟨_,y,zo [.old 0,.old 1]⟩
      ·
       replace h:=bF A h
       refine zE ?_
       obtain rfl:=sm h
       exact ⟨y,_,y,zo [.old 0,.old 1]⟩
     ·
      rintro ⟨v131,v132⟩ rfl
      replace h:zhg v131 v132=some r:=h
      unfold zhg at h
      refine zy ?_
      obtain rfl:=sm h
      exact ⟨_,y,zo [.old 0,.old 1]⟩
     ·
      rintro r' rfl env st hp
      obtain rfl:=sm h
      exact ⟨_,y,hp⟩
    ·
     replace h:=bF v h
     refine zE ?_
     obtain rfl:=sm h
     exact ⟨y,_,y,zo [.old 0]⟩
   ·
    rintro c rfl
    replace h:zfh a c=some r:=h
    unfold zfh at h
    refine zy ?_
    refine rg y<|u<|asg y<|zb ?_
    refine zi ?_
    refine rg y<|u<|asg y<|zb ?_
    obtain ⟨o,ho,h⟩:=bs h
    refine zY (X:=T1×Int) (B:=T1) (R:=T1) (fun z=>[(0,.ipt 1 [[.isl 6 (map zd a)]] 0 0),(5,.msl 0 0 (length c)),(13,.msl 1 0 (length z.1)),(14,iA z.2)]) (fun z=>[some (1,map rB c),some (1,map zf z.1)]) (fun b=>[(13,.msl 0 0 (length b))]) (fun b=>[some (1,map zf b)]) (fun r env st=>zaO Tryz.prog Tryz.f230 0 (.msl 0 0 (length r)) [some (1,map zf r)] env st) ho ⟨[.old 0,.fresh 1],ce y y<|cv y (.msl y)<|cv y (.nilown y)<|ce y y<|cn,y,⟨⟨_,y,zkb (fun _=>y)⟩,w,t⟩,y,k⟩ ?_ ?_ ?_
    ·
     rintro ⟨q,l⟩ r h
     replace h:zaT a c q l=some r:=h
     unfold zaT at h
     refine zi ?_
     refine rg y<|u<|mv y<|u<|mv y<|u<|nc y y<|u<|fa ti y y y<|u<|ld ti y y<|u<|lnI ti y y<|u<|lss ti y y<|zb ?_
     refine ze y (fun G=>?_) (fun G=>?_)
     ·
      replace h:=bT G h
      refine zg ?_
      refine zaX (X:=T1) (fun z=>[(0,.ipt 1 [[.isl 6 (map zd a)]] 0 0),(5,.msl 0 0 (length c)),(13,.msl 1 0 (length z)),(14,iA l)]) (fun z=>[some (1,map rB c),some (1,map zf z)]) (fun z=>zds l z=some r) ?_ ?_
      ·
       refine zs ?_
       obtain ⟨v142,Y,h⟩:=bs h
       refine rg y<|u<|mv y<|u<|mv y<|u<|ixM ti y ti y y y y Y<|u<|ldM ti y y (zl Y).2.2 y<|zb ?_
       refine ze y (fun H=>?_) (fun H=>?_)
       ·
        replace h:=bT H h
        obtain ⟨Q,Z,h⟩:=bs h
        obtain ⟨I,q94,h⟩:=bs h
        exact rl y<|u<|mv y<|u<|mv y<|u<|nc y y<|u<|fa ti y y y<|u<|ld ti y y<|u<|mv y<|u<|ixI ti y ti y y y Z<|u<|fa ti y y y<|u<|ldI ti y (zl Z).2.2 y<|zx (env0:=[(0,.ipt 1 [[.isl 6 (map zd a)]] 0 0),(5,.msl 0 0 (length c)),(14,iA l),(104,.isl 1 (map zf q)),(112,sA Q.Name)]) (st0:=[some (1,map rB c)]) (zo [.old 0])<|u<|sx [] (zqt q Q.Name q94)<|zx (env0:=[(0,.ipt 1 [[.isl 6 (map zd a)]] 0 0),(5,.msl 0 0 (length c)),(14,iA l),(113,.msl 1 0 (length I))]) (st0:=[some (1,map rB c),some (1,map zf I)]) (zo [.old 0,.old 1])<|u<|asg y<|zb (⟨I,h,zo [.old 0,.old 1]⟩)
       ·
        replace h:=bF H h
        refine zg ?_
        exact ⟨q,h,zo [.old 0,.old 1]⟩
      ·
       rintro v145 h
       replace h:zds l v145=some r:=h
       unfold zds at h
       refine rl y<|u<|mv y<|u<|add ti y y<|u<|asg y<|zb ?_
       obtain rfl:=sm h
       exact ⟨_,y,zo [.old 0,.old 1]⟩
     ·
      replace h:=bF G h
      refine zE ?_
      obtain rfl:=sm h
      exact ⟨y,_,y,zo [.old 1]⟩
    ·
     rintro v146 rfl
     replace h:zhh v146=some r:=h
     unfold zhh at h
     refine zy ?_
     refine rg y<|u<|mv y<|u<|asg y<|zb ?_
     refine zj ?_
     obtain rfl:=sm h
     exact ⟨_,y,zz [.old 0]⟩
    ·
     rintro r' rfl env st hp
     obtain rfl:=sm h
     exact hp
   ·
    rintro r' rfl env st hp
    obtain rfl:=sm h
    exact hp
def zbR(p:((List za)×T0×T0→Option Bool))(b:List za)(c:T0)(d:T0):Option (Bool):=
  (z1 b c).bind fun q=>(cond (!q) (some true) ((z1 b d).bind fun r=>some (!r))).bind fun s=>cond s (some false) (cond (c == d) (some true) ((zix c).bind fun e=>(zix d).bind fun a=>cond ((e.2 == (0:Int))&&(a.2 == (0:Int))) ((cond ((!(e.1 == [73]))&&(!(a.1 == [73]))) ((zbA b e.1).bind fun u=>(zjA u a.1).bind fun h=>(cond h (some true) ((zeX b e.1).bind fun i=>(zjA i a.1).bind fun j=>some j)).bind fun l=>some l) (some false)).bind fun m=>some m) (cond (a.2 == (0:Int)) (some (a.1 == [79,98,106,101,99,116])) (cond (e.2 == (0:Int)) (some false) ((zkh c 1 (length c:Int)).bind fun f=>(zkh d 1 (length d:Int)).bind fun g=>(cond ((!(f == [73]))&&(!(g == [73]))) ((p (b,f,g)).bind fun n=>some n) (some false)).bind fun o=>some o)))))
theorem zlK(K:((List za)×T0×T0→Option Bool))(hrec:∀z r,K z=some r→zG Tryz.prog 202 [.ipt 1 [[.isl 6 (map zd z.1)]] 0 0,sA z.2.1,sA z.2.2] (bA r))(m:List za)(C:T0)(D:T0){r:Bool}(h:zbR K m C D=some r):zG Tryz.prog 202 [.ipt 1 [[.isl 6 (map zd m)]] 0 0,sA C,sA D] (bA r):=by
 refine zr Tryz.func202 y kz y y ?_
 unfold zbR at h
 refine rg y<|u<|asg y<|zb ?_
 refine zi ?_
 obtain ⟨v4,W,h⟩:=bs h
 obtain ⟨X,E,h⟩:=bs h
 refine rg y<|u<|mv y<|u<|mv y<|u<|pc (zab m C W) y y y<|u<|nt y<|u<|mv y<|zcU (x:=X) (j:=4) 4 y y y y y gpn (fun n=>by replace E:=bF n E;obtain ⟨v5,Y,E⟩:=bs E;obtain rfl:=sm E;exact g y n<|mv y<|g y n<|mv y<|g y n<|pc (zab m D Y) y y y<|g y n<|nt y<|zb (eg [18,19,20,21] 4 y y y y)) (fun hb=>(sm (bT hb E)).symm)<|zb ?_
 refine ze y (fun F=>?_) (fun F=>?_)
 ·
  replace h:=bT F h
  refine rg y<|u<|asg y<|zb ?_
  refine zj ?_
  obtain rfl:=sm h
  exact ⟨_,y,zz []⟩
 ·
  replace h:=bF F h
  refine zg ?_
  refine zi ?_
  refine rg y<|u<|mv y<|u<|mv y<|u<|seq ti y y<|zb ?_
  refine ze y (fun G=>?_) (fun G=>?_)
  ·
   replace h:=bT G h
   refine rg y<|u<|asg y<|zb ?_
   refine zj ?_
   obtain rfl:=sm h
   exact ⟨_,y,zz []⟩
  ·
   replace h:=bF G h
   refine zg ?_
   obtain ⟨L,Z,h⟩:=bs h
   refine rg y<|u<|mv y<|u<|pc (zlN C Z) y y y<|u<|mv y<|u<|ex y y<|u<|ex y y<|u<|asg y<|u<|asg y<|zb ?_
   obtain ⟨M,q8,h⟩:=bs h
   refine rg y<|u<|mv y<|u<|pc (zlN D q8) y y y<|u<|mv y<|u<|ex y y<|u<|ex y y<|u<|asg y<|u<|asg y<|zb ?_
   refine zi ?_
   refine zs ?_
   refine rg y<|u<|mv y<|u<|eql ti y y<|u<|mv y<|z7 (j:=2) 2 y y y y y gpn (fun H=>g y H<|mv y<|g y H<|eql ti y y<|zb (egA [40,41] 2 H y y y y)) ze3<|u<|asg y<|zb ?_
   refine ze y (fun o=>?_) (fun o=>?_)
   ·
    replace h:=bT o h
    obtain ⟨N,d,h⟩:=bs h
    refine rg y<|u<|mv y<|u<|sne ti y y<|u<|mv y<|z7 (j:=2) 2 y y y y y gpn (fun p=>g y p<|mv y<|g y p<|sne ti y y<|zb (egA [46,47] 2 p y y y y)) ze3<|u<|mv y<|zCe (x:=N) (j:=6) 12 2 y y y y y gpn (fun c=>by replace d:=bT c d;obtain ⟨v9,O,d⟩:=bs d;obtain ⟨v10,P,d⟩:=bs d;obtain ⟨Q,f,d⟩:=bs d;obtain rfl:=sm d;exact g y c<|mv y<|g y c<|mv y<|g y c<|sx [] (zcx m L.1 O)<|g y c<|mv y<|g y c<|pcs (zhl v9 M.1 P) y y (.cons (zhm y (fun _=>y)) (.cons (si y) .nil)) zcn<|g y c<|mv y<|zCf (x:=Q) (j:=12) 5 1 y y y y y (gps y y c) (fun e=>by replace f:=bF e f;obtain ⟨R,S,f⟩:=bs f;obtain ⟨v12,T,f⟩:=bs f;obtain rfl:=sm f;exact g y e<|mv y<|g y e<|mv y<|g y e<|sx [] (zjx m L.1 S)<|g y e<|mv y<|g y e<|pcs (zhl R M.1 T) y y (.cons (zhm y (fun _=>y)) (.cons (si y) .nil)) zcn<|zb (xg [56,57,58,59,60] 5 y y y y y y)) (fun hb=>(sm (bT hb f)).symm)<|zb (xg [50,51,52,53,54,55,56,57,58,59,60,61] 7 y y y y y y)) (fun hb=>(sm (bF hb d)).symm)<|u<|asg y<|zb ?_
    refine zj ?_
    obtain rfl:=sm h
    exact ⟨_,y,zz []⟩
   ·
    replace h:=bF o h
    refine rg y<|u<|mv y<|u<|eql ti y y<|u<|asg y<|zb ?_
    refine ze y (fun q=>?_) (fun q=>?_)
    ·
     replace h:=bT q h
     refine rg y<|u<|mv y<|u<|seq ti y y<|u<|asg y<|zb ?_
     refine zj ?_
     obtain rfl:=sm h
     exact ⟨_,y,zz []⟩
    ·
     replace h:=bF q h
     refine rg y<|u<|mv y<|u<|eql ti y y<|u<|asg y<|zb ?_
     refine ze y (fun s=>?_) (fun s=>?_)
     ·
      replace h:=bT s h
      refine rg y<|u<|asg y<|zb ?_
      refine zj ?_
      obtain rfl:=sm h
      exact ⟨_,y,zz []⟩
     ·
      replace h:=bF s h
      refine zg ?_
      obtain ⟨A,I,h⟩:=bs h
      obtain ⟨B,J,h⟩:=bs h
      refine rdA [(0,.ipt 1 [[.isl 6 (map zd m)]] 0 0),(11,sA A),(12,sA B)] [] [] [5,4,3,2,1,0] [(12,sA B),(11,sA A),(74,sA B),(73,sA D),(72,sA A),(71,sA C)] 0 (zhA ⟨pe,pe,(pb y (slS (a:=1) (b:=(length D:Int)) ti y y (zmn y J) y J w)),pe,(pb y (slS (a:=1) (b:=(length C:Int)) ti y y (zmn y I) y I w)),pe,t⟩ (zo [])) ?_
      obtain ⟨U,l,h⟩:=bs h
      refine rg y<|u<|mv y<|u<|sne ti y y<|u<|mv y<|z7 (j:=2) 2 y y y y y gpn (fun v=>g y v<|mv y<|g y v<|sne ti y y<|zb (egA [78,79] 2 v y y y y)) ze3<|u<|mv y<|z7 (x:=U) (j:=6) 4 y y y y y gpn (fun i=>by replace l:=bT i l;obtain ⟨v17,V,l⟩:=bs l;obtain rfl:=sm l;exact g y i<|mv y<|g y i<|mv y<|g y i<|mv y<|g y i<|pc (hrec (m,A,B) _ V) y y y<|zb (eg [82,83,84,85] 4 y y y y)) (fun hb=>(sm (bF hb l)).symm)<|u<|asg y<|zb ?_
      refine zj ?_
      obtain rfl:=sm h
      exact ⟨_,y,zz []⟩
def zft(a:List za)(b:T0)(c:T0):Option Bool:=
  zBp (fun d z=>zbR d z.1 z.2.1 z.2.2) (a,b,c)
theorem zjh(b:List za)(c:T0)(d:T0){r:Bool}(h:zft b c d=some r):zG Tryz.prog 202 [.ipt 1 [[.isl 6 (map zd b)]] 0 0,sA c,sA d] (bA r):=
  zxO (F:=(fun a z=>zbR a z.1 z.2.1 z.2.2)) (Q:=fun z r=>zG Tryz.prog 202 [.ipt 1 [[.isl 6 (map zd z.1)]] 0 0,sA z.2.1,sA z.2.2] (bA r)) (fun a hv z r h=>zlK a hv z.1 z.2.1 z.2.2 h) h
def zbM(c:List za)(a:T0)(b:T0):Option (Bool):=
  cond (b == [84]) ((cond ((a == [84])||(a == [78])) (some true) ((z1 c a).bind fun m=>some m)).bind fun n=>some n) (cond (a == [78]) ((cond (b == [78]) (some true) ((cond (!(b == [73])) ((z1 c b).bind fun o=>some o) (some false)).bind fun p=>some p)).bind fun q=>some q) (cond (a == b) ((z1 c a).bind fun r=>some r) ((cond ((a == [73])||(b == [73])) (some true) ((z1 c a).bind fun e=>some (!e))).bind fun f=>(cond f (some true) ((z1 c b).bind fun g=>some (!g))).bind fun h=>cond h (some false) ((zaD c b).bind fun d=>(cond (decide (0≤d)) ((idx c d).bind fun i=>some i.Interface) (some false)).bind fun j=>cond j (some true) ((zft c a b).bind fun l=>some l)))))
theorem zc6(m:List za)(A:T0)(B:T0){r:Bool}(h:zbM m A B=some r):zG Tryz.prog 253 [.ipt 1 [[.isl 6 (map zd m)]] 0 0,sA A,sA B] (bA r):=by
 refine zr Tryz.func253 y kz y y ?_
 unfold zbM at h
 refine rg y<|u<|asg y<|zb ?_
 refine zi ?_
 refine zs ?_
 refine rg y<|u<|mv y<|u<|seq ti y y<|u<|asg y<|zb ?_
 refine ze y (fun D=>?_) (fun D=>?_)
 ·
  replace h:=bT D h
  obtain ⟨P,C,h⟩:=bs h
  refine rg y<|u<|mv y<|u<|seq ti y y<|u<|mv y<|zcU (j:=2) 2 y y y y y gpn (fun E=>g y E<|mv y<|g y E<|seq ti y y<|zb (egO [14,15] 2 E y y y y)) orT<|u<|mv y<|zcU (x:=P) (j:=6) 3 y y y y y gpn (fun v=>by replace C:=bF v C;obtain ⟨Z,Q,C⟩:=bs C;obtain rfl:=sm C;exact g y v<|mv y<|g y v<|mv y<|g y v<|pc (zab m A Q) y y y<|zb (eg [18,19,20] 3 y y y y)) (fun hb=>(sm (bT hb C)).symm)<|u<|asg y<|zb ?_
  refine zj ?_
  obtain rfl:=sm h
  exact ⟨_,y,zz []⟩
 ·
  replace h:=bF D h
  refine rg y<|u<|mv y<|u<|seq ti y y<|u<|asg y<|zb ?_
  refine ze y (fun F=>?_) (fun F=>?_)
  ·
   replace h:=bT F h
   obtain ⟨R,d,h⟩:=bs h
   refine rg y<|u<|mv y<|u<|seq ti y y<|u<|mv y<|zcU (x:=R) (j:=2) 7 y y y y y gpn (fun n=>by replace d:=bF n d;obtain ⟨S,e,d⟩:=bs d;obtain rfl:=sm d;exact g y n<|mv y<|g y n<|sne ti y y<|g y n<|mv y<|z7 (x:=S) (j:=5) 3 y y y y y (gps y y n) (fun z=>by replace e:=bT z e;obtain ⟨v6,T,e⟩:=bs e;obtain rfl:=sm e;exact g y z<|mv y<|g y z<|mv y<|g y z<|pc (zab m B T) y y y<|zb (eg [31,32,33] 3 y y y y)) (fun hb=>(sm (bF hb e)).symm)<|zb (eg [28,29,30,31,32,33,34] 4 y y y y)) (fun hb=>(sm (bT hb d)).symm)<|u<|asg y<|zb ?_
   refine zj ?_
   obtain rfl:=sm h
   exact ⟨_,y,zz []⟩
  ·
   replace h:=bF F h
   refine rg y<|u<|mv y<|u<|mv y<|u<|seq ti y y<|u<|asg y<|zb ?_
   refine ze y (fun o=>?_) (fun o=>?_)
   ·
    replace h:=bT o h
    obtain ⟨v9,H,h⟩:=bs h
    refine rg y<|u<|mv y<|u<|mv y<|u<|pc (zab m A H) y y y<|u<|asg y<|zb ?_
    refine zj ?_
    obtain rfl:=sm h
    exact ⟨_,y,zz []⟩
   ·
    replace h:=bF o h
    obtain ⟨I,f,h⟩:=bs h
    obtain ⟨J,i,h⟩:=bs h
    refine rg y<|u<|mv y<|u<|seq ti y y<|u<|mv y<|zcU (j:=2) 2 y y y y y gpn (fun p=>g y p<|mv y<|g y p<|seq ti y y<|zb (egO [47,48] 2 p y y y y)) orT<|u<|mv y<|zcU (x:=I) (j:=6) 4 y y y y y gpn (fun b=>by replace f:=bF b f;obtain ⟨U,K,f⟩:=bs f;obtain rfl:=sm f;exact g y b<|mv y<|g y b<|mv y<|g y b<|pc (zab m A K) y y y<|g y b<|nt y<|zb (eg [51,52,53,54] 4 y y y y)) (fun hb=>(sm (bT hb f)).symm)<|u<|mv y<|zcU (x:=J) (j:=12) 4 y y y y y gpn (fun c=>by replace i:=bF c i;obtain ⟨V,L,i⟩:=bs i;obtain rfl:=sm i;exact g y c<|mv y<|g y c<|mv y<|g y c<|pc (zab m B L) y y y<|g y c<|nt y<|zb (eg [57,58,59,60] 4 y y y y)) (fun hb=>(sm (bT hb i)).symm)<|u<|asg y<|zb ?_
    refine ze y (fun q=>?_) (fun q=>?_)
    ·
     replace h:=bT q h
     refine rg y<|u<|asg y<|zb ?_
     refine zj ?_
     obtain rfl:=sm h
     exact ⟨_,y,zz []⟩
    ·
     replace h:=bF q h
     refine zg ?_
     refine zi ?_
     obtain ⟨W,M,h⟩:=bs h
     refine rg y<|u<|mv y<|u<|mv y<|u<|pc (zW m B M) y y y<|u<|asg y<|zb ?_
     obtain ⟨N,l,h⟩:=bs h
     refine rg y<|u<|mv y<|u<|geq ti y y<|u<|mv y<|z7 (x:=N) (j:=2) 8 y y y y y gpn (fun a=>by replace l:=bT a l;obtain ⟨X,G,l⟩:=bs l;obtain rfl:=sm l;exact g y a<|mv y<|g y a<|nc y y<|g y a<|fa ti y y y<|g y a<|ld ti y y<|g y a<|mv y<|g y a<|ixI ti y ti y y y G<|g y a<|fa ti y y y<|g y a<|ldI ti y (zl G).2.2 y<|zb (eg [68,69,70,71,72,73,74,75] 8 y y y y)) (fun hb=>(sm (bF hb l)).symm)<|zb ?_
     refine ze y (fun s=>?_) (fun s=>?_)
     ·
      replace h:=bT s h
      refine rg y<|u<|asg y<|zb ?_
      refine zj ?_
      obtain rfl:=sm h
      exact ⟨_,y,zz []⟩
     ·
      replace h:=bF s h
      refine zg ?_
      obtain ⟨Y,O,h⟩:=bs h
      refine rg y<|u<|mv y<|u<|mv y<|u<|mv y<|u<|pc (zjh m A B O) y y y<|u<|asg y<|zb ?_
      refine zj ?_
      obtain rfl:=sm h
      exact ⟨_,y,zz []⟩
def zhf:Option (Bool):=
  some true
def zb9(e:List za)(b:T1)(f:T1)(a:Int):Option (Sum (Int) (Sum (Unit) (Bool))):=
  cond (decide (a<(length b:Int))) ((idx b a).bind fun g=>(idx f a).bind fun c=>(zbM e g c).bind fun d=>cond (!d) (some (.inr (.inr false))) (some (.inl (IntKind.i64.wrap (a+1))))) (some (.inr (.inl ())))
def zdg(d:List za)(a:T1)(c:T1):Option (Bool):=
  cond (!((length a:Int) == (length c:Int))) (some false) ((zw (fun z=>zb9 d a c z) 0).bind fun o=>zU o (fun b=>zhf) some)
theorem zbf(a:List za)(c:T1)(d:T1){r:Bool}(h:zdg a c d=some r):zG Tryz.prog 201 [.ipt 1 [[.isl 6 (map zd a)]] 0 0,.isl 1 (map zf c),.isl 1 (map zf d)] (bA r):=by
 refine zr Tryz.func201 y kz y y ?_
 unfold zdg at h
 refine rg y<|u<|asg y<|zb ?_
 refine zi ?_
 refine rg y<|u<|mv y<|u<|lnI ti y y<|u<|mv y<|u<|lnI ti y y<|u<|neq ti y y<|zb ?_
 refine ze y (fun g=>?_) (fun g=>?_)
 ·
  replace h:=bT g h
  refine rg y<|u<|asg y<|zb ?_
  refine zj ?_
  obtain rfl:=sm h
  exact ⟨_,y,zz []⟩
 ·
  replace h:=bF g h
  refine zg ?_
  refine zi ?_
  refine rg y<|u<|asg y<|zb ?_
  obtain ⟨o,ho,h⟩:=bs h
  refine zY (X:=Int) (B:=Unit) (R:=Bool) (fun z=>[(0,.ipt 1 [[.isl 6 (map zd a)]] 0 0),(1,.isl 1 (map zf c)),(2,.isl 1 (map zf d)),(7,iA z)]) (fun z=>[]) (fun b=>[]) (fun b=>[]) (fun r env st=>zaO Tryz.prog Tryz.f201 0 (bA r) [] env st) ho (zo []) ?_ ?_ ?_
  ·
   rintro f r h
   replace h:zb9 a c d f=some r:=h
   unfold zb9 at h
   refine zi ?_
   refine rg y<|u<|mv y<|u<|mv y<|u<|lnI ti y y<|u<|lss ti y y<|zb ?_
   refine ze y (fun i=>?_) (fun i=>?_)
   ·
    replace h:=bT i h
    refine zg ?_
    refine zi ?_
    refine zs ?_
    obtain ⟨m,n,h⟩:=bs h
    obtain ⟨l,p,h⟩:=bs h
    obtain ⟨j,q,h⟩:=bs h
    refine rdA [(0,.ipt 1 [[.isl 6 (map zd a)]] 0 0),(1,.isl 1 (map zf c)),(2,.isl 1 (map zf d)),(7,iA f),(29,bA (!j))] [] [] [10,9,8,7,6,5,4,3,2,1,0] [(29,bA (!j)),(28,bA j),(27,sA l),(26,.ipt 1 (map zf d) (Int.toNat f) 0),(25,iA f),(24,.isl 1 (map zf d)),(23,sA m),(22,.ipt 1 (map zf c) (Int.toNat f) 0),(21,iA f),(20,.isl 1 (map zf c)),(19,.ipt 1 [[.isl 6 (map zd a)]] 0 0)] 0 (zhA ⟨pe,(pb y (pc (zc6 a m l q) y y y w)),(pb y (ldI ti y (zl p).2.2 y w)),(pb y (ixI ti y ti y y y p w)),pe,pe,(pb y (ldI ti y (zl n).2.2 y w)),(pb y (ixI ti y ti y y y n w)),pe,pe,pe,t⟩ (zo [])) ?_
    refine ze y (fun e=>?_) (fun e=>?_)
    ·
     replace h:=bT e h
     refine rg y<|u<|asg y<|zb ?_
     refine zj ?_
     obtain rfl:=sm h
     exact ⟨_,y,_,y,zz []⟩
    ·
     replace h:=bF e h
     refine zg ?_
     refine rl y<|u<|mv y<|u<|add ti y y<|u<|asg y<|zb ?_
     obtain rfl:=sm h
     exact ⟨_,y,zo []⟩
   ·
    replace h:=bF i h
    refine zE ?_
    obtain rfl:=sm h
    exact ⟨y,_,y,zo []⟩
  ·
   rintro ⟨⟩ rfl
   replace h:zhf=some r:=h
   unfold zhf at h
   refine zy ?_
   refine rg y<|u<|asg y<|zb ?_
   refine zj ?_
   obtain rfl:=sm h
   exact ⟨_,y,zz []⟩
  ·
   rintro r' rfl env st hp
   obtain rfl:=sm h
   exact hp
def ziI(a:List za)(b:T0)(c:zc)(d:T1)(e:T1)(f:Bool)(g:Bool):Unit:=
  ()
theorem zq(b:List za)(c:T0)(d:zc)(e:T1)(f:T1)(i:Bool)(l:Bool){r:Unit}(h:ziI b c d e f i l=r):SC Tryz.prog 124 [.mpt 0 0 0,bA l] [.one 15 (rK b c d (.isl 1 (map zf e)) (.isl 1 (map zf f)) (bA i))] (.tup []) [.one 15 (rK b c d (.isl 1 (map zf e)) (.isl 1 (map zf f)) (bA (i||(!l))))]:=by
 refine ⟨⟨t,t⟩,zV Tryz.func124 y kz y ?_⟩
 unfold ziI at h
 refine rl y<|u<|mv y<|u<|mv y<|u<|nc y y<|u<|fa ti y y y<|u<|ld ti y y<|u<|mv y<|zcU (j:=5) 2 y y y y y gpn (fun a=>g y a<|mv y<|g y a<|nt y<|zb (egO [10,11] 2 a y y y y)) orT<|u<|nc y y<|u<|fa ti y y y<|u<|sto ti y y y<|zb ?_
 obtain rfl:=h
 exact ⟨_,y,zz [.old 0]⟩
def zdx(c:List za)(f:T0)(g:zc)(h:T1)(i:T1)(b:Bool)(j:Int)(l:T1)(m:T1):Option (Bool):=
  (zc2 c f g h i b j).bind fun a=>cond a.2 ((zdg c l a.1.Locals).bind fun d=>cond d ((zdg c m a.1.Stack).bind fun e=>some (b||(!e))) (some (b||(!false)))) (some (b||(!false)))
theorem zgE(c:List za)(e:T0)(f:zc)(g:T1)(i:T1)(l:Bool)(s:Int)(m:T1)(p:T1){r:Bool}(h:zdx c e f g i l s m p=some r):SC Tryz.prog 128 [.mpt 0 0 0,iA s,.isl 1 (map zf m),.isl 1 (map zf p)] [.one 15 (rK c e f (.isl 1 (map zf g)) (.isl 1 (map zf i)) (bA l))] (.tup []) [.one 15 (rK c e f (.isl 1 (map zf g)) (.isl 1 (map zf i)) (bA r))]:=by
 refine ⟨⟨t,t⟩,zV Tryz.func128 y kz y ?_⟩
 unfold zdx at h
 obtain ⟨a,v,h⟩:=bs h
 refine rg y<|u<|mv y<|u<|mv y<|u<|sx [0] (zgb c e f g i l s v)<|zx (env0:=[(0,.mpt 0 0 0),(2,.isl 1 (map zf m)),(3,.isl 1 (map zf p)),(13,.tup [.agg (zL a.1),bA a.2])]) (st0:=[some (15,[(rK c e f (.isl 1 (map zf g)) (.isl 1 (map zf i)) (bA l))])]) (zo [.old 0])<|u<|mv y<|u<|ex y y<|u<|ex y y<|u<|al 1 ti y<|u<|sto ti y y y<|u<|asg y<|zb ?_
 rcases bb a.2 with j |j
 ·
  replace h:=bT j h
  obtain ⟨d,q,h⟩:=bs h
  rcases bb d with o |o
  ·
   replace h:=bT o h
   obtain ⟨n,x,h⟩:=bs h
   refine zjw [] [some (15,[(rK c e f (.isl 1 (map zf g)) (.isl 1 (map zf i)) (bA (l||(!n))))])] [22] [21,20,19,18,17,16,15,14,13,12,11,10,9,8,7,6,5,4,3,2,1,0] [(37,bA n),(36,bA n),(35,.isl 1 (map zf a.1.Stack)),(34,.mpt 1 0 2),(33,.isl 1 (map zf p)),(32,.ipt 1 [[.isl 6 (map zd c)]] 0 0),(31,.mpt 0 0 0),(30,.mpt 0 0 0),(29,.mpt 0 0 0),(28,bA d),(27,bA d),(26,bA d),(25,.isl 1 (map zf a.1.Locals)),(24,.mpt 1 0 1),(23,.isl 1 (map zf m)),(22,.ipt 1 [[.isl 6 (map zd c)]] 0 0),(21,.mpt 0 0 0),(20,.mpt 0 0 0),(19,.mpt 0 0 0),(18,bA a.2),(17,bA a.2),(16,.mpt 0 0 0)] 1 (zeo ⟨pe,(fun _=>pag (b:=d) y y y y o y (pc (zbf c p a.1.Stack x) y y y<|w)),pe,pe,pe,pe,pe,pe,pe,pe,pe,(fun _=>pag (b:=a.2) y y y y j y (pc (zbf c m a.1.Locals q) y y y<|w)),pe,pe,pe,pe,pe,pe,pe,pe,pe,pe,t⟩ ⟨(fun _ _=>⟨_,y,y,sc [0] (args:=[.mpt 0 0 0,bA n]) (zq c e f g i l n y) y y y y ⟨(.mpt y),(rnI y),t⟩ ⟨⟨_,y,(zsX y)⟩,t⟩<|⟨(.tup []),[],[(38,.tup [])],y,y,kz,y,zhA ⟨pe,pe,pe,pe,pe,pe,pe,pe,pe,pe,pe,(fun _=>pag (b:=a.2) y y y y j y (pc (zbf c m a.1.Locals q) y y y<|w)),pe,pe,pe,pe,pe,pe,pe,pe,pe,pe,t⟩ (zo [.old 0])⟩⟩),t⟩) ?_
   obtain rfl:=sm h
   exact ⟨_,y,zz [.old 0]⟩
  ·
   replace h:=bF o h
   refine zjw [] [some (15,[(rK c e f (.isl 1 (map zf g)) (.isl 1 (map zf i)) (bA (l||(!false))))])] [22] [21,20,19,18,17,16,15,14,13,12,11,10,9,8,7,6,5,4,3,2,1,0] [(37,bA false),(36,.lit undef),(35,.lit undef),(34,.lit undef),(33,.lit undef),(32,.lit undef),(31,.lit undef),(30,.lit undef),(29,.lit undef),(28,bA d),(27,bA d),(26,bA d),(25,.isl 1 (map zf a.1.Locals)),(24,.mpt 1 0 1),(23,.isl 1 (map zf m)),(22,.ipt 1 [[.isl 6 (map zd c)]] 0 0),(21,.mpt 0 0 0),(20,.mpt 0 0 0),(19,.mpt 0 0 0),(18,bA a.2),(17,bA a.2),(16,.mpt 0 0 0)] 1 (zeo ⟨pe,pe,pe,pe,pe,pe,pe,pe,pe,pe,pe,(fun _=>pag (b:=a.2) y y y y j y (pc (zbf c m a.1.Locals q) y y y<|w)),pe,pe,pe,pe,pe,pe,pe,pe,pe,pe,t⟩ ⟨(fun _ _=>⟨_,y,y,sc [0] (args:=[.mpt 0 0 0,bA false]) (zq c e f g i l false y) y y y y ⟨(.mpt y),(rnI y),t⟩ ⟨⟨_,y,(zsX y)⟩,t⟩<|⟨(.tup []),[],[(38,.tup [])],y,y,kz,y,zhA ⟨pe,pe,pe,pe,pe,pe,pe,pe,pe,pe,pe,(fun _=>pag (b:=a.2) y y y y j y (pc (zbf c m a.1.Locals q) y y y<|w)),pe,pe,pe,pe,pe,pe,pe,pe,pe,pe,t⟩ (zo [.old 0])⟩⟩),t⟩) ?_
   obtain rfl:=sm h
   exact ⟨_,y,zz [.old 0]⟩
 ·
  replace h:=bF j h
  refine zjw [] [some (15,[(rK c e f (.isl 1 (map zf g)) (.isl 1 (map zf i)) (bA (l||(!false))))])] [22] [21,20,19,18,17,16,15,14,13,12,11,10,9,8,7,6,5,4,3,2,1,0] [(37,bA false),(36,.lit undef),(35,.lit undef),(34,.lit undef),(33,.lit undef),(32,.lit undef),(31,.lit undef),(30,.lit undef),(29,.lit undef),(28,bA false),(27,bA false),(26,.lit undef),(25,.lit undef),(24,.lit undef),(23,.lit undef),(22,.lit undef),(21,.lit undef),(20,.lit undef),(19,.lit undef),(18,bA a.2),(17,bA a.2),(16,.mpt 0 0 0)] 1 (zmt ⟨(fun _ _=>⟨_,y,y,sc [0] (args:=[.mpt 0 0 0,bA false]) (zq c e f g i l false y) y y y y ⟨(.mpt y),(rnI y),t⟩ ⟨⟨_,y,(zsX y)⟩,t⟩<|⟨(.tup []),[],[(38,.tup [])],y,y,kz,y,zh3 (zo [.old 0])⟩⟩),t⟩) ?_
  obtain rfl:=sm h
  exact ⟨_,y,zz [.old 0]⟩
def zeh(a:zhB):Option (T1×T1):=
  (zh2 16 ([]:T1) a.locals).bind fun b=>(zh2 16 ([]:T1) a.stack).bind fun c=>some (b,c)
theorem zjB(c:zhB){r:T1×T1}(h:zeh c=some r):SC Tryz.prog 129 [.agg (zvX c)] [] (.agg [.msl 0 0 (length r.1),.msl 1 0 (length r.2)]) [.many 1 (map zf r.1),.many 1 (map zf r.2)]:=by
 refine ⟨⟨zh0 (sz:=1) (fun _=>y),zh0 (sz:=1) (fun _=>y),t⟩,zV Tryz.func129 y kz y ?_⟩
 unfold zeh at h
 refine rg y<|u<|bx 0 2 y y y y<|u<|al 1 ti y<|zb ?_
 obtain ⟨a,d,h⟩:=bs h
 obtain ⟨b,e,h⟩:=bs h
 refine rdA [(2,.mpt 0 0 0)] [some (2,[[.msl 1 0 (length a),.msl 2 0 (length b)]]),some (1,map zf a),some (1,map zf b)] [2,5,7] [4,3,1,0] [(7,.isl 1 (map zf c.stack)),(6,.mpt 0 0 1),(4,.isl 1 (map zf c.locals)),(3,.mpt 0 0 0)] 3 (zmt ⟨(fun _ _=>⟨_,y,y,apN (f:=zf) 2 ti y ti y y (by decide) ti y y y roI (fun _=>y) y d<|⟨(.msl 2 0 (length a)),[],[(5,.msl 2 0 (length a))],y,y,kz,y,zmt ⟨nv,(fun _ _=>⟨_,y,y,apN (f:=zf) 3 ti y ti y y (by decide) ti y y y roI (fun _=>y) y e<|⟨(.msl 3 0 (length b)),[6],[(9,.agg [.msl 2 0 (length a),.msl 3 0 (length b)]),(8,.msl 3 0 (length b))],y,y,kz,y,zeo ⟨(pb y (bd ti y y y w)),pe,pe,pe,pe,t⟩ ⟨nv,nv,(fun _ _=>⟨_,y,y,sto ti y y y<|⟨.any,[],[],y,y,kz,t,zh3 (zo [.old 1,.old 2,.old 3])⟩⟩),t⟩⟩⟩),nw,t⟩⟩⟩),nw,nw,t⟩) ?_
 refine zj ?_
 obtain rfl:=sm h
 exact ⟨_,y,zz [.old 1,.old 2]⟩
def zd0(c:List za)(f:T0)(g:zc)(h:T1)(i:T1)(b:Bool)(j:Int)(l:T1)(m:T1):Option (Bool):=
  (zc2 c f g h i b j).bind fun a=>cond a.2 ((zdg c l a.1.Locals).bind fun d=>cond d ((zdg c m a.1.Stack).bind fun e=>some (b||(!e))) (some (b||(!false)))) (some (b||(!false)))
theorem zkP(c:List za)(e:T0)(f:zc)(g:T1)(i:T1)(m:Bool)(s:Int)(n:T1)(j:T1){r:Bool}(h:zd0 c e f g i m s n j=some r):SC Tryz.prog 128 [.mpt 0 0 0,iA s,.isl 1 (map zf n),.msl 1 0 (length j)] [.one 15 (rK c e f (.isl 1 (map zf g)) (.isl 1 (map zf i)) (bA m)),.many 1 (map zf j)] (.tup []) [.one 15 (rK c e f (.isl 1 (map zf g)) (.isl 1 (map zf i)) (bA r)),.many 1 (map zf j)]:=by
 refine ⟨⟨t,zh0 (sz:=1) (fun _=>y),t⟩,zV Tryz.func128 y kz y ?_⟩
 unfold zd0 at h
 obtain ⟨a,v,h⟩:=bs h
 refine rg y<|u<|mv y<|u<|mv y<|u<|sx [0] (zgb c e f g i m s v)<|zx (env0:=[(0,.mpt 0 0 0),(2,.isl 1 (map zf n)),(3,.msl 1 0 (length j)),(13,.tup [.agg (zL a.1),bA a.2])]) (st0:=[some (15,[(rK c e f (.isl 1 (map zf g)) (.isl 1 (map zf i)) (bA m))]),some (1,map zf j)]) (zo [.old 0,.old 1])<|u<|mv y<|u<|ex y y<|u<|ex y y<|u<|al 2 ti y<|u<|sto ti y y y<|u<|asg y<|zb ?_
 rcases bb a.2 with l |l
 ·
  replace h:=bT l h
  obtain ⟨d,q,h⟩:=bs h
  rcases bb d with p |p
  ·
   replace h:=bT p h
   obtain ⟨o,x,h⟩:=bs h
   refine zjw [] [some (15,[(rK c e f (.isl 1 (map zf g)) (.isl 1 (map zf i)) (bA (m||(!o))))]),some (1,map zf j)] [22] [21,20,19,18,17,16,15,14,13,12,11,10,9,8,7,6,5,4,3,2,1,0] [(37,bA o),(36,bA o),(35,.isl 1 (map zf a.1.Stack)),(34,.mpt 2 0 2),(33,.msl 1 0 (length j)),(32,.ipt 1 [[.isl 6 (map zd c)]] 0 0),(31,.mpt 0 0 0),(30,.mpt 0 0 0),(29,.mpt 0 0 0),(28,bA d),(27,bA d),(26,bA d),(25,.isl 1 (map zf a.1.Locals)),(24,.mpt 2 0 1),(23,.isl 1 (map zf n)),(22,.ipt 1 [[.isl 6 (map zd c)]] 0 0),(21,.mpt 0 0 0),(20,.mpt 0 0 0),(19,.mpt 0 0 0),(18,bA a.2),(17,bA a.2),(16,.mpt 0 0 0)] 1 (zeo ⟨pe,(fun _=>pag (b:=d) y y y y p y (pcs (zbf c j a.1.Stack x) y y (.cons (si y) (.cons (zhm y (fun _=>y)) (.cons (si y) .nil))) zcn<|w)),pe,pe,pe,pe,pe,pe,pe,pe,pe,(fun _=>pag (b:=a.2) y y y y l y (pc (zbf c n a.1.Locals q) y y y<|w)),pe,pe,pe,pe,pe,pe,pe,pe,pe,pe,t⟩ ⟨(fun _ _=>⟨_,y,y,sc [0] (args:=[.mpt 0 0 0,bA o]) (zq c e f g i m o y) y y y y ⟨(.mpt y),(rnI y),t⟩ ⟨⟨_,y,(zsX y)⟩,t⟩<|⟨(.tup []),[],[(38,.tup [])],y,y,kz,y,zhA ⟨pe,pe,pe,pe,pe,pe,pe,pe,pe,pe,pe,(fun _=>pag (b:=a.2) y y y y l y (pc (zbf c n a.1.Locals q) y y y<|w)),pe,pe,pe,pe,pe,pe,pe,pe,pe,pe,t⟩ (zo [.old 0,.old 1])⟩⟩),t⟩) ?_
   obtain rfl:=sm h
   exact ⟨_,y,zz [.old 0,.old 1]⟩
  ·
   replace h:=bF p h
   refine zjw [] [some (15,[(rK c e f (.isl 1 (map zf g)) (.isl 1 (map zf i)) (bA (m||(!false))))]),some (1,map zf j)] [22] [21,20,19,18,17,16,15,14,13,12,11,10,9,8,7,6,5,4,3,2,1,0] [(37,bA false),(36,.lit undef),(35,.lit undef),(34,.lit undef),(33,.lit undef),(32,.lit undef),(31,.lit undef),(30,.lit undef),(29,.lit undef),(28,bA d),(27,bA d),(26,bA d),(25,.isl 1 (map zf a.1.Locals)),(24,.mpt 2 0 1),(23,.isl 1 (map zf n)),(22,.ipt 1 [[.isl 6 (map zd c)]] 0 0),(21,.mpt 0 0 0),(20,.mpt 0 0 0),(19,.mpt 0 0 0),(18,bA a.2),(17,bA a.2),(16,.mpt 0 0 0)] 1 (zeo ⟨pe,pe,pe,pe,pe,pe,pe,pe,pe,pe,pe,(fun _=>pag (b:=a.2) y y y y l y (pc (zbf c n a.1.Locals q) y y y<|w)),pe,pe,pe,pe,pe,pe,pe,pe,pe,pe,t⟩ ⟨(fun _ _=>⟨_,y,y,sc [0] (args:=[.mpt 0 0 0,bA false]) (zq c e f g i m false y) y y y y ⟨(.mpt y),(rnI y),t⟩ ⟨⟨_,y,(zsX y)⟩,t⟩<|⟨(.tup []),[],[(38,.tup [])],y,y,kz,y,zhA ⟨pe,pe,pe,pe,pe,pe,pe,pe,pe,pe,pe,(fun _=>pag (b:=a.2) y y y y l y (pc (zbf c n a.1.Locals q) y y y<|w)),pe,pe,pe,pe,pe,pe,pe,pe,pe,pe,t⟩ (zo [.old 0,.old 1])⟩⟩),t⟩) ?_
   obtain rfl:=sm h
   exact ⟨_,y,zz [.old 0,.old 1]⟩
 ·
  replace h:=bF l h
  refine zjw [] [some (15,[(rK c e f (.isl 1 (map zf g)) (.isl 1 (map zf i)) (bA (m||(!false))))]),some (1,map zf j)] [22] [21,20,19,18,17,16,15,14,13,12,11,10,9,8,7,6,5,4,3,2,1,0] [(37,bA false),(36,.lit undef),(35,.lit undef),(34,.lit undef),(33,.lit undef),(32,.lit undef),(31,.lit undef),(30,.lit undef),(29,.lit undef),(28,bA false),(27,bA false),(26,.lit undef),(25,.lit undef),(24,.lit undef),(23,.lit undef),(22,.lit undef),(21,.lit undef),(20,.lit undef),(19,.lit undef),(18,bA a.2),(17,bA a.2),(16,.mpt 0 0 0)] 1 (zmt ⟨(fun _ _=>⟨_,y,y,sc [0] (args:=[.mpt 0 0 0,bA false]) (zq c e f g i m false y) y y y y ⟨(.mpt y),(rnI y),t⟩ ⟨⟨_,y,(zsX y)⟩,t⟩<|⟨(.tup []),[],[(38,.tup [])],y,y,kz,y,zh3 (zo [.old 0,.old 1])⟩⟩),t⟩) ?_
  obtain rfl:=sm h
  exact ⟨_,y,zz [.old 0,.old 1]⟩
def zgc(a:Bool):Option (Bool):=
  some a
def zcQ(a:Int)(b:Bool):Option (Sum (Bool×Int) (Sum (Bool) (Bool))):=
  some (.inl (b,(IntKind.i64.wrap (a+1))))
def zcj(f:List za)(j:T0)(l:zc)(g:T1)(m:T1)(h:Int)(b:Bool)(c:Int)(a:zaF)(d:T0):Option (Sum (Bool×Int) (Sum (Bool) (Bool))):=
  (zft f d [84,104,114,111,119,110]).bind fun e=>cond ((decide (a.From≤h))&&(decide (h<a.To))) ((zd0 f j l g m (b||(!e)) a.At g [d]).bind fun i=>zcQ c i) (zcQ c (b||(!e)))
def zby(e:List za)(f:T0)(d:zc)(g:T1)(h:T1)(i:Int)(c:Bool)(a:Int):Option (Sum (Bool×Int) (Sum (Bool) (Bool))):=
  cond (decide (a<(length d.Traps:Int))) ((idx d.Traps a).bind fun b=>cond (b.C == []) (zcj e f d g h i c a b [84,104,114,111,119,110]) (zcj e f d g h i c a b b.C)) (some (.inr (.inl c)))
def zct(a:List za)(c:T0)(d:zc)(e:T1)(f:T1)(g:Bool)(h:Int):Option (Bool):=
  (zw (fun z=>zby a c d e f h z.1 z.2) (g,0)).bind fun o=>zU o (fun b=>zgc b) some
theorem zlS(c:List za)(d:T0)(e:zc)(a:T1)(f:T1)(E:Bool)(p:Int){r:Bool}(h:zct c d e a f E p=some r):SC Tryz.prog 130 [.mpt 0 0 0,iA p] [.one 15 (rK c d e (.isl 1 (map zf a)) (.isl 1 (map zf f)) (bA E))] (.tup []) [.one 15 (rK c d e (.isl 1 (map zf a)) (.isl 1 (map zf f)) (bA r))]:=by
 refine ⟨⟨t,t⟩,zV Tryz.func130 y kz y ?_⟩
 unfold zct at h
 refine rg y<|u<|asg y<|zb ?_
 obtain ⟨o,ho,h⟩:=bs h
 refine zY (X:=Bool×Int) (B:=Bool) (R:=Bool) (fun z=>[(0,.mpt 0 0 0),(1,iA p),(4,iA z.2)]) (fun z=>[some (15,[(rK c d e (.isl 1 (map zf a)) (.isl 1 (map zf f)) (bA z.1))])]) (fun b=>[]) (fun b=>[some (15,[(rK c d e (.isl 1 (map zf a)) (.isl 1 (map zf f)) (bA b))])]) (fun r env st=>zaO Tryz.prog Tryz.f130 1 (.tup []) [some (15,[(rK c d e (.isl 1 (map zf a)) (.isl 1 (map zf f)) (bA r))])] env st) ho (zo [.old 0]) ?_ ?_ ?_
 ·
  rintro ⟨l,i⟩ r h
  replace h:zby c d e a f p l i=some r:=h
  unfold zby at h
  refine zi ?_
  refine rg y<|u<|mv y<|u<|mv y<|u<|nc y y<|u<|fa ti y y y<|u<|fa ti y y y<|u<|ld ti y y<|u<|lnI ti y y<|u<|lss ti y y<|zb ?_
  refine ze y (fun A=>?_) (fun A=>?_)
  ·
   replace h:=bT A h
   refine zg ?_
   refine zaX (X:=Bool) (fun z=>[(0,.mpt 0 0 0),(1,iA p),(4,iA i)]) (fun z=>[some (15,[(rK c d e (.isl 1 (map zf a)) (.isl 1 (map zf f)) (bA z))])]) (fun z=>zcQ i z=some r) ?_ ?_
   ·
    refine zs ?_
    obtain ⟨m,F,h⟩:=bs h
    refine rg y<|u<|mv y<|u<|nc y y<|u<|fa ti y y y<|u<|fa ti y y y<|u<|ld ti y y<|u<|mv y<|u<|ixI ti y ti y y y F<|u<|ldI ti y (zl F).2.2 y<|u<|al 1 ti y<|u<|sto ti y y y<|zb ?_
    refine rg y<|u<|fa ti y y y<|u<|ld ti y y<|u<|asg y<|zb ?_
    refine zaX (X:=T0) (fun z=>[(0,.mpt 0 0 0),(1,iA p),(4,iA i),(5,.mpt 1 0 0),(6,sA z)]) (fun z=>[some (15,[(rK c d e (.isl 1 (map zf a)) (.isl 1 (map zf f)) (bA l))]),some (4,[(za9 m)])]) (fun z=>zcj c d e a f p l i m z=some r) ?_ ?_
    ·
     refine rg y<|u<|mv y<|u<|seq ti y y<|zb ?_
     refine ze y (fun s=>?_) (fun s=>?_)
     ·
      replace h:=bT s h
      exact rl y<|u<|asg y<|zb (⟨[84,104,114,111,119,110],h,zo [.old 0,.old 1]⟩)
     ·
      replace h:=bF s h
      refine zg ?_
      exact ⟨m.C,h,zo [.old 0,.old 1]⟩
    ·
     rintro q h
     replace h:zcj c d e a f p l i m q=some r:=h
     unfold zcj at h
     obtain ⟨x,G,h⟩:=bs h
     refine rg y<|u<|mv y<|u<|mv y<|u<|nc y y<|u<|fa ti y y y<|u<|ld ti y y<|u<|mv y<|u<|pc (zjh c q [84,104,114,111,119,110] G) y y y<|u<|sx [0] (zq c d e a f l x y)<|zx (env0:=[(0,.mpt 0 0 0),(1,iA p),(4,iA i),(5,.mpt 1 0 0),(6,sA q)]) (st0:=[some (15,[(rK c d e (.isl 1 (map zf a)) (.isl 1 (map zf f)) (bA (l||(!x))))]),some (4,[(za9 m)])]) (zo [.old 0,.old 1])<|zb ?_
     refine rg y<|u<|fa ti y y y<|u<|ld ti y y<|u<|mv y<|u<|leq ti y y<|u<|mv y<|z7 (j:=4) 4 y y y y y gpn (fun n=>g y n<|mv y<|g y n<|fa ti y y y<|g y n<|ld ti y y<|g y n<|lss ti y y<|zb (egA [42,43,44,45] 4 n y y y y)) ze3<|zb ?_
     refine ze y (fun v=>?_) (fun v=>?_)
     ·
      replace h:=bT v h
      obtain ⟨D,H,h⟩:=bs h
      refine zjw [(0,.mpt 0 0 0),(1,iA p),(4,iA i)] [some (15,[(rK c d e (.isl 1 (map zf a)) (.isl 1 (map zf f)) (bA D))])] [9,10] [8,7,6,5,4,3,2,1,0] [(55,sA q),(54,.isl 1 (map zf a)),(53,.mpt 0 0 12),(52,.mpt 0 0 12),(51,.mpt 0 0 0),(50,.mpt 0 0 0),(49,iA m.At),(48,.mpt 1 0 2),(47,.mpt 0 0 0)] 2 (zmt ⟨(fun _ _=>⟨_,y,y,bl 2 ti y ti y (by decide) (by decide) y y y<|⟨(.msl 2 0 1),[],[(56,.msl 2 0 1)],y,y,kz,y,zmt ⟨nv,(fun _ _=>⟨_,y,y,sx [0,2] (zkP c d e a f (l||(!x)) m.At a [q] H)<|⟨(.tup []),[],[(57,.tup [])],y,y,kz,y,zh3 (zo [.old 0])⟩⟩),t⟩⟩⟩),nw,t⟩) ?_
      exact ⟨D,h,zo [.old 0]⟩
     ·
      replace h:=bF v h
      refine zg ?_
      exact ⟨(l||(!x)),h,zo [.old 0]⟩
   ·
    rintro I h
    replace h:zcQ i I=some r:=h
    unfold zcQ at h
    refine rl y<|u<|mv y<|u<|add ti y y<|u<|asg y<|zb ?_
    obtain rfl:=sm h
    exact ⟨_,y,zo [.old 0]⟩
  ·
   replace h:=bF A h
   refine zE ?_
   obtain rfl:=sm h
   exact ⟨y,_,y,zo [.old 0]⟩
 ·
  rintro J rfl
  replace h:zgc J=some r:=h
  unfold zgc at h
  refine zy ?_
  obtain rfl:=sm h
  exact ⟨_,y,zz [.old 0]⟩
 ·
  rintro r' rfl env st hp
  obtain rfl:=sm h
  exact hp
def zau(e:List za)(f:T0)(g:zc)(h:T1)(a:T1)(b:Bool):Option (T0×T1×Bool):=
  cond ((length a:Int) == (0:Int)) (some ([78],a,true)) ((idx a (IntKind.i64.wrap ((length a:Int)-1))).bind fun c=>(zkh a 0 (IntKind.i64.wrap ((length a:Int)-1))).bind fun d=>some (c,d,b))
theorem zaV(d:List za)(e:T0)(f:zc)(g:T1)(i:T1)(j:Bool){r:T0×T1×Bool}(h:zau d e f g i j=some r):SC Tryz.prog 255 [.mpt 0 0 0] [.one 15 (rK d e f (.isl 1 (map zf g)) (.isl 1 (map zf i)) (bA j))] (sA r.1) [.one 15 (rK d e f (.isl 1 (map zf g)) (.isl 1 (map zf r.2.1)) (bA r.2.2))]:=by
 refine ⟨⟨t,t⟩,zV Tryz.func255 y kz y ?_⟩
 unfold zau at h
 refine rg y<|u<|asg y<|zb ?_
 refine rg y<|u<|mv y<|u<|nc y y<|u<|fa ti y y y<|u<|fa ti y y y<|u<|ld ti y y<|u<|lnI ti y y<|u<|asg y<|zb ?_
 refine zi ?_
 refine rg y<|u<|mv y<|u<|eql ti y y<|zb ?_
 refine ze y (fun c=>?_) (fun c=>?_)
 ·
  replace h:=bT c h
  refine rg y<|u<|mv y<|u<|nc y y<|u<|fa ti y y y<|u<|sto ti y y y<|zb ?_
  refine rg y<|u<|asg y<|zb ?_
  refine zj ?_
  obtain rfl:=sm h
  exact ⟨_,y,zz [.old 0]⟩
 ·
  replace h:=bF c h
  refine zg ?_
  obtain ⟨n,l,h⟩:=bs h
  refine rg y<|u<|mv y<|u<|nc y y<|u<|fa ti y y y<|u<|fa ti y y y<|u<|ld ti y y<|u<|mv y<|u<|sub ti y y<|u<|ixI ti y ti y y y l<|u<|ldI ti y (zl l).2.2 y<|u<|asg y<|zb ?_
  obtain ⟨o,m,h⟩:=bs h
  refine rg y<|u<|mv y<|u<|mv y<|u<|nc y y<|u<|fa ti y y y<|u<|fa ti y y y<|u<|ld ti y y<|u<|mv y<|u<|sub ti y y<|u<|slI (a:=0) (b:=(IntKind.i64.wrap ((length i:Int)-1))) ti y ti y y y (zov y m) m<|u<|nc y y<|u<|fa ti y y y<|u<|fa ti y y y<|u<|sto ti y y y<|zb ?_
  refine rg y<|u<|mv y<|u<|asg y<|zb ?_
  refine zj ?_
  obtain rfl:=sm h
  exact ⟨_,y,zz [.old 0]⟩
def zgG(a:T1)(b:Bool):Option (T1×Bool):=
  some (a,b)
def zaH(e:List za)(h:T0)(i:zc)(j:T1)(l:T1)(c:T1)(d:Bool)(a:Int):Option (Sum (T1×Bool×Int) (Sum (T1×Bool) (T1×Bool))):=
  cond (decide (0≤a)) ((idx l a).bind fun f=>(zau e h i j c d).bind fun b=>(zbM e b.1 f).bind fun g=>some (.inl (b.2.1,(b.2.2||(!g)),(IntKind.i64.wrap (a-1))))) (some (.inr (.inl (c,d))))
def zS(c:List za)(d:T0)(e:zc)(f:T1)(g:T1)(h:Bool)(a:T1):Option (T1×Bool):=
  (zw (fun z=>zaH c d e f a z.1 z.2.1 z.2.2) (g,h,(IntKind.i64.wrap ((length a:Int)-1)))).bind fun o=>zU o (fun b=>zgG b.1 b.2) some
theorem zZ(a:List za)(d:T0)(e:zc)(f:T1)(s:T1)(v:Bool)(g:T1){r:T1×Bool}(h:zS a d e f s v g=some r):SC Tryz.prog 203 [.mpt 0 0 0,.isl 1 (map zf g)] [.one 15 (rK a d e (.isl 1 (map zf f)) (.isl 1 (map zf s)) (bA v))] (.tup []) [.one 15 (rK a d e (.isl 1 (map zf f)) (.isl 1 (map zf r.1)) (bA r.2))]:=by
 refine ⟨⟨t,t⟩,zV Tryz.func203 y kz y ?_⟩
 unfold zS at h
 refine rg y<|u<|mv y<|u<|lnI ti y y<|u<|sub ti y y<|u<|asg y<|zb ?_
 obtain ⟨o,ho,h⟩:=bs h
 refine zY (X:=T1×Bool×Int) (B:=T1×Bool) (R:=T1×Bool) (fun z=>[(0,.mpt 0 0 0),(1,.isl 1 (map zf g)),(4,iA z.2.2)]) (fun z=>[some (15,[(rK a d e (.isl 1 (map zf f)) (.isl 1 (map zf z.1)) (bA z.2.1))])]) (fun b=>[]) (fun b=>[some (15,[(rK a d e (.isl 1 (map zf f)) (.isl 1 (map zf b.1)) (bA b.2))])]) (fun r env st=>zaO Tryz.prog Tryz.f203 1 (.tup []) [some (15,[(rK a d e (.isl 1 (map zf f)) (.isl 1 (map zf r.1)) (bA r.2))])] env st) ho (zo [.old 0]) ?_ ?_ ?_
 ·
  rintro ⟨n,p,i⟩ r h
  replace h:zaH a d e f g n p i=some r:=h
  unfold zaH at h
  refine zi ?_
  refine rg y<|u<|mv y<|u<|geq ti y y<|zb ?_
  refine ze y (fun l=>?_) (fun l=>?_)
  ·
   replace h:=bT l h
   refine zg ?_
   refine zi ?_
   refine zs ?_
   obtain ⟨q,j,h⟩:=bs h
   obtain ⟨c,C,h⟩:=bs h
   obtain ⟨m,D,h⟩:=bs h
   refine zjw [(0,.mpt 0 0 0),(1,.isl 1 (map zf g)),(4,iA i)] [some (15,[(rK a d e (.isl 1 (map zf f)) (.isl 1 (map zf c.2.1)) (bA (c.2.2||(!m))))])] [6,12] [10,9,8,7,5,4,3,2,1,0] [(22,sA q),(21,.ipt 1 (map zf g) (Int.toNat i) 0),(20,iA i),(19,.isl 1 (map zf g)),(17,.mpt 0 0 0),(16,.ipt 1 [[.isl 6 (map zd a)]] 0 0),(15,.mpt 0 0 0),(14,.mpt 0 0 0),(13,.mpt 0 0 0),(12,.mpt 0 0 0)] 2 (zeo ⟨(pb y (ldI ti y (zl j).2.2 y w)),(pb y (ixI ti y ti y y y j w)),pe,pe,pe,pe,pe,pe,pe,pe,t⟩ ⟨(fun _ _=>⟨_,y,y,sx [0] (zaV a d e f n p C)<|⟨(sA c.1),[11],[(23,bA m),(18,sA c.1)],y,y,kz,y,zeo ⟨(pb y (pc (zc6 a c.1 q D) y y y w)),(pb y (ldI ti y (zl j).2.2 y w)),(pb y (ixI ti y ti y y y j w)),pe,pe,pe,pe,pe,pe,pe,pe,t⟩ ⟨nv,(fun _ _=>⟨_,y,y,sx [0] (zq a d e f c.2.1 c.2.2 m y)<|⟨(.tup []),[],[(24,.tup [])],y,y,kz,y,zhA ⟨pe,(pb y (ldI ti y (zl j).2.2 y w)),(pb y (ixI ti y ti y y y j w)),pe,pe,pe,pe,pe,pe,pe,pe,t⟩ (zo [.old 0])⟩⟩),t⟩⟩⟩),nw,t⟩) ?_
   refine rl y<|u<|mv y<|u<|sub ti y y<|u<|asg y<|zb ?_
   obtain rfl:=sm h
   exact ⟨_,y,zo [.old 0]⟩
  ·
   replace h:=bF l h
   refine zE ?_
   obtain rfl:=sm h
   exact ⟨y,_,y,zo [.old 0]⟩
 ·
  rintro ⟨x,A⟩ rfl
  replace h:zgG x A=some r:=h
  unfold zgG at h
  refine zy ?_
  obtain rfl:=sm h
  exact ⟨_,y,zz [.old 0]⟩
 ·
  rintro r' rfl env st hp
  obtain rfl:=sm h
  exact hp
def zP(g:List za)(h:T0)(b:zc)(i:T1)(c:T1)(d:Bool)(e:T0):Option (T1×Bool):=
  (zh2 16 ([]:T1) c).bind fun f=>(zh2 16 f [e]).bind fun a=>some (a,(d||(!(decide ((length a:Int)≤b.Stack)))))
theorem zO(c:List za)(d:T0)(a:zc)(e:T1)(j:T1)(g:Bool)(i:T0){r:T1×Bool}(h:zP c d a e j g i=some r):SC Tryz.prog 204 [.mpt 0 0 0,sA i] [.one 15 (rK c d a (.isl 1 (map zf e)) (.isl 1 (map zf j)) (bA g))] (.tup []) [.one 15 (rK c d a (.isl 1 (map zf e)) (.isl 1 (map zf r.1)) (bA r.2))]:=by
 refine ⟨⟨t,t⟩,zV Tryz.func204 y kz y ?_⟩
 unfold zP at h
 obtain ⟨n,l,h⟩:=bs h
 obtain ⟨b,m,h⟩:=bs h
 refine rg y<|u<|mv y<|u<|mv y<|u<|nc y y<|u<|fa ti y y y<|u<|fa ti y y y<|u<|ld ti y y<|u<|apN (f:=zf) 1 ti y ti y y (by decide) ti y y y roI (fun _=>y) y l<|u<|mv y<|u<|bl 2 ti y ti y (by decide) (by decide) y y y<|u<|apM 3 ti y ti y y (by decide) ti y y y y (roX (f:=zf) (z:=[i]) y y) (fun _=>y) y m<|u<|nc y y<|u<|fa ti y y y<|u<|fa ti y y y<|u<|sto ti y y y<|zb ?_
 refine zp0 (env0:=[(0,.mpt 0 0 0)]) (st0:=[some (15,[(rK c d a (.isl 1 (map zf e)) (.isl 1 (map zf b)) (bA g))])]) (zo [.old 0]) ?_
 refine zjw [] [some (15,[(rK c d a (.isl 1 (map zf e)) (.isl 1 (map zf b)) (bA (g||(!(decide ((length b:Int)≤a.Stack))))))])] [13] [12,11,10,9,8,7,6,5,4,3,2,1,0] [(29,bA (decide ((length b:Int)≤a.Stack))),(28,iA a.Stack),(27,.mpt 0 0 8),(26,.mpt 0 0 2),(25,.mpt 0 0 0),(24,.mpt 0 0 0),(23,iA (length b:Int)),(22,.isl 1 (map zf b)),(21,.mpt 0 0 13),(20,.mpt 0 0 12),(19,.mpt 0 0 0),(18,.mpt 0 0 0),(17,.mpt 0 0 0)] 1 (zeo ⟨pe,pe,pe,pe,pe,pe,(pb y (lnI ti y y w)),pe,pe,pe,pe,pe,pe,t⟩ ⟨(fun _ _=>⟨_,y,y,sx [0] (zq c d a e b g (decide ((length b:Int)≤a.Stack)) y)<|⟨(.tup []),[],[(30,.tup [])],y,y,kz,y,zhA ⟨pe,pe,pe,pe,pe,pe,(pb y (lnI ti y y w)),pe,pe,pe,pe,pe,pe,t⟩ (zo [.old 0])⟩⟩),t⟩) ?_
 obtain rfl:=sm h
 exact ⟨_,y,zz [.old 0]⟩
def zbJ(b:List za)(c:T0)(d:zc)(e:T1)(f:T1)(g:Bool):Option (T0×T1×Bool):=
  (zau b c d e f g).bind fun a=>some (a.1,a.2.1,(a.2.2||(!(!(a.1 == [73])))))
theorem zcG(b:List za)(c:T0)(d:zc)(e:T1)(f:T1)(g:Bool){r:T0×T1×Bool}(h:zbJ b c d e f g=some r):SC Tryz.prog 256 [.mpt 0 0 0] [.one 15 (rK b c d (.isl 1 (map zf e)) (.isl 1 (map zf f)) (bA g))] (sA r.1) [.one 15 (rK b c d (.isl 1 (map zf e)) (.isl 1 (map zf r.2.1)) (bA r.2.2))]:=by
 refine ⟨⟨t,t⟩,zV Tryz.func256 y kz y ?_⟩
 unfold zbJ at h
 refine rg y<|u<|asg y<|zb ?_
 obtain ⟨a,i,h⟩:=bs h
 refine rg y<|u<|mv y<|u<|sx [0] (zaV b c d e f g i)<|zx (env0:=[(0,.mpt 0 0 0),(5,sA a.1)]) (st0:=[some (15,[(rK b c d (.isl 1 (map zf e)) (.isl 1 (map zf a.2.1)) (bA a.2.2))])]) (zo [.old 0])<|u<|asg y<|zb ?_
 refine rg y<|u<|mv y<|u<|mv y<|u<|sne ti y y<|u<|sx [0] (zq b c d e a.2.1 a.2.2 (!(a.1 == [73])) y)<|zx (env0:=[(3,sA a.1)]) (st0:=[some (15,[(rK b c d (.isl 1 (map zf e)) (.isl 1 (map zf a.2.1)) (bA (a.2.2||(!(!(a.1 == [73]))))))])]) (zo [.old 0])<|zb ?_
 refine rg y<|u<|mv y<|u<|asg y<|zb ?_
 refine zj ?_
 obtain rfl:=sm h
 exact ⟨_,y,zz [.old 0]⟩
def za7(e:List za)(f:T0)(g:zc)(b:T1)(h:zp)(a:T1)(c:Bool):Option (T1×Bool):=
  (zdx e f g b a c h.A b a).bind fun d=>some (a,d)
def zcP(a:List za)(b:T0)(c:zc)(d:T1)(f:T1)(g:Bool)(e:zp):Option (T1×Bool):=
  cond (decide (e.Op≤26)) ((zS a b c d f g ([[73]])).bind fun l=>za7 a b c d e l.1 l.2) (cond (decide (e.Op≤32)) ((zS a b c d f g ([[73],[73]])).bind fun m=>za7 a b c d e m.1 m.2) (cond (decide (e.Op≤34)) ((zbJ a b c d f g).bind fun h=>za7 a b c d e h.2.1 h.2.2) ((zbJ a b c d f g).bind fun i=>(zbJ a b c d i.2.1 i.2.2).bind fun j=>za7 a b c d e j.2.1 j.2.2)))
theorem zml(b:List za)(c:T0)(d:zc)(a:T1)(f:T1)(g:Bool)(e:zp){r:T1×Bool}(h:zcP b c d a f g e=some r):SC Tryz.prog 205 [.mpt 0 0 0,.agg (zu e)] [.one 15 (rK b c d (.isl 1 (map zf a)) (.isl 1 (map zf f)) (bA g))] (.tup []) [.one 15 (rK b c d (.isl 1 (map zf a)) (.isl 1 (map zf r.1)) (bA r.2))]:=by
 refine ⟨⟨t,t⟩,zV Tryz.func205 y kz y ?_⟩
 unfold zcP at h
 refine rg y<|u<|bx 1 4 y y y y<|zb ?_
 refine zaX (X:=T1×Bool) (fun z=>[(0,.mpt 0 0 0),(3,.mpt 1 0 0)]) (fun z=>[some (15,[(rK b c d (.isl 1 (map zf a)) (.isl 1 (map zf z.1)) (bA z.2))]),some (4,[(zu e)])]) (fun z=>za7 b c d a e z.1 z.2=some r) ?_ ?_
 ·
  refine zs ?_
  refine rg y<|u<|fa ti y y y<|u<|ld ti y y<|u<|leq ti y y<|u<|asg y<|zb ?_
  refine ze y (fun n=>?_) (fun n=>?_)
  ·
   replace h:=bT n h
   obtain ⟨q,B,h⟩:=bs h
   exact rl y<|u<|mv y<|u<|bl 2 ti y ti y (by decide) (by decide) y y y<|zx (env0:=[(0,.mpt 0 0 0),(3,.mpt 1 0 0),(12,.mpt 0 0 0),(13,.isl 1 (map zf ([[73]])))]) (st0:=[some (15,[(rK b c d (.isl 1 (map zf a)) (.isl 1 (map zf f)) (bA g))]),some (4,[(zu e)])]) (zo [.old 0,.old 1])<|u<|sx [0] (zZ b c d a f g ([[73]]) B)<|zx (env0:=[(0,.mpt 0 0 0),(3,.mpt 1 0 0)]) (st0:=[some (15,[(rK b c d (.isl 1 (map zf a)) (.isl 1 (map zf q.1)) (bA q.2))]),some (4,[(zu e)])]) (zo [.old 0,.old 1])<|zb (⟨⟨q.1,q.2⟩,h,zo [.old 0,.old 1]⟩)
  ·
   replace h:=bF n h
   refine rg y<|u<|fa ti y y y<|u<|ld ti y y<|u<|leq ti y y<|u<|asg y<|zb ?_
   refine ze y (fun o=>?_) (fun o=>?_)
   ·
    replace h:=bT o h
    obtain ⟨s,C,h⟩:=bs h
    exact rl y<|u<|mv y<|u<|bl 2 ti y ti y (by decide) (by decide) y y y<|zx (env0:=[(0,.mpt 0 0 0),(3,.mpt 1 0 0),(19,.mpt 0 0 0),(20,.isl 1 (map zf ([[73],[73]])))]) (st0:=[some (15,[(rK b c d (.isl 1 (map zf a)) (.isl 1 (map zf f)) (bA g))]),some (4,[(zu e)])]) (zo [.old 0,.old 1])<|u<|sx [0] (zZ b c d a f g ([[73],[73]]) C)<|zx (env0:=[(0,.mpt 0 0 0),(3,.mpt 1 0 0)]) (st0:=[some (15,[(rK b c d (.isl 1 (map zf a)) (.isl 1 (map zf s.1)) (bA s.2))]),some (4,[(zu e)])]) (zo [.old 0,.old 1])<|zb (⟨⟨s.1,s.2⟩,h,zo [.old 0,.old 1]⟩)
   ·
    replace h:=bF o h
    refine rg y<|u<|fa ti y y y<|u<|ld ti y y<|u<|leq ti y y<|u<|asg y<|zb ?_
    refine ze y (fun p=>?_) (fun p=>?_)
    ·
     replace h:=bT p h
     obtain ⟨j,D,h⟩:=bs h
     exact rl y<|u<|mv y<|u<|sx [0] (zcG b c d a f g D)<|zx (env0:=[(0,.mpt 0 0 0),(3,.mpt 1 0 0)]) (st0:=[some (15,[(rK b c d (.isl 1 (map zf a)) (.isl 1 (map zf j.2.1)) (bA j.2.2))]),some (4,[(zu e)])]) (zo [.old 0,.old 1])<|zb (⟨⟨j.2.1,j.2.2⟩,h,zo [.old 0,.old 1]⟩)
    ·
     replace h:=bF p h
     obtain ⟨l,E,h⟩:=bs h
     refine rg y<|u<|mv y<|u<|sx [0] (zcG b c d a f g E)<|zx (env0:=[(0,.mpt 0 0 0),(3,.mpt 1 0 0)]) (st0:=[some (15,[(rK b c d (.isl 1 (map zf a)) (.isl 1 (map zf l.2.1)) (bA l.2.2))]),some (4,[(zu e)])]) (zo [.old 0,.old 1])<|zb ?_
     obtain ⟨m,F,h⟩:=bs h
     exact rl y<|u<|mv y<|u<|sx [0] (zcG b c d a l.2.1 l.2.2 F)<|zx (env0:=[(0,.mpt 0 0 0),(3,.mpt 1 0 0)]) (st0:=[some (15,[(rK b c d (.isl 1 (map zf a)) (.isl 1 (map zf m.2.1)) (bA m.2.2))]),some (4,[(zu e)])]) (zo [.old 0,.old 1])<|zb (⟨⟨m.2.1,m.2.2⟩,h,zo [.old 0,.old 1]⟩)
 ·
  rintro ⟨i,v⟩ h
  replace h:za7 b c d a e i v=some r:=h
  unfold za7 at h
  obtain ⟨x,G,h⟩:=bs h
  refine zjw [] [some (15,[(rK b c d (.isl 1 (map zf a)) (.isl 1 (map zf i)) (bA x))])] [13] [12,11,10,9,8,7,6,5,4,3,2,1,0] [(40,.isl 1 (map zf i)),(39,.mpt 0 0 13),(38,.mpt 0 0 12),(37,.mpt 0 0 0),(36,.mpt 0 0 0),(35,.isl 1 (map zf a)),(34,.mpt 0 0 12),(33,.mpt 0 0 12),(32,.mpt 0 0 0),(31,.mpt 0 0 0),(30,iA e.A),(29,.mpt 1 0 1),(28,.mpt 0 0 0)] 1 (zmt ⟨(fun _ _=>⟨_,y,y,sx [0] (zgE b c d a i v e.A a i G)<|⟨(.tup []),[],[(41,.tup [])],y,y,kz,y,zh3 (zo [.old 0])⟩⟩),t⟩) ?_
  obtain rfl:=sm h
  exact ⟨_,y,zz [.old 0]⟩
def zhQ:Option (T0×zt×Bool):=
  some ([],(zt.mk [] [] false),false)
def zcr(e:List za)(j:T0)(d:T1)(a:Int):Option (Sum (Int) (Sum (Unit) (T0×zt×Bool))):=
  cond (decide (a<((length d):Int))) ((idx d a).bind fun f=>(zaD e f).bind fun g=>(idx e g).bind fun b=>(ziX b j).bind fun c=>cond (decide (0≤c)) ((idx d a).bind fun h=>(idx b.Fields c).bind fun i=>some (.inr (.inr (h,i,true)))) (some (.inl (IntKind.i64.wrap (a+1))))) (some (.inr (.inl ())))
def zf5(a:List za)(c:T0)(d:T0):Option (T0×zt×Bool):=
  (zbA a c).bind fun e=>(zw (fun z=>zcr a d e z) 0).bind fun o=>zU o (fun b=>zhQ) some
theorem zjy(a:List za)(C:T0)(f:T0){r:T0×zt×Bool}(h:zf5 a C f=some r):zG Tryz.prog 257 [.ipt 1 [[.isl 6 (map zd a)]] 0 0,sA C,sA f] (.tup [sA r.1,.agg (zJ r.2.1),bA r.2.2]):=by
 refine zr Tryz.func257 y kz y y ?_
 unfold zf5 at h
 refine rg y<|u<|asg y<|u<|al 0 ti y<|u<|asg y<|zb ?_
 obtain ⟨d,E,h⟩:=bs h
 refine rg y<|u<|mv y<|u<|mv y<|u<|sx [] (zcx a C E)<|zx (env0:=[(0,.ipt 1 [[.isl 6 (map zd a)]] 0 0),(2,sA f),(7,.mpt 0 0 0),(15,.msl 1 0 (length d))]) (st0:=[some (3,[[sA [],sA [],bA false]]),some (1,map zf d)]) (zo [.old 0,.old 1])<|u<|asg y<|zb ?_
 refine zi ?_
 refine rg y<|u<|asg y<|zb ?_
 obtain ⟨o,ho,h⟩:=bs h
 refine zY (X:=Int) (B:=Unit) (R:=T0×zt×Bool) (fun z=>[(0,.ipt 1 [[.isl 6 (map zd a)]] 0 0),(2,sA f),(7,.mpt 0 0 0),(9,.msl 1 0 (length d)),(10,iA z)]) (fun z=>[some (3,[[sA [],sA [],bA false]]),some (1,map zf d)]) (fun b=>[(7,.mpt 0 0 0)]) (fun b=>[some (3,[[sA [],sA [],bA false]])]) (fun r env st=>zaO Tryz.prog Tryz.f257 0 (.tup [sA r.1,.agg (zJ r.2.1),bA r.2.2]) [] env st) ho (zo [.old 0,.old 1]) ?_ ?_ ?_
 ·
  rintro c r h
  replace h:zcr a f d c=some r:=h
  unfold zcr at h
  refine zi ?_
  refine rg y<|u<|mv y<|u<|mv y<|u<|lnM ti y y y<|u<|lss ti y y<|zb ?_
  refine ze y (fun g=>?_) (fun g=>?_)
  ·
   replace h:=bT g h
   refine zg ?_
   refine zi ?_
   refine zs ?_
   obtain ⟨m,j,h⟩:=bs h
   obtain ⟨p,q,h⟩:=bs h
   obtain ⟨e,l,h⟩:=bs h
   refine rdA [(0,.ipt 1 [[.isl 6 (map zd a)]] 0 0),(2,sA f),(7,.mpt 0 0 0),(9,.msl 1 0 (length d)),(10,iA c),(11,.mpt 2 0 0)] [some (3,[[sA [],sA [],bA false]]),some (1,map zf d),some (6,[(zd e)])] [12,13] [11,10,9,8,7,6,5,4,3,2,1,0] [(33,.agg (zd e)),(32,.ipt 6 (map zd a) (Int.toNat p) 0),(31,iA p),(30,sA m),(29,.mpt 1 (Int.toNat c) 0),(28,iA c),(27,.msl 1 0 (length d)),(26,.ipt 1 [[.isl 6 (map zd a)]] 0 0),(25,.isl 6 (map zd a)),(24,.ipt 1 [[.isl 6 (map zd a)]] 0 0),(23,.ipt 1 [[.isl 6 (map zd a)]] 0 0),(22,.ipt 1 [[.isl 6 (map zd a)]] 0 0)] 2 (zeo ⟨(pb y (ldI ti y (zl l).2.2 y w)),(pb y (ixI ti y ti y y y l w)),(pb y (pc (zW a m q) y y y w)),(pb y (ldM ti y y (zl j).2.2 y w)),(pb y (ixM ti y ti y y y y j w)),pe,pe,pe,pe,pe,pe,pe,t⟩ ⟨(fun _ _=>⟨_,y,y,al 2 ti y<|⟨(.mpt 2 0 0),[],[(11,.mpt 2 0 0)],y,y,kz,y,zeo ⟨(pb y (ldI ti y (zl l).2.2 y w)),(pb y (ixI ti y ti y y y l w)),(pb y (pc (zW a m q) y y y w)),(pb y (ldM ti y y (zl j).2.2 y w)),(pb y (ixM ti y ti y y y y j w)),pe,pe,pe,pe,pe,pe,pe,t⟩ ⟨nv,(fun _ _=>⟨_,y,y,sto ti y y y<|⟨.any,[],[],y,y,kz,t,zh3 (zo [.old 0,.old 1,.old 2])⟩⟩),t⟩⟩⟩),nw,t⟩) ?_
   obtain ⟨s,D,h⟩:=bs h
   refine rg y<|u<|ld ti y y<|u<|mv y<|u<|pc (znC e f D) y y y<|u<|asg y<|zb ?_
   refine rg y<|u<|mv y<|u<|geq ti y y<|zb ?_
   refine ze y (fun i=>?_) (fun i=>?_)
   ·
    replace h:=bT i h
    obtain ⟨n,v,h⟩:=bs h
    obtain ⟨x,A,h⟩:=bs h
    refine rdA [(6,sA n),(7,.mpt 0 0 0),(8,bA true)] [some (3,[(zJ x)])] [10] [9,8,7,6,5,4,3,2,1,0] [(6,sA n),(47,.agg (zJ x)),(46,.ipt 3 (map zJ e.Fields) (Int.toNat s) 0),(45,iA s),(44,.isl 3 (map zJ e.Fields)),(43,.mpt 2 0 4),(42,sA n),(41,.mpt 1 (Int.toNat c) 0),(40,iA c),(39,.msl 1 0 (length d))] 1 (zeo ⟨pe,(pb y (ldI ti y (zl A).2.2 y w)),(pb y (ixI ti y ti y y y A w)),pe,pe,pe,(pb y (ldM ti y y (zl v).2.2 y w)),(pb y (ixM ti y ti y y y y v w)),pe,pe,t⟩ ⟨(fun _ _=>⟨_,y,y,sto ti y y y<|⟨.any,[11],[(8,bA true)],y,y,kz,t,zh3 (zo [.old 0])⟩⟩),t⟩) ?_
    refine zj ?_
    obtain rfl:=sm h
    exact ⟨_,y,_,y,zz []⟩
   ·
    replace h:=bF i h
    refine zg ?_
    refine rl y<|u<|mv y<|u<|add ti y y<|u<|asg y<|zb ?_
    obtain rfl:=sm h
    exact ⟨_,y,zo [.old 0,.old 1]⟩
  ·
   replace h:=bF g h
   refine zE ?_
   obtain rfl:=sm h
   exact ⟨y,_,y,zo [.old 0]⟩
 ·
  rintro ⟨⟩ rfl
  replace h:zhQ=some r:=h
  unfold zhQ at h
  refine zy ?_
  refine rg y<|u<|bd ti y y y<|u<|asg y<|u<|sto ti y y y<|u<|asg y<|zb ?_
  refine zj ?_
  obtain rfl:=sm h
  exact ⟨_,y,zz []⟩
 ·
  rintro r' rfl env st hp
  obtain rfl:=sm h
  exact hp
def zba(f:List za)(g:T0)(h:zc)(i:T1)(d:zp)(e:T0×zt×Bool)(a:T1)(b:Bool):Option (T1×Bool):=
  cond ((d.Op == (38:Int))||(d.Op == (40:Int))) ((zP f g h i a b e.2.1.Type_).bind fun c=>some (c.1,c.2)) (some (a,b))
def zaw(f:List za)(g:T0)(h:zc)(i:T1)(a:zp)(b:T0×zt×Bool)(c:T1)(d:Bool):Option (T1×Bool):=
  cond ((a.Op == (38:Int))||(a.Op == (39:Int))) ((zS f g h i c d [a.C]).bind fun e=>zba f g h i a b e.1 e.2) (zba f g h i a b c d)
def zcs(c:List za)(f:T0)(g:zc)(h:T1)(d:T1)(e:Bool)(a:zp):Option (T1×Bool):=
  (zaD c a.C).bind fun l=>cond (decide (l<0)) (some (d,true)) (cond (a.Op == (37:Int)) ((idx c l).bind fun m=>(zP c f g h d (e||(!(!m.Interface))) a.C).bind fun i=>some (i.1,i.2)) ((zf5 c a.C a.M).bind fun b=>cond (e||(!(b.2.2&&(b.2.1.Static == ((a.Op == (40:Int))||(a.Op == (41:Int))))))) (some (d,(e||(!(b.2.2&&(b.2.1.Static == ((a.Op == (40:Int))||(a.Op == (41:Int))))))))) (cond ((a.Op == (39:Int))||(a.Op == (41:Int))) ((zS c f g h d (e||(!(b.2.2&&(b.2.1.Static == ((a.Op == (40:Int))||(a.Op == (41:Int))))))) [b.2.1.Type_]).bind fun j=>zaw c f g h a b j.1 j.2) (zaw c f g h a b d (e||(!(b.2.2&&(b.2.1.Static == ((a.Op == (40:Int))||(a.Op == (41:Int)))))))))))
theorem zlP(c:List za)(d:T0)(e:zc)(f:T1)(l:T1)(m:Bool)(b:zp){r:T1×Bool}(h:zcs c d e f l m b=some r):SC Tryz.prog 206 [.mpt 0 0 0,.agg (zu b)] [.one 15 (rK c d e (.isl 1 (map zf f)) (.isl 1 (map zf l)) (bA m))] (.tup []) [.one 15 (rK c d e (.isl 1 (map zf f)) (.isl 1 (map zf r.1)) (bA r.2))]:=by
 refine ⟨⟨t,t⟩,zV Tryz.func206 y kz y ?_⟩
 unfold zcs at h
 refine rg y<|u<|bx 1 4 y y y y<|zb ?_
 obtain ⟨N,U,h⟩:=bs h
 refine rdA [(0,.mpt 0 0 0),(3,.mpt 1 0 0),(4,iA N)] [some (15,[(rK c d e (.isl 1 (map zf f)) (.isl 1 (map zf l)) (bA m))]),some (4,[(zu b)])] [] [7,6,5,4,3,2,1,0] [(4,iA N),(14,iA N),(13,sA b.C),(12,.mpt 1 0 2),(11,.ipt 1 [[.isl 6 (map zd c)]] 0 0),(10,.mpt 0 0 0),(9,.mpt 0 0 0),(8,.mpt 0 0 0)] 0 (zhA ⟨pe,(pb y (pc (zW c b.C U) y y y w)),pe,pe,pe,pe,pe,pe,t⟩ (zo [.old 0,.old 1])) ?_
 refine zi ?_
 refine rg y<|u<|mv y<|u<|lss ti y y<|zb ?_
 refine ze y (fun F=>?_) (fun F=>?_)
 ·
  replace h:=bT F h
  refine rg y<|u<|mv y<|u<|nc y y<|u<|fa ti y y y<|u<|sto ti y y y<|zb ?_
  refine zj ?_
  obtain rfl:=sm h
  exact ⟨_,y,zz [.old 0]⟩
 ·
  replace h:=bF F h
  refine zg ?_
  refine zi ?_
  refine rg y<|u<|fa ti y y y<|u<|ld ti y y<|u<|eql ti y y<|zb ?_
  refine ze y (fun G=>?_) (fun G=>?_)
  ·
   replace h:=bT G h
   obtain ⟨O,P,h⟩:=bs h
   refine rg y<|u<|mv y<|u<|mv y<|u<|nc y y<|u<|fa ti y y y<|u<|ld ti y y<|u<|nc y y<|u<|fa ti y y y<|u<|ld ti y y<|u<|mv y<|u<|ixI ti y ti y y y P<|u<|fa ti y y y<|u<|ldI ti y (zl P).2.2 y<|u<|nt y<|u<|sx [0] (zq c d e f l m (!O.Interface) y)<|zx (env0:=[(0,.mpt 0 0 0),(3,.mpt 1 0 0)]) (st0:=[some (15,[(rK c d e (.isl 1 (map zf f)) (.isl 1 (map zf l)) (bA (m||(!(!O.Interface)))))]),some (4,[(zu b)])]) (zo [.old 0,.old 1])<|zb ?_
   obtain ⟨I,V,h⟩:=bs h
   refine rg y<|u<|mv y<|u<|fa ti y y y<|u<|ld ti y y<|u<|sx [0] (zO c d e f l (m||(!(!O.Interface))) b.C V)<|zx (env0:=[]) (st0:=[some (15,[(rK c d e (.isl 1 (map zf f)) (.isl 1 (map zf I.1)) (bA I.2))])]) (zo [.old 0])<|zb ?_
   refine zj ?_
   obtain rfl:=sm h
   exact ⟨_,y,zz [.old 0]⟩
  ·
   replace h:=bF G h
   refine zg ?_
   obtain ⟨a,Q,h⟩:=bs h
   refine rdA [(0,.mpt 0 0 0),(3,.mpt 1 0 0),(6,.mpt 2 0 0),(7,bA a.2.2)] [some (15,[(rK c d e (.isl 1 (map zf f)) (.isl 1 (map zf l)) (bA m))]),some (4,[(zu b)]),some (3,[(zJ a.2.1)])] [13,15] [12,11,10,9,8,7,6,5,4,3,2,1,0] [(53,bA a.2.2),(52,.agg (zJ a.2.1)),(51,sA a.1),(41,.tup [sA a.1,.agg (zJ a.2.1),bA a.2.2]),(50,.tup [sA a.1,.agg (zJ a.2.1),bA a.2.2]),(49,sA b.M),(48,.mpt 1 0 3),(47,sA b.C),(46,.mpt 1 0 2),(45,.ipt 1 [[.isl 6 (map zd c)]] 0 0),(44,.mpt 0 0 0),(43,.mpt 0 0 0),(42,.mpt 0 0 0)] 2 (zeo ⟨pe,pe,pe,pe,(pb y (pc (zjy c b.C b.M Q) y y y w)),pe,pe,pe,pe,pe,pe,pe,pe,t⟩ ⟨(fun _ _=>⟨_,y,y,al 2 ti y<|⟨(.mpt 2 0 0),[14],[(5,sA a.1),(6,.mpt 2 0 0)],y,y,kz,y,zeo ⟨pe,pe,pe,pe,pe,(pb y (pc (zjy c b.C b.M Q) y y y w)),pe,pe,pe,pe,pe,pe,pe,pe,t⟩ ⟨nv,(fun _ _=>⟨_,y,y,sto ti y y y<|⟨.any,[16],[(7,bA a.2.2)],y,y,kz,t,zh3 (zo [.old 0,.old 1,.old 2])⟩⟩),t⟩⟩⟩),nw,t⟩) ?_
   refine rg y<|u<|mv y<|u<|mv y<|u<|mv y<|z7 (j:=2) 11 y y y y y gpn (fun i=>g y i<|fa ti y y y<|g y i<|ld ti y y<|g y i<|fa ti y y y<|g y i<|ld ti y y<|g y i<|eql ti y y<|g y i<|mv y<|zcU (j:=8) 3 y y y y y (gps y y i) (fun x=>g y x<|fa ti y y y<|g y x<|ld ti y y<|g y x<|eql ti y y<|zb (egO [63,64,65] 3 x y y y y)) orT<|g y i<|beq ti y y y<|zb (egA [57,58,59,60,61,62,63,64,65,66,67] 8 i y y y y)) ze3<|u<|sx [0] (zq c d e f l m (a.2.2&&(a.2.1.Static == ((b.Op == (40:Int))||(b.Op == (41:Int))))) y)<|zx (env0:=[(0,.mpt 0 0 0),(3,.mpt 1 0 0),(6,.mpt 2 0 0)]) (st0:=[some (15,[(rK c d e (.isl 1 (map zf f)) (.isl 1 (map zf l)) (bA (m||(!(a.2.2&&(a.2.1.Static == ((b.Op == (40:Int))||(b.Op == (41:Int)))))))))]),some (4,[(zu b)]),some (3,[(zJ a.2.1)])]) (zo [.old 0,.old 1,.old 2])<|zb ?_
   refine zi ?_
   refine rg y<|u<|mv y<|u<|nc y y<|u<|fa ti y y y<|u<|ld ti y y<|zb ?_
   refine ze y (fun H=>?_) (fun H=>?_)
   ·
    replace h:=bT H h
    refine zj ?_
    obtain rfl:=sm h
    exact ⟨_,y,zz [.old 0]⟩
   ·
    replace h:=bF H h
    refine zg ?_
    refine zaX (X:=T1×Bool) (fun z=>[(0,.mpt 0 0 0),(3,.mpt 1 0 0),(6,.mpt 2 0 0)]) (fun z=>[some (15,[(rK c d e (.isl 1 (map zf f)) (.isl 1 (map zf z.1)) (bA z.2))]),some (4,[(zu b)]),some (3,[(zJ a.2.1)])]) (fun z=>zaw c d e f b a z.1 z.2=some r) ?_ ?_
    ·
     refine rg y<|u<|fa ti y y y<|u<|ld ti y y<|u<|eql ti y y<|u<|mv y<|zcU (j:=3) 3 y y y y y gpn (fun n=>g y n<|fa ti y y y<|g y n<|ld ti y y<|g y n<|eql ti y y<|zb (egO [78,79,80] 3 n y y y y)) orT<|zb ?_
     refine ze y (fun q=>?_) (fun q=>?_)
     ·
      replace h:=bT q h
      obtain ⟨A,R,h⟩:=bs h
      exact rl y<|u<|mv y<|u<|fa ti y y y<|u<|ld ti y y<|u<|bl 3 ti y ti y (by decide) (by decide) y y y<|zx (env0:=[(0,.mpt 0 0 0),(3,.mpt 1 0 0),(6,.mpt 2 0 0),(82,.mpt 0 0 0),(85,.isl 1 (map zf [a.2.1.Type_]))]) (st0:=[some (15,[(rK c d e (.isl 1 (map zf f)) (.isl 1 (map zf l)) (bA (m||(!(a.2.2&&(a.2.1.Static == ((b.Op == (40:Int))||(b.Op == (41:Int)))))))))]),some (4,[(zu b)]),some (3,[(zJ a.2.1)])]) (zo [.old 0,.old 1,.old 2])<|u<|sx [0] (zZ c d e f l (m||(!(a.2.2&&(a.2.1.Static == ((b.Op == (40:Int))||(b.Op == (41:Int))))))) [a.2.1.Type_] R)<|zx (env0:=[(0,.mpt 0 0 0),(3,.mpt 1 0 0),(6,.mpt 2 0 0)]) (st0:=[some (15,[(rK c d e (.isl 1 (map zf f)) (.isl 1 (map zf A.1)) (bA A.2))]),some (4,[(zu b)]),some (3,[(zJ a.2.1)])]) (zo [.old 0,.old 1,.old 2])<|zb (⟨⟨A.1,A.2⟩,h,zo [.old 0,.old 1,.old 2]⟩)
     ·
      replace h:=bF q h
      refine zg ?_
      exact ⟨⟨l,(m||(!(a.2.2&&(a.2.1.Static == ((b.Op == (40:Int))||(b.Op == (41:Int)))))))⟩,h,zo [.old 0,.old 1,.old 2]⟩
    ·
     rintro ⟨B,D⟩ h
     replace h:zaw c d e f b a B D=some r:=h
     unfold zaw at h
     refine zaX (X:=T1×Bool) (fun z=>[(0,.mpt 0 0 0),(3,.mpt 1 0 0),(6,.mpt 2 0 0)]) (fun z=>[some (15,[(rK c d e (.isl 1 (map zf f)) (.isl 1 (map zf z.1)) (bA z.2))]),some (4,[(zu b)]),some (3,[(zJ a.2.1)])]) (fun z=>zba c d e f b a z.1 z.2=some r) ?_ ?_
     ·
      refine rg y<|u<|fa ti y y y<|u<|ld ti y y<|u<|eql ti y y<|u<|mv y<|zcU (j:=3) 3 y y y y y gpn (fun o=>g y o<|fa ti y y y<|g y o<|ld ti y y<|g y o<|eql ti y y<|zb (egO [91,92,93] 3 o y y y y)) orT<|zb ?_
      refine ze y (fun s=>?_) (fun s=>?_)
      ·
       replace h:=bT s h
       obtain ⟨E,S,h⟩:=bs h
       exact rl y<|u<|mv y<|u<|fa ti y y y<|u<|ld ti y y<|u<|bl 3 ti y ti y (by decide) (by decide) y y y<|zx (env0:=[(0,.mpt 0 0 0),(3,.mpt 1 0 0),(6,.mpt 2 0 0),(95,.mpt 0 0 0),(98,.isl 1 (map zf [b.C]))]) (st0:=[some (15,[(rK c d e (.isl 1 (map zf f)) (.isl 1 (map zf B)) (bA D))]),some (4,[(zu b)]),some (3,[(zJ a.2.1)])]) (zo [.old 0,.old 1,.old 2])<|u<|sx [0] (zZ c d e f B D [b.C] S)<|zx (env0:=[(0,.mpt 0 0 0),(3,.mpt 1 0 0),(6,.mpt 2 0 0)]) (st0:=[some (15,[(rK c d e (.isl 1 (map zf f)) (.isl 1 (map zf E.1)) (bA E.2))]),some (4,[(zu b)]),some (3,[(zJ a.2.1)])]) (zo [.old 0,.old 1,.old 2])<|zb (⟨⟨E.1,E.2⟩,h,zo [.old 0,.old 1,.old 2]⟩)
      ·
       replace h:=bF s h
       refine zg ?_
       exact ⟨⟨B,D⟩,h,zo [.old 0,.old 1,.old 2]⟩
     ·
      rintro ⟨J,K⟩ h
      replace h:zba c d e f b a J K=some r:=h
      unfold zba at h
      refine rg y<|u<|fa ti y y y<|u<|ld ti y y<|u<|eql ti y y<|u<|mv y<|zcU (j:=3) 3 y y y y y gpn (fun p=>g y p<|fa ti y y y<|g y p<|ld ti y y<|g y p<|eql ti y y<|zb (egO [104,105,106] 3 p y y y y)) orT<|zb ?_
      refine ze y (fun v=>?_) (fun v=>?_)
      ·
       replace h:=bT v h
       obtain ⟨L,T,h⟩:=bs h
       refine rl y<|u<|mv y<|u<|fa ti y y y<|u<|ld ti y y<|u<|sx [0] (zO c d e f J K a.2.1.Type_ T)<|zx (env0:=[]) (st0:=[some (15,[(rK c d e (.isl 1 (map zf f)) (.isl 1 (map zf L.1)) (bA L.2))])]) (zo [.old 0])<|zb ?_
       obtain rfl:=sm h
       exact ⟨_,y,zz [.old 0]⟩
      ·
       replace h:=bF v h
       refine zg ?_
       obtain rfl:=sm h
       exact ⟨_,y,zz [.old 0]⟩
def zif:Option (T0×zc×Bool):=
  some ([],(zc.mk [] [] [] false false 0 0 [] [] []),false)
def zcO(e:List za)(j:T0)(d:T1)(a:Int):Option (Sum (Int) (Sum (Unit) (T0×zc×Bool))):=
  cond (decide (a<((length d):Int))) ((idx d a).bind fun f=>(zaD e f).bind fun g=>(idx e g).bind fun b=>(zhe b j).bind fun c=>cond (decide (0≤c)) ((idx d a).bind fun h=>(idx b.Methods c).bind fun i=>some (.inr (.inr (h,i,true)))) (some (.inl (IntKind.i64.wrap (a+1))))) (some (.inr (.inl ())))
def zgP(a:List za)(c:T0)(e:T0):Option (T0×zc×Bool):=
  (zaD a c).bind fun d=>(cond (decide (d<0)) (some true) ((idx a d).bind fun f=>some (!f.Interface))).bind fun g=>cond g (some ([],(zc.mk [] [] [] false false 0 0 [] [] []),false)) ((zeX a c).bind fun h=>(zh2 16 [c] h).bind fun i=>(zw (fun z=>zcO a e i z) 0).bind fun o=>zU o (fun b=>zif) some)
theorem zoi(c:List za)(A:T0)(s:T0){r:T0×zc×Bool}(h:zgP c A s=some r):zG Tryz.prog 258 [.ipt 1 [[.isl 6 (map zd c)]] 0 0,sA A,sA s] (.tup [sA r.1,.agg (zh r.2.1),bA r.2.2]):=by
 refine zr Tryz.func258 y kz y y ?_
 unfold zgP at h
 refine rg y<|u<|asg y<|u<|al 0 ti y<|u<|asg y<|zb ?_
 obtain ⟨S,N,h⟩:=bs h
 refine rg y<|u<|mv y<|u<|mv y<|u<|pc (zW c A N) y y y<|u<|asg y<|zb ?_
 refine zi ?_
 obtain ⟨O,v,h⟩:=bs h
 refine rg y<|u<|mv y<|u<|lss ti y y<|u<|mv y<|zcU (x:=O) (j:=2) 9 y y y y y gpn (fun a=>by replace v:=bF a v;obtain ⟨T,L,v⟩:=bs v;obtain rfl:=sm v;exact g y a<|mv y<|g y a<|nc y y<|g y a<|fa ti y y y<|g y a<|ld ti y y<|g y a<|mv y<|g y a<|ixI ti y ti y y y L<|g y a<|fa ti y y y<|g y a<|ldI ti y (zl L).2.2 y<|g y a<|nt y<|zb (eg [20,21,22,23,24,25,26,27,28] 9 y y y y)) (fun hb=>(sm (bT hb v)).symm)<|zb ?_
 refine ze y (fun C=>?_) (fun C=>?_)
 ·
  replace h:=bT C h
  refine rg y<|u<|bd ti y y y<|u<|asg y<|u<|sto ti y y y<|u<|asg y<|zb ?_
  refine zj ?_
  obtain rfl:=sm h
  exact ⟨_,y,zz []⟩
 ·
  replace h:=bF C h
  refine zg ?_
  obtain ⟨U,P,h⟩:=bs h
  obtain ⟨i,Q,h⟩:=bs h
  refine rg y<|u<|mv y<|u<|bl 1 ti y ti y (by decide) (by decide) y y y<|u<|mv y<|u<|mv y<|u<|sx [] (zjx c A P)<|u<|apM (l:=[A]) (f:=zf) 3 ti y ti y y (by decide) ti y y y y (roM y) (fun _=>y) y Q<|u<|asg y<|zb ?_
  refine zi ?_
  refine rg y<|u<|asg y<|zb ?_
  obtain ⟨o,ho,h⟩:=bs h
  refine zY (X:=Int) (B:=Unit) (R:=T0×zc×Bool) (fun z=>[(0,.ipt 1 [[.isl 6 (map zd c)]] 0 0),(2,sA s),(7,.mpt 0 0 0),(10,.msl 1 0 (length i)),(11,iA z)]) (fun z=>[some (10,[[sA [],.lit (.slice none 0 0),sA [],bA false,bA false,iA 0,iA 0,.lit (.slice none 0 0),.lit (.slice none 0 0),.lit (.slice none 0 0)]]),some (1,map zf i)]) (fun b=>[(7,.mpt 0 0 0)]) (fun b=>[some (10,[[sA [],.lit (.slice none 0 0),sA [],bA false,bA false,iA 0,iA 0,.lit (.slice none 0 0),.lit (.slice none 0 0),.lit (.slice none 0 0)]])]) (fun r env st=>zaO Tryz.prog Tryz.f258 0 (.tup [sA r.1,.agg (zh r.2.1),bA r.2.2]) [] env st) ho (zo [.old 0,.old 3]) ?_ ?_ ?_
  ·
   rintro d r h
   replace h:zcO c s i d=some r:=h
   unfold zcO at h
   refine zi ?_
   refine rg y<|u<|mv y<|u<|mv y<|u<|lnM ti y y y<|u<|lss ti y y<|zb ?_
   refine ze y (fun m=>?_) (fun m=>?_)
   ·
    replace h:=bT m h
    refine zg ?_
    refine zi ?_
    refine zs ?_
    obtain ⟨D,p,h⟩:=bs h
    obtain ⟨F,G,h⟩:=bs h
    obtain ⟨e,q,h⟩:=bs h
    refine rdA [(0,.ipt 1 [[.isl 6 (map zd c)]] 0 0),(2,sA s),(7,.mpt 0 0 0),(10,.msl 1 0 (length i)),(11,iA d),(12,.mpt 2 0 0)] [some (10,[[sA [],.lit (.slice none 0 0),sA [],bA false,bA false,iA 0,iA 0,.lit (.slice none 0 0),.lit (.slice none 0 0),.lit (.slice none 0 0)]]),some (1,map zf i),some (6,[(zd e)])] [12,13] [11,10,9,8,7,6,5,4,3,2,1,0] [(54,.agg (zd e)),(53,.ipt 6 (map zd c) (Int.toNat F) 0),(52,iA F),(51,sA D),(50,.mpt 1 (Int.toNat d) 0),(49,iA d),(48,.msl 1 0 (length i)),(47,.ipt 1 [[.isl 6 (map zd c)]] 0 0),(46,.isl 6 (map zd c)),(45,.ipt 1 [[.isl 6 (map zd c)]] 0 0),(44,.ipt 1 [[.isl 6 (map zd c)]] 0 0),(43,.ipt 1 [[.isl 6 (map zd c)]] 0 0)] 2 (zeo ⟨(pb y (ldI ti y (zl q).2.2 y w)),(pb y (ixI ti y ti y y y q w)),(pb y (pc (zW c D G) y y y w)),(pb y (ldM ti y y (zl p).2.2 y w)),(pb y (ixM ti y ti y y y y p w)),pe,pe,pe,pe,pe,pe,pe,t⟩ ⟨(fun _ _=>⟨_,y,y,al 2 ti y<|⟨(.mpt 2 0 0),[],[(12,.mpt 2 0 0)],y,y,kz,y,zeo ⟨(pb y (ldI ti y (zl q).2.2 y w)),(pb y (ixI ti y ti y y y q w)),(pb y (pc (zW c D G) y y y w)),(pb y (ldM ti y y (zl p).2.2 y w)),(pb y (ixM ti y ti y y y y p w)),pe,pe,pe,pe,pe,pe,pe,t⟩ ⟨nv,(fun _ _=>⟨_,y,y,sto ti y y y<|⟨.any,[],[],y,y,kz,t,zh3 (zo [.old 0,.old 1,.old 2])⟩⟩),t⟩⟩⟩),nw,t⟩) ?_
    obtain ⟨H,M,h⟩:=bs h
    refine rg y<|u<|ld ti y y<|u<|mv y<|u<|pc (zjK e s M) y y y<|u<|asg y<|zb ?_
    refine rg y<|u<|mv y<|u<|geq ti y y<|zb ?_
    refine ze y (fun n=>?_) (fun n=>?_)
    ·
     replace h:=bT n h
     obtain ⟨E,I,h⟩:=bs h
     obtain ⟨J,K,h⟩:=bs h
     refine rdA [(6,sA E),(7,.mpt 0 0 0),(8,bA true)] [some (10,[(zh J)])] [10] [9,8,7,6,5,4,3,2,1,0] [(6,sA E),(68,.agg (zh J)),(67,.ipt 10 (map zh e.Methods) (Int.toNat H) 0),(66,iA H),(65,.isl 10 (map zh e.Methods)),(64,.mpt 2 0 5),(63,sA E),(62,.mpt 1 (Int.toNat d) 0),(61,iA d),(60,.msl 1 0 (length i))] 1 (zeo ⟨pe,(pb y (ldI ti y (zl K).2.2 y w)),(pb y (ixI ti y ti y y y K w)),pe,pe,pe,(pb y (ldM ti y y (zl I).2.2 y w)),(pb y (ixM ti y ti y y y y I w)),pe,pe,t⟩ ⟨(fun _ _=>⟨_,y,y,sto ti y y y<|⟨.any,[11],[(8,bA true)],y,y,kz,t,zh3 (zo [.old 0])⟩⟩),t⟩) ?_
     refine zj ?_
     obtain rfl:=sm h
     exact ⟨_,y,_,y,zz []⟩
    ·
     replace h:=bF n h
     refine zg ?_
     refine rl y<|u<|mv y<|u<|add ti y y<|u<|asg y<|zb ?_
     obtain rfl:=sm h
     exact ⟨_,y,zo [.old 0,.old 1]⟩
   ·
    replace h:=bF m h
    refine zE ?_
    obtain rfl:=sm h
    exact ⟨y,_,y,zo [.old 0]⟩
  ·
   rintro ⟨⟩ rfl
   replace h:zif=some r:=h
   unfold zif at h
   refine zy ?_
   refine rg y<|u<|bd ti y y y<|u<|asg y<|u<|sto ti y y y<|u<|asg y<|zb ?_
   refine zj ?_
   obtain rfl:=sm h
   exact ⟨_,y,zz []⟩
  ·
   rintro r' rfl env st hp
   obtain rfl:=sm h
   exact hp
def zhi:Option (T0×zc×Bool):=
  some ([],(zc.mk [] [] [] false false 0 0 [] [] []),false)
def zcc(e:List za)(f:T0)(d:T1)(a:Int):Option (Sum (Int) (Sum (Unit) (T0×zc×Bool))):=
  cond (decide (a<((length d):Int))) ((idx d a).bind fun g=>(zaD e g).bind fun h=>(idx e h).bind fun b=>(zhe b f).bind fun c=>cond ((decide (0≤c))&&(!(f == [36,105,110,105,116]))) ((idx d a).bind fun i=>(idx b.Methods c).bind fun j=>some (.inr (.inr (i,j,true)))) (some (.inl (IntKind.i64.wrap (a+1))))) (some (.inr (.inl ())))
def zfs(a:List za)(c:T0)(d:T0):Option (T0×zc×Bool):=
  (zbA a c).bind fun e=>(zw (fun z=>zcc a d e z) 0).bind fun o=>zU o (fun b=>zhi) some
theorem zm0(a:List za)(F:T0)(f:T0){r:T0×zc×Bool}(h:zfs a F f=some r):zG Tryz.prog 157 [.ipt 1 [[.isl 6 (map zd a)]] 0 0,sA F,sA f] (.tup [sA r.1,.agg (zh r.2.1),bA r.2.2]):=by
 refine zr Tryz.func157 y kz y y ?_
 unfold zfs at h
 refine rg y<|u<|asg y<|u<|al 0 ti y<|u<|asg y<|zb ?_
 obtain ⟨d,H,h⟩:=bs h
 refine rg y<|u<|mv y<|u<|mv y<|u<|sx [] (zcx a F H)<|zx (env0:=[(0,.ipt 1 [[.isl 6 (map zd a)]] 0 0),(2,sA f),(7,.mpt 0 0 0),(15,.msl 1 0 (length d))]) (st0:=[some (10,[[sA [],.lit (.slice none 0 0),sA [],bA false,bA false,iA 0,iA 0,.lit (.slice none 0 0),.lit (.slice none 0 0),.lit (.slice none 0 0)]]),some (1,map zf d)]) (zo [.old 0,.old 1])<|u<|asg y<|zb ?_
 refine zi ?_
 refine rg y<|u<|asg y<|zb ?_
 obtain ⟨o,ho,h⟩:=bs h
 refine zY (X:=Int) (B:=Unit) (R:=T0×zc×Bool) (fun z=>[(0,.ipt 1 [[.isl 6 (map zd a)]] 0 0),(2,sA f),(7,.mpt 0 0 0),(9,.msl 1 0 (length d)),(10,iA z)]) (fun z=>[some (10,[[sA [],.lit (.slice none 0 0),sA [],bA false,bA false,iA 0,iA 0,.lit (.slice none 0 0),.lit (.slice none 0 0),.lit (.slice none 0 0)]]),some (1,map zf d)]) (fun b=>[(7,.mpt 0 0 0)]) (fun b=>[some (10,[[sA [],.lit (.slice none 0 0),sA [],bA false,bA false,iA 0,iA 0,.lit (.slice none 0 0),.lit (.slice none 0 0),.lit (.slice none 0 0)]])]) (fun r env st=>zaO Tryz.prog Tryz.f157 0 (.tup [sA r.1,.agg (zh r.2.1),bA r.2.2]) [] env st) ho (zo [.old 0,.old 1]) ?_ ?_ ?_
 ·
  rintro c r h
  replace h:zcc a f d c=some r:=h
  unfold zcc at h
  refine zi ?_
  refine rg y<|u<|mv y<|u<|mv y<|u<|lnM ti y y y<|u<|lss ti y y<|zb ?_
  refine ze y (fun i=>?_) (fun i=>?_)
  ·
   replace h:=bT i h
   refine zg ?_
   refine zi ?_
   refine zs ?_
   obtain ⟨q,n,h⟩:=bs h
   obtain ⟨v,x,h⟩:=bs h
   obtain ⟨e,p,h⟩:=bs h
   refine rdA [(0,.ipt 1 [[.isl 6 (map zd a)]] 0 0),(2,sA f),(7,.mpt 0 0 0),(9,.msl 1 0 (length d)),(10,iA c),(11,.mpt 2 0 0)] [some (10,[[sA [],.lit (.slice none 0 0),sA [],bA false,bA false,iA 0,iA 0,.lit (.slice none 0 0),.lit (.slice none 0 0),.lit (.slice none 0 0)]]),some (1,map zf d),some (6,[(zd e)])] [12,13] [11,10,9,8,7,6,5,4,3,2,1,0] [(33,.agg (zd e)),(32,.ipt 6 (map zd a) (Int.toNat v) 0),(31,iA v),(30,sA q),(29,.mpt 1 (Int.toNat c) 0),(28,iA c),(27,.msl 1 0 (length d)),(26,.ipt 1 [[.isl 6 (map zd a)]] 0 0),(25,.isl 6 (map zd a)),(24,.ipt 1 [[.isl 6 (map zd a)]] 0 0),(23,.ipt 1 [[.isl 6 (map zd a)]] 0 0),(22,.ipt 1 [[.isl 6 (map zd a)]] 0 0)] 2 (zeo ⟨(pb y (ldI ti y (zl p).2.2 y w)),(pb y (ixI ti y ti y y y p w)),(pb y (pc (zW a q x) y y y w)),(pb y (ldM ti y y (zl n).2.2 y w)),(pb y (ixM ti y ti y y y y n w)),pe,pe,pe,pe,pe,pe,pe,t⟩ ⟨(fun _ _=>⟨_,y,y,al 2 ti y<|⟨(.mpt 2 0 0),[],[(11,.mpt 2 0 0)],y,y,kz,y,zeo ⟨(pb y (ldI ti y (zl p).2.2 y w)),(pb y (ixI ti y ti y y y p w)),(pb y (pc (zW a q x) y y y w)),(pb y (ldM ti y y (zl n).2.2 y w)),(pb y (ixM ti y ti y y y y n w)),pe,pe,pe,pe,pe,pe,pe,t⟩ ⟨nv,(fun _ _=>⟨_,y,y,sto ti y y y<|⟨.any,[],[],y,y,kz,t,zh3 (zo [.old 0,.old 1,.old 2])⟩⟩),t⟩⟩⟩),nw,t⟩) ?_
   obtain ⟨A,G,h⟩:=bs h
   refine rg y<|u<|ld ti y y<|u<|mv y<|u<|pc (zjK e f G) y y y<|u<|asg y<|zb ?_
   refine rg y<|u<|mv y<|u<|geq ti y y<|u<|mv y<|z7 (j:=2) 2 y y y y y gpn (fun l=>g y l<|mv y<|g y l<|sne ti y y<|zb (egA [40,41] 2 l y y y y)) ze3<|zb ?_
   refine ze y (fun m=>?_) (fun m=>?_)
   ·
    replace h:=bT m h
    obtain ⟨s,C,h⟩:=bs h
    obtain ⟨D,E,h⟩:=bs h
    refine rdA [(6,sA s),(7,.mpt 0 0 0),(8,bA true)] [some (10,[(zh D)])] [10] [9,8,7,6,5,4,3,2,1,0] [(6,sA s),(51,.agg (zh D)),(50,.ipt 10 (map zh e.Methods) (Int.toNat A) 0),(49,iA A),(48,.isl 10 (map zh e.Methods)),(47,.mpt 2 0 5),(46,sA s),(45,.mpt 1 (Int.toNat c) 0),(44,iA c),(43,.msl 1 0 (length d))] 1 (zeo ⟨pe,(pb y (ldI ti y (zl E).2.2 y w)),(pb y (ixI ti y ti y y y E w)),pe,pe,pe,(pb y (ldM ti y y (zl C).2.2 y w)),(pb y (ixM ti y ti y y y y C w)),pe,pe,t⟩ ⟨(fun _ _=>⟨_,y,y,sto ti y y y<|⟨.any,[11],[(8,bA true)],y,y,kz,t,zh3 (zo [.old 0])⟩⟩),t⟩) ?_
    refine zj ?_
    obtain rfl:=sm h
    exact ⟨_,y,_,y,zz []⟩
   ·
    replace h:=bF m h
    refine zg ?_
    refine rl y<|u<|mv y<|u<|add ti y y<|u<|asg y<|zb ?_
    obtain rfl:=sm h
    exact ⟨_,y,zo [.old 0,.old 1]⟩
  ·
   replace h:=bF i h
   refine zE ?_
   obtain rfl:=sm h
   exact ⟨y,_,y,zo [.old 0]⟩
 ·
  rintro ⟨⟩ rfl
  replace h:zhi=some r:=h
  unfold zhi at h
  refine zy ?_
  refine rg y<|u<|bd ti y y y<|u<|asg y<|u<|sto ti y y y<|u<|asg y<|zb ?_
  refine zj ?_
  obtain rfl:=sm h
  exact ⟨_,y,zz []⟩
 ·
  rintro r' rfl env st hp
  obtain rfl:=sm h
  exact hp
def za6(e:List za)(f:T0)(g:zc)(h:T1)(a:zc)(b:T1)(c:Bool):Option (T1×Bool):=
  cond (!(a.Ret == [86])) ((zP e f g h b c a.Ret).bind fun d=>some (d.1,d.2)) (some (b,c))
def zaG(b:List za)(c:T0)(f:zc)(g:T1)(m:T1)(j:Bool)(l:zp)(d:zc)(n:T0)(h:Bool):Option (T1×Bool):=
  cond (j||(!h)) (some (m,(j||(!h)))) ((zS b c f g m (j||(!h)) d.Params).bind fun e=>cond (!(l.Op == (42:Int))) ((zau b c f g e.1 e.2).bind fun a=>(zbM b a.1 l.C).bind fun i=>cond (l.Op == (44:Int)) ((zbA b c).bind fun o=>(zjA o n).bind fun p=>cond p ((zbM b a.1 c).bind fun q=>za6 b c f g d a.2.1 ((a.2.2||(!i))||(!q))) (za6 b c f g d a.2.1 ((a.2.2||(!i))||(!false)))) (za6 b c f g d a.2.1 (a.2.2||(!i)))) (za6 b c f g d e.1 e.2))
def zdw(c:List za)(e:T0)(f:zc)(g:T1)(h:T1)(i:Bool)(a:zp):Option (T1×Bool):=
  cond (a.Op == (45:Int)) ((zgP c a.C a.M).bind fun d=>zaG c e f g h i a d.2.1 d.1 d.2.2) ((zfs c a.C a.M).bind fun b=>zaG c e f g h i a b.2.1 b.1 ((b.2.2&&(b.2.1.Static == (a.Op == (42:Int))))&&(!b.2.1.Abstract)))
theorem zmk(c:List za)(d:T0)(e:zc)(f:T1)(v:T1)(x:Bool)(i:zp){r:T1×Bool}(h:zdw c d e f v x i=some r):SC Tryz.prog 207 [.mpt 0 0 0,.agg (zu i)] [.one 15 (rK c d e (.isl 1 (map zf f)) (.isl 1 (map zf v)) (bA x))] (.tup []) [.one 15 (rK c d e (.isl 1 (map zf f)) (.isl 1 (map zf r.1)) (bA r.2))]:=by
 refine ⟨⟨t,t⟩,zV Tryz.func207 y kz y ?_⟩
 unfold zdw at h
 refine rg y<|u<|bx 1 4 y y y y<|zb ?_
 refine rg y<|u<|al 2 ti y<|zb ?_
 refine rg y<|u<|asg y<|u<|asg y<|zb ?_
 refine zaX (X:=zc×T0×Bool) (fun z=>[(0,.mpt 0 0 0),(3,.mpt 1 0 0),(4,.mpt 2 0 0),(5,sA z.2.1),(6,bA z.2.2)]) (fun z=>[some (15,[(rK c d e (.isl 1 (map zf f)) (.isl 1 (map zf v)) (bA x))]),some (4,[(zu i)]),some (10,[(zh z.1)])]) (fun z=>zaG c d e f v x i z.1 z.2.1 z.2.2=some r) ?_ ?_
 ·
  refine rg y<|u<|fa ti y y y<|u<|ld ti y y<|u<|eql ti y y<|zb ?_
  refine ze y (fun K=>?_) (fun K=>?_)
  ·
   replace h:=bT K h
   obtain ⟨n,V,h⟩:=bs h
   refine zjw [(0,.mpt 0 0 0),(3,.mpt 1 0 0),(4,.mpt 2 0 0),(5,sA n.1),(6,bA n.2.2)] [some (15,[(rK c d e (.isl 1 (map zf f)) (.isl 1 (map zf v)) (bA x))]),some (4,[(zu i)]),some (10,[(zh n.2.1)])] [14] [13,12,11,10,9,8,7,6,5,4,3,2,1,0] [(5,sA n.1),(23,bA n.2.2),(22,.agg (zh n.2.1)),(21,sA n.1),(11,.tup [sA n.1,.agg (zh n.2.1),bA n.2.2]),(20,.tup [sA n.1,.agg (zh n.2.1),bA n.2.2]),(19,sA i.M),(18,.mpt 1 0 3),(17,sA i.C),(16,.mpt 1 0 2),(15,.ipt 1 [[.isl 6 (map zd c)]] 0 0),(14,.mpt 0 0 0),(13,.mpt 0 0 0),(12,.mpt 0 0 0)] 1 (zeo ⟨pe,pe,pe,pe,pe,(pb y (pc (zoi c i.C i.M V) y y y w)),pe,pe,pe,pe,pe,pe,pe,pe,t⟩ ⟨(fun _ _=>⟨_,y,y,sto ti y y y<|⟨.any,[15],[(6,bA n.2.2)],y,y,kz,t,zh3 (zo [.old 0,.old 1,.old 2])⟩⟩),t⟩) ?_
   exact ⟨⟨n.2.1,n.1,n.2.2⟩,h,zo [.old 0,.old 1,.old 2]⟩
  ·
   replace h:=bF K h
   obtain ⟨l,W,h⟩:=bs h
   refine rdA [(0,.mpt 0 0 0),(3,.mpt 1 0 0),(4,.mpt 2 0 0),(5,sA l.1),(6,bA l.2.2)] [some (15,[(rK c d e (.isl 1 (map zf f)) (.isl 1 (map zf v)) (bA x))]),some (4,[(zu i)]),some (10,[(zh l.2.1)])] [14] [13,12,11,10,9,8,7,6,5,4,3,2,1,0] [(5,sA l.1),(36,bA l.2.2),(35,.agg (zh l.2.1)),(34,sA l.1),(24,.tup [sA l.1,.agg (zh l.2.1),bA l.2.2]),(33,.tup [sA l.1,.agg (zh l.2.1),bA l.2.2]),(32,sA i.M),(31,.mpt 1 0 3),(30,sA i.C),(29,.mpt 1 0 2),(28,.ipt 1 [[.isl 6 (map zd c)]] 0 0),(27,.mpt 0 0 0),(26,.mpt 0 0 0),(25,.mpt 0 0 0)] 1 (zeo ⟨pe,pe,pe,pe,pe,(pb y (pc (zm0 c i.C i.M W) y y y w)),pe,pe,pe,pe,pe,pe,pe,pe,t⟩ ⟨(fun _ _=>⟨_,y,y,sto ti y y y<|⟨.any,[15],[(6,bA l.2.2)],y,y,kz,t,zh3 (zo [.old 0,.old 1,.old 2])⟩⟩),t⟩) ?_
   exact rl y<|u<|mv y<|u<|mv y<|z7 (j:=1) 6 y y y y y gpn (fun s=>g y s<|fa ti y y y<|g y s<|ld ti y y<|g y s<|fa ti y y y<|g y s<|ld ti y y<|g y s<|eql ti y y<|g y s<|beq ti y y y<|zb (egA [39,40,41,42,43,44] 6 s y y y y)) ze3<|u<|mv y<|z7 (j:=9) 3 y y y y y gpn (fun H=>g y H<|fa ti y y y<|g y H<|ld ti y y<|g y H<|nt y<|zb (egA [47,48,49] 3 H y y y y)) ze3<|u<|asg y<|zb (⟨⟨l.2.1,l.1,((l.2.2&&(l.2.1.Static == (i.Op == (42:Int))))&&(!l.2.1.Abstract))⟩,h,zo [.old 0,.old 1,.old 2]⟩)
 ·
  rintro ⟨m,o,I⟩ h
  replace h:zaG c d e f v x i m o I=some r:=h
  unfold zaG at h
  refine rg y<|u<|mv y<|u<|mv y<|u<|sx [0] (zq c d e f v x I y)<|zx (env0:=[(0,.mpt 0 0 0),(3,.mpt 1 0 0),(4,.mpt 2 0 0),(5,sA o)]) (st0:=[some (15,[(rK c d e (.isl 1 (map zf f)) (.isl 1 (map zf v)) (bA (x||(!I))))]),some (4,[(zu i)]),some (10,[(zh m)])]) (zo [.old 0,.old 1,.old 2])<|zb ?_
  refine zi ?_
  refine rg y<|u<|mv y<|u<|nc y y<|u<|fa ti y y y<|u<|ld ti y y<|zb ?_
  refine ze y (fun L=>?_) (fun L=>?_)
  ·
   replace h:=bT L h
   refine zj ?_
   obtain rfl:=sm h
   exact ⟨_,y,zz [.old 0]⟩
  ·
   replace h:=bF L h
   refine zg ?_
   obtain ⟨A,Y,h⟩:=bs h
   refine rg y<|u<|mv y<|u<|fa ti y y y<|u<|ld ti y y<|u<|sx [0] (zZ c d e f v (x||(!I)) m.Params Y)<|zx (env0:=[(0,.mpt 0 0 0),(3,.mpt 1 0 0),(4,.mpt 2 0 0),(5,sA o)]) (st0:=[some (15,[(rK c d e (.isl 1 (map zf f)) (.isl 1 (map zf A.1)) (bA A.2))]),some (4,[(zu i)]),some (10,[(zh m)])]) (zo [.old 0,.old 1,.old 2])<|zb ?_
   refine zaX (X:=T1×Bool) (fun z=>[(0,.mpt 0 0 0),(4,.mpt 1 0 0)]) (fun z=>[some (15,[(rK c d e (.isl 1 (map zf f)) (.isl 1 (map zf z.1)) (bA z.2))]),some (10,[(zh m)])]) (fun z=>za6 c d e f m z.1 z.2=some r) ?_ ?_
   ·
    refine rg y<|u<|fa ti y y y<|u<|ld ti y y<|u<|neq ti y y<|zb ?_
    refine ze y (fun N=>?_) (fun N=>?_)
    ·
     replace h:=bT N h
     obtain ⟨a,Z,h⟩:=bs h
     refine rg y<|u<|mv y<|u<|sx [0] (zaV c d e f A.1 A.2 Z)<|zx (env0:=[(0,.mpt 0 0 0),(3,.mpt 1 0 0),(4,.mpt 2 0 0),(5,sA o),(66,sA a.1)]) (st0:=[some (15,[(rK c d e (.isl 1 (map zf f)) (.isl 1 (map zf a.2.1)) (bA a.2.2))]),some (4,[(zu i)]),some (10,[(zh m)])]) (zo [.old 0,.old 1,.old 2])<|u<|asg y<|zb ?_
     obtain ⟨p,S,h⟩:=bs h
     refine rdA [(0,.mpt 0 0 0),(3,.mpt 1 0 0),(4,.mpt 2 0 0),(5,sA o),(7,sA a.1)] [some (15,[(rK c d e (.isl 1 (map zf f)) (.isl 1 (map zf a.2.1)) (bA (a.2.2||(!p))))]),some (4,[(zu i)]),some (10,[(zh m)])] [9] [8,7,6,5,4,3,2,1,0] [(75,bA p),(74,sA i.C),(73,.mpt 1 0 2),(72,sA a.1),(71,.ipt 1 [[.isl 6 (map zd c)]] 0 0),(70,.mpt 0 0 0),(69,.mpt 0 0 0),(68,.mpt 0 0 0),(67,.mpt 0 0 0)] 1 (zeo ⟨(pb y (pc (zc6 c a.1 i.C S) y y y w)),pe,pe,pe,pe,pe,pe,pe,pe,t⟩ ⟨(fun _ _=>⟨_,y,y,sx [0] (zq c d e f a.2.1 a.2.2 p y)<|⟨(.tup []),[],[(76,.tup [])],y,y,kz,y,zh3 (zo [.old 0,.old 1,.old 2])⟩⟩),t⟩) ?_
     refine rg y<|u<|fa ti y y y<|u<|ld ti y y<|u<|eql ti y y<|zb ?_
     refine ze y (fun F=>?_) (fun F=>?_)
     ·
      replace h:=bT F h
      obtain ⟨q,O,h⟩:=bs h
      obtain ⟨B,J,h⟩:=bs h
      rcases bb B with E |E
      ·
       replace h:=bT E h
       obtain ⟨D,T,h⟩:=bs h
       refine zjw [(0,.mpt 0 0 0),(4,.mpt 1 0 0)] [some (15,[(rK c d e (.isl 1 (map zf f)) (.isl 1 (map zf a.2.1)) (bA ((a.2.2||(!p))||(!D))))]),some (10,[(zh m)])] [9,24] [10,8,7,6,5,4,3,2,1,0] [(90,sA o),(88,sA d),(87,.mpt 0 0 1),(86,.mpt 0 0 0),(85,.mpt 0 0 0),(84,.ipt 1 [[.isl 6 (map zd c)]] 0 0),(83,.mpt 0 0 0),(82,.mpt 0 0 0),(81,.mpt 0 0 0),(80,.mpt 0 0 0)] 2 (zmt ⟨(fun _ _=>⟨_,y,y,sx [] (zcx c d O)<|⟨(.msl 3 0 (length q)),[23,22,21,20,19,18,17,16,15,14,13,12,11],[(103,bA D),(102,bA D),(101,sA d),(100,.mpt 0 0 1),(99,.mpt 0 0 0),(98,.mpt 0 0 0),(97,sA a.1),(96,.ipt 1 [[.isl 6 (map zd c)]] 0 0),(95,.mpt 0 0 0),(94,.mpt 0 0 0),(93,.mpt 0 0 0),(92,bA B),(91,bA B),(89,.msl 3 0 (length q))],y,y,kz,y,zeo ⟨pe,(fun _=>pag (b:=B) y y y y E y (pc (zc6 c a.1 d T) y y y<|w)),pe,pe,pe,pe,pe,pe,pe,pe,pe,pe,(pb y (pcs (zhl q o J) y y (.cons (zhm y (fun _=>y)) (.cons (si y) .nil)) zcn w)),pe,pe,pe,pe,pe,pe,pe,pe,pe,pe,t⟩ ⟨nv,(fun _ _=>⟨_,y,y,sc [0] (args:=[.mpt 0 0 0,bA D]) (zq c d e f a.2.1 (a.2.2||(!p)) D y) y y y y ⟨(.mpt y),(rnI y),t⟩ ⟨⟨_,y,(zsX y)⟩,t⟩<|⟨(.tup []),[],[(104,.tup [])],y,y,kz,y,zhA ⟨pe,pe,pe,pe,pe,pe,pe,pe,pe,pe,pe,pe,(pb y (pcs (zhl q o J) y y (.cons (zhm y (fun _=>y)) (.cons (si y) .nil)) zcn w)),pe,pe,pe,pe,pe,pe,pe,pe,pe,pe,t⟩ (zo [.old 0,.old 2])⟩⟩),t⟩⟩⟩),nw,t⟩) ?_
       exact ⟨⟨a.2.1,((a.2.2||(!p))||(!D))⟩,h,zo [.old 0,.old 1]⟩
      ·
       replace h:=bF E h
       refine zjw [(0,.mpt 0 0 0),(4,.mpt 1 0 0)] [some (15,[(rK c d e (.isl 1 (map zf f)) (.isl 1 (map zf a.2.1)) (bA ((a.2.2||(!p))||(!false))))]),some (10,[(zh m)])] [9,24] [10,8,7,6,5,4,3,2,1,0] [(90,sA o),(88,sA d),(87,.mpt 0 0 1),(86,.mpt 0 0 0),(85,.mpt 0 0 0),(84,.ipt 1 [[.isl 6 (map zd c)]] 0 0),(83,.mpt 0 0 0),(82,.mpt 0 0 0),(81,.mpt 0 0 0),(80,.mpt 0 0 0)] 2 (zmt ⟨(fun _ _=>⟨_,y,y,sx [] (zcx c d O)<|⟨(.msl 3 0 (length q)),[23,22,21,20,19,18,17,16,15,14,13,12,11],[(103,bA false),(102,.lit undef),(101,.lit undef),(100,.lit undef),(99,.lit undef),(98,.lit undef),(97,.lit undef),(96,.lit undef),(95,.lit undef),(94,.lit undef),(93,.lit undef),(92,bA B),(91,bA B),(89,.msl 3 0 (length q))],y,y,kz,y,zeo ⟨pe,pe,pe,pe,pe,pe,pe,pe,pe,pe,pe,pe,(pb y (pcs (zhl q o J) y y (.cons (zhm y (fun _=>y)) (.cons (si y) .nil)) zcn w)),pe,pe,pe,pe,pe,pe,pe,pe,pe,pe,t⟩ ⟨nv,(fun _ _=>⟨_,y,y,sc [0] (args:=[.mpt 0 0 0,bA false]) (zq c d e f a.2.1 (a.2.2||(!p)) false y) y y y y ⟨(.mpt y),(rnI y),t⟩ ⟨⟨_,y,(zsX y)⟩,t⟩<|⟨(.tup []),[],[(104,.tup [])],y,y,kz,y,zhA ⟨pe,pe,pe,pe,pe,pe,pe,pe,pe,pe,pe,pe,(pb y (pcs (zhl q o J) y y (.cons (zhm y (fun _=>y)) (.cons (si y) .nil)) zcn w)),pe,pe,pe,pe,pe,pe,pe,pe,pe,pe,t⟩ (zo [.old 0,.old 2])⟩⟩),t⟩⟩⟩),nw,t⟩) ?_
       exact ⟨⟨a.2.1,((a.2.2||(!p))||(!false))⟩,h,zo [.old 0,.old 1]⟩
     ·
      replace h:=bF F h
      refine zg ?_
      exact ⟨⟨a.2.1,(a.2.2||(!p))⟩,h,zo [.old 0,.old 2]⟩
    ·
     replace h:=bF N h
     refine zg ?_
     exact ⟨⟨A.1,A.2⟩,h,zo [.old 0,.old 2]⟩
   ·
    rintro ⟨P,Q⟩ h
    replace h:za6 c d e f m P Q=some r:=h
    unfold za6 at h
    refine rg y<|u<|fa ti y y y<|u<|ld ti y y<|u<|sne ti y y<|zb ?_
    refine ze y (fun G=>?_) (fun G=>?_)
    ·
     replace h:=bT G h
     obtain ⟨R,U,h⟩:=bs h
     refine rl y<|u<|mv y<|u<|fa ti y y y<|u<|ld ti y y<|u<|sx [0] (zO c d e f P Q m.Ret U)<|zx (env0:=[]) (st0:=[some (15,[(rK c d e (.isl 1 (map zf f)) (.isl 1 (map zf R.1)) (bA R.2))])]) (zo [.old 0])<|zb ?_
     obtain rfl:=sm h
     exact ⟨_,y,zz [.old 0]⟩
    ·
     replace h:=bF G h
     refine zg ?_
     obtain rfl:=sm h
     exact ⟨_,y,zz [.old 0]⟩
def zj6(a:T0):Option (T0):=
  (zz4 [91] a).bind fun b=>(zfe b).bind fun c=>cond (!c) (some []) ((zz4 [91] a).bind fun d=>some d)
theorem zrM(b:T0){r:T0}(h:zj6 b=some r):zG Tryz.prog 259 [sA b] (sA r):=by
 refine zr Tryz.func259 y kz y y ?_
 unfold zj6 at h
 refine rg y<|u<|asg y<|zb ?_
 refine zi ?_
 obtain ⟨c,d,h⟩:=bs h
 obtain ⟨g,e,h⟩:=bs h
 refine rg y<|u<|mv y<|u<|zCx ti y y d<|u<|pc (zee c e) y y y<|u<|nt y<|zb ?_
 refine ze y (fun a=>?_) (fun a=>?_)
 ·
  replace h:=bT a h
  refine rg y<|u<|asg y<|zb ?_
  refine zj ?_
  obtain rfl:=sm h
  exact ⟨_,y,zz []⟩
 ·
  replace h:=bF a h
  refine zg ?_
  obtain ⟨i,f,h⟩:=bs h
  refine rg y<|u<|mv y<|u<|zCx ti y y f<|u<|asg y<|zb ?_
  refine zj ?_
  obtain rfl:=sm h
  exact ⟨_,y,zz []⟩
def zlD(a:T0):Option (T0×Bool):=
  (zfe a).bind fun b=>(cond (!b) (some true) ((idx a 0).bind fun c=>some (!((c.toNat:Int) == (91:Int))))).bind fun d=>cond d (some ([],false)) ((zkh a 1 (length a:Int)).bind fun e=>some (e,true))
theorem zsO(f:T0){r:T0×Bool}(h:zlD f=some r):zG Tryz.prog 279 [sA f] (.tup [sA r.1,bA r.2]):=by
 refine zr Tryz.func279 y kz y y ?_
 unfold zlD at h
 refine rg y<|u<|asg y<|u<|asg y<|zb ?_
 refine zi ?_
 obtain ⟨o,l,h⟩:=bs h
 obtain ⟨m,d,h⟩:=bs h
 refine rg y<|u<|mv y<|u<|pc (zee f l) y y y<|u<|nt y<|u<|mv y<|zcU (x:=m) (j:=3) 3 y y y y y gpn (fun c=>by replace d:=bF c d;obtain ⟨p,n,d⟩:=bs d;obtain rfl:=sm d;exact g y c<|mv y<|g y c<|ixS ti y y y n<|g y c<|neq ti y y<|zb (eg [8,9,10] 3 y y y y)) (fun hb=>(sm (bT hb d)).symm)<|zb ?_
 refine ze y (fun e=>?_) (fun e=>?_)
 ·
  replace h:=bT e h
  refine rg y<|u<|asg y<|u<|asg y<|zb ?_
  refine zj ?_
  obtain rfl:=sm h
  exact ⟨_,y,zz []⟩
 ·
  replace h:=bF e h
  refine zg ?_
  obtain ⟨q,i,h⟩:=bs h
  refine rg y<|u<|mv y<|u<|slS (a:=1) (b:=(length f:Int)) ti y y (zmn y i) y i<|u<|asg y<|u<|asg y<|zb ?_
  refine zj ?_
  obtain rfl:=sm h
  exact ⟨_,y,zz []⟩
def zdR(c:List za)(d:T0)(e:zc)(f:T1)(g:T1)(h:Bool):Option (T0×T1×Bool):=
  (zau c d e f g h).bind fun a=>cond (a.1 == [78]) (some ([78],a.2.1,a.2.2)) ((zlD a.1).bind fun b=>some (b.1,a.2.1,(a.2.2||(!(b.2&&(!(b.1 == [73])))))))
theorem ziy(b:List za)(c:T0)(d:zc)(e:T1)(m:T1)(n:Bool){r:T0×T1×Bool}(h:zdR b c d e m n=some r):SC Tryz.prog 260 [.mpt 0 0 0] [.one 15 (rK b c d (.isl 1 (map zf e)) (.isl 1 (map zf m)) (bA n))] (sA r.1) [.one 15 (rK b c d (.isl 1 (map zf e)) (.isl 1 (map zf r.2.1)) (bA r.2.2))]:=by
 refine ⟨⟨t,t⟩,zV Tryz.func260 y kz y ?_⟩
 unfold zdR at h
 refine rg y<|u<|asg y<|zb ?_
 obtain ⟨a,o,h⟩:=bs h
 refine rg y<|u<|mv y<|u<|sx [0] (zaV b c d e m n o)<|zx (env0:=[(0,.mpt 0 0 0),(7,sA a.1)]) (st0:=[some (15,[(rK b c d (.isl 1 (map zf e)) (.isl 1 (map zf a.2.1)) (bA a.2.2))])]) (zo [.old 0])<|u<|asg y<|zb ?_
 refine zi ?_
 refine rg y<|u<|mv y<|u<|seq ti y y<|zb ?_
 refine ze y (fun f=>?_) (fun f=>?_)
 ·
  replace h:=bT f h
  refine rg y<|u<|asg y<|zb ?_
  refine zj ?_
  obtain rfl:=sm h
  exact ⟨_,y,zz [.old 0]⟩
 ·
  replace h:=bF f h
  refine zg ?_
  obtain ⟨i,p,h⟩:=bs h
  refine rg y<|u<|mv y<|u<|pc (zsO a.1 p) y y y<|u<|mv y<|u<|ex y y<|u<|ex y y<|u<|asg y<|u<|asg y<|zb ?_
  refine rg y<|u<|mv y<|u<|mv y<|u<|mv y<|z7 (j:=2) 2 y y y y y gpn (fun l=>g y l<|mv y<|g y l<|sne ti y y<|zb (egA [18,19] 2 l y y y y)) ze3<|u<|sx [0] (zq b c d e a.2.1 a.2.2 (i.2&&(!(i.1 == [73]))) y)<|zx (env0:=[(4,sA i.1)]) (st0:=[some (15,[(rK b c d (.isl 1 (map zf e)) (.isl 1 (map zf a.2.1)) (bA (a.2.2||(!(i.2&&(!(i.1 == [73])))))))])]) (zo [.old 0])<|zb ?_
  refine rg y<|u<|mv y<|u<|asg y<|zb ?_
  refine zj ?_
  obtain rfl:=sm h
  exact ⟨_,y,zz [.old 0]⟩
def zaU(a:List za)(b:T0)(c:zc)(d:T1)(e:T1)(f:Bool)(g:zp):Option (T1×Bool):=
  cond (g.Op == (49:Int)) ((zS a b c d e f ([[73]])).bind fun z=>(zP a b c d z.1 z.2 [91,73]).bind fun A=>some (A.1,A.2)) (cond (g.Op == (50:Int)) ((zj6 g.C).bind fun i=>(cond (!(i == [])) ((z1 a i).bind fun B=>some B) (some false)).bind fun D=>(zS a b c d e (f||(!D)) ([[73]])).bind fun l=>(zP a b c d l.1 l.2 i).bind fun m=>some (m.1,m.2)) (cond (g.Op == (51:Int)) ((zau a b c d e f).bind fun h=>(cond (h.1 == [78]) (some true) ((cond (decide (1<(length h.1:Int))) ((idx h.1 0).bind fun E=>some ((E.toNat:Int) == (91:Int))) (some false)).bind fun F=>some F)).bind fun G=>(zP a b c d h.2.1 (h.2.2||(!G)) [73]).bind fun n=>some (n.1,n.2)) (cond (g.Op == (52:Int)) ((zS a b c d e f ([[91,73],[73]])).bind fun o=>(zP a b c d o.1 o.2 [73]).bind fun p=>some (p.1,p.2)) (cond (g.Op == (53:Int)) ((zS a b c d e f ([[91,73],[73],[73]])).bind fun q=>some (q.1,q.2)) (cond (g.Op == (54:Int)) ((zS a b c d e f ([[73]])).bind fun r=>(zdR a b c d r.1 r.2).bind fun j=>(zP a b c d j.2.1 j.2.2 j.1).bind fun s=>some (s.1,s.2)) (cond (g.Op == (55:Int)) ((zbJ a b c d e f).bind fun u=>(zS a b c d u.2.1 u.2.2 ([[73]])).bind fun v=>(zdR a b c d v.1 v.2).bind fun x=>some (x.2.1,x.2.2)) (some (e,f))))))))
theorem zk8(a:List za)(b:T0)(c:zc)(d:T1)(e:T1)(f:Bool)(V:zp){r:T1×Bool}(h:zaU a b c d e f V=some r):SC Tryz.prog 208 [.mpt 0 0 0,.agg (zu V)] [.one 15 (rK a b c (.isl 1 (map zf d)) (.isl 1 (map zf e)) (bA f))] (.tup []) [.one 15 (rK a b c (.isl 1 (map zf d)) (.isl 1 (map zf r.1)) (bA r.2))]:=by
 refine ⟨⟨t,t⟩,zV Tryz.func208 y kz y ?_⟩
 unfold zaU at h
 refine rg y<|u<|bx 1 4 y y y y<|zb ?_
 refine rg y<|u<|fa ti y y y<|u<|ld ti y y<|zb ?_
 refine zs ?_
 refine rg y<|u<|eql ti y y<|u<|asg y<|zb ?_
 refine ze y (fun M=>?_) (fun M=>?_)
 ·
  replace h:=bT M h
  obtain ⟨O,q2,h⟩:=bs h
  refine rg y<|u<|mv y<|u<|bl 2 ti y ti y (by decide) (by decide) y y y<|zx (env0:=[(0,.mpt 0 0 0),(10,.mpt 0 0 0),(11,.isl 1 (map zf ([[73]])))]) (st0:=[some (15,[(rK a b c (.isl 1 (map zf d)) (.isl 1 (map zf e)) (bA f))])]) (zo [.old 0])<|u<|sx [0] (zZ a b c d e f ([[73]]) q2)<|zx (env0:=[(0,.mpt 0 0 0)]) (st0:=[some (15,[(rK a b c (.isl 1 (map zf d)) (.isl 1 (map zf O.1)) (bA O.2))])]) (zo [.old 0])<|zb ?_
  obtain ⟨W,q3,h⟩:=bs h
  refine rl y<|u<|mv y<|u<|sx [0] (zO a b c d O.1 O.2 [91,73] q3)<|zx (env0:=[]) (st0:=[some (15,[(rK a b c (.isl 1 (map zf d)) (.isl 1 (map zf W.1)) (bA W.2))])]) (zo [.old 0])<|zb ?_
  obtain rfl:=sm h
  exact ⟨_,y,zz [.old 0]⟩
 ·
  replace h:=bF M h
  refine rg y<|u<|eql ti y y<|u<|asg y<|zb ?_
  refine ze y (fun N=>?_) (fun N=>?_)
  ·
   replace h:=bT N h
   obtain ⟨v,q5,h⟩:=bs h
   refine rg y<|u<|fa ti y y y<|u<|ld ti y y<|u<|pc (zrM V.C q5) y y y<|u<|asg y<|zb ?_
   obtain ⟨z,L,h⟩:=bs h
   refine rg y<|u<|mv y<|u<|mv y<|u<|sne ti y y<|u<|mv y<|z7 (x:=z) (j:=3) 6 y y y y y gpn (fun m=>by replace L:=bT m L;obtain ⟨v11,q7,L⟩:=bs L;obtain rfl:=sm L;exact g y m<|mv y<|g y m<|nc y y<|g y m<|fa ti y y y<|g y m<|ld ti y y<|g y m<|mv y<|g y m<|pc (zab a v q7) y y y<|zb (eg [24,25,26,27,28,29] 6 y y y y)) (fun hb=>(sm (bF hb L)).symm)<|u<|sx [0] (zq a b c d e f z y)<|zx (env0:=[(0,.mpt 0 0 0),(4,sA v)]) (st0:=[some (15,[(rK a b c (.isl 1 (map zf d)) (.isl 1 (map zf e)) (bA (f||(!z))))])]) (zo [.old 0])<|zb ?_
   obtain ⟨G,q9,h⟩:=bs h
   refine rg y<|u<|mv y<|u<|bl 1 ti y ti y (by decide) (by decide) y y y<|zx (env0:=[(0,.mpt 0 0 0),(4,sA v),(32,.mpt 0 0 0),(33,.isl 1 (map zf ([[73]])))]) (st0:=[some (15,[(rK a b c (.isl 1 (map zf d)) (.isl 1 (map zf e)) (bA (f||(!z))))])]) (zo [.old 0])<|u<|sx [0] (zZ a b c d e (f||(!z)) ([[73]]) q9)<|zx (env0:=[(0,.mpt 0 0 0),(4,sA v)]) (st0:=[some (15,[(rK a b c (.isl 1 (map zf d)) (.isl 1 (map zf G.1)) (bA G.2))])]) (zo [.old 0])<|zb ?_
   obtain ⟨P,X,h⟩:=bs h
   refine rl y<|u<|mv y<|u<|mv y<|u<|sx [0] (zO a b c d G.1 G.2 v X)<|zx (env0:=[]) (st0:=[some (15,[(rK a b c (.isl 1 (map zf d)) (.isl 1 (map zf P.1)) (bA P.2))])]) (zo [.old 0])<|zb ?_
   obtain rfl:=sm h
   exact ⟨_,y,zz [.old 0]⟩
  ·
   replace h:=bF N h
   refine rg y<|u<|eql ti y y<|u<|asg y<|zb ?_
   refine ze y (fun A=>?_) (fun A=>?_)
   ·
    replace h:=bT A h
    obtain ⟨i,Y,h⟩:=bs h
    refine rg y<|u<|mv y<|u<|sx [0] (zaV a b c d e f Y)<|zx (env0:=[(0,.mpt 0 0 0),(41,sA i.1)]) (st0:=[some (15,[(rK a b c (.isl 1 (map zf d)) (.isl 1 (map zf i.2.1)) (bA i.2.2))])]) (zo [.old 0])<|u<|asg y<|zb ?_
    obtain ⟨H,n,h⟩:=bs h
    refine rg y<|u<|mv y<|u<|mv y<|u<|seq ti y y<|u<|mv y<|zcU (x:=H) (j:=3) 8 y y y y y gpn (fun l=>by replace n:=bF l n;obtain ⟨Z,o,n⟩:=bs n;obtain rfl:=sm n;exact g y l<|mv y<|g y l<|lnS ti y y<|g y l<|gtr ti y y<|g y l<|mv y<|z7 (x:=Z) (j:=7) 3 y y y y y (gps y y l) (fun s=>by replace o:=bT s o;obtain ⟨v16,q15,o⟩:=bs o;obtain rfl:=sm o;exact g y s<|mv y<|g y s<|ixS ti y y y q15<|g y s<|eql ti y y<|zb (eg [50,51,52] 3 y y y y)) (fun hb=>(sm (bF hb o)).symm)<|zb (eg [46,47,48,49,50,51,52,53] 5 y y y y)) (fun hb=>(sm (bT hb n)).symm)<|u<|sx [0] (zq a b c d i.2.1 i.2.2 H y)<|zx (env0:=[(0,.mpt 0 0 0)]) (st0:=[some (15,[(rK a b c (.isl 1 (map zf d)) (.isl 1 (map zf i.2.1)) (bA (i.2.2||(!H))))])]) (zo [.old 0])<|zb ?_
    obtain ⟨Q,q18,h⟩:=bs h
    refine rl y<|u<|mv y<|u<|sx [0] (zO a b c d i.2.1 (i.2.2||(!H)) [73] q18)<|zx (env0:=[]) (st0:=[some (15,[(rK a b c (.isl 1 (map zf d)) (.isl 1 (map zf Q.1)) (bA Q.2))])]) (zo [.old 0])<|zb ?_
    obtain rfl:=sm h
    exact ⟨_,y,zz [.old 0]⟩
   ·
    replace h:=bF A h
    refine rg y<|u<|eql ti y y<|u<|asg y<|zb ?_
    refine ze y (fun B=>?_) (fun B=>?_)
    ·
     replace h:=bT B h
     obtain ⟨I,q20,h⟩:=bs h
     refine rg y<|u<|mv y<|u<|bl 2 ti y ti y (by decide) (by decide) y y y<|zx (env0:=[(0,.mpt 0 0 0),(60,.mpt 0 0 0),(61,.isl 1 (map zf ([[91,73],[73]])))]) (st0:=[some (15,[(rK a b c (.isl 1 (map zf d)) (.isl 1 (map zf e)) (bA f))])]) (zo [.old 0])<|u<|sx [0] (zZ a b c d e f ([[91,73],[73]]) q20)<|zx (env0:=[(0,.mpt 0 0 0)]) (st0:=[some (15,[(rK a b c (.isl 1 (map zf d)) (.isl 1 (map zf I.1)) (bA I.2))])]) (zo [.old 0])<|zb ?_
     obtain ⟨R,q21,h⟩:=bs h
     refine rl y<|u<|mv y<|u<|sx [0] (zO a b c d I.1 I.2 [73] q21)<|zx (env0:=[]) (st0:=[some (15,[(rK a b c (.isl 1 (map zf d)) (.isl 1 (map zf R.1)) (bA R.2))])]) (zo [.old 0])<|zb ?_
     obtain rfl:=sm h
     exact ⟨_,y,zz [.old 0]⟩
    ·
     replace h:=bF B h
     refine rg y<|u<|eql ti y y<|u<|asg y<|zb ?_
     refine ze y (fun D=>?_) (fun D=>?_)
     ·
      replace h:=bT D h
      obtain ⟨S,q23,h⟩:=bs h
      refine rl y<|u<|mv y<|u<|bl 2 ti y ti y (by decide) (by decide) y y y<|zx (env0:=[(67,.mpt 0 0 0),(68,.isl 1 (map zf ([[91,73],[73],[73]])))]) (st0:=[some (15,[(rK a b c (.isl 1 (map zf d)) (.isl 1 (map zf e)) (bA f))])]) (zo [.old 0])<|u<|sx [0] (zZ a b c d e f ([[91,73],[73],[73]]) q23)<|zx (env0:=[]) (st0:=[some (15,[(rK a b c (.isl 1 (map zf d)) (.isl 1 (map zf S.1)) (bA S.2))])]) (zo [.old 0])<|zb ?_
      obtain rfl:=sm h
      exact ⟨_,y,zz [.old 0]⟩
     ·
      replace h:=bF D h
      refine rg y<|u<|eql ti y y<|u<|asg y<|zb ?_
      refine ze y (fun E=>?_) (fun E=>?_)
      ·
       replace h:=bT E h
       obtain ⟨J,q25,h⟩:=bs h
       refine rg y<|u<|mv y<|u<|bl 2 ti y ti y (by decide) (by decide) y y y<|zx (env0:=[(0,.mpt 0 0 0),(72,.mpt 0 0 0),(73,.isl 1 (map zf ([[73]])))]) (st0:=[some (15,[(rK a b c (.isl 1 (map zf d)) (.isl 1 (map zf e)) (bA f))])]) (zo [.old 0])<|u<|sx [0] (zZ a b c d e f ([[73]]) q25)<|zx (env0:=[(0,.mpt 0 0 0)]) (st0:=[some (15,[(rK a b c (.isl 1 (map zf d)) (.isl 1 (map zf J.1)) (bA J.2))])]) (zo [.old 0])<|zb ?_
       obtain ⟨p,q26,h⟩:=bs h
       obtain ⟨T,q27,h⟩:=bs h
       refine rl y<|u<|mv y<|u<|mv y<|u<|sx [0] (ziy a b c d J.1 J.2 q26)<|zx (env0:=[(75,.mpt 0 0 0),(77,sA p.1)]) (st0:=[some (15,[(rK a b c (.isl 1 (map zf d)) (.isl 1 (map zf p.2.1)) (bA p.2.2))])]) (zo [.old 0])<|u<|sx [0] (zO a b c d p.2.1 p.2.2 p.1 q27)<|zx (env0:=[]) (st0:=[some (15,[(rK a b c (.isl 1 (map zf d)) (.isl 1 (map zf T.1)) (bA T.2))])]) (zo [.old 0])<|zb ?_
       obtain rfl:=sm h
       exact ⟨_,y,zz [.old 0]⟩
      ·
       replace h:=bF E h
       refine rg y<|u<|eql ti y y<|u<|asg y<|zb ?_
       refine ze y (fun F=>?_) (fun F=>?_)
       ·
        replace h:=bT F h
        obtain ⟨q,q29,h⟩:=bs h
        refine rg y<|u<|mv y<|u<|sx [0] (zcG a b c d e f q29)<|zx (env0:=[(0,.mpt 0 0 0)]) (st0:=[some (15,[(rK a b c (.isl 1 (map zf d)) (.isl 1 (map zf q.2.1)) (bA q.2.2))])]) (zo [.old 0])<|zb ?_
        obtain ⟨K,q30,h⟩:=bs h
        refine rg y<|u<|mv y<|u<|bl 1 ti y ti y (by decide) (by decide) y y y<|zx (env0:=[(0,.mpt 0 0 0),(83,.mpt 0 0 0),(84,.isl 1 (map zf ([[73]])))]) (st0:=[some (15,[(rK a b c (.isl 1 (map zf d)) (.isl 1 (map zf q.2.1)) (bA q.2.2))])]) (zo [.old 0])<|u<|sx [0] (zZ a b c d q.2.1 q.2.2 ([[73]]) q30)<|zx (env0:=[(0,.mpt 0 0 0)]) (st0:=[some (15,[(rK a b c (.isl 1 (map zf d)) (.isl 1 (map zf K.1)) (bA K.2))])]) (zo [.old 0])<|zb ?_
        obtain ⟨U,q31,h⟩:=bs h
        refine rl y<|u<|mv y<|u<|sx [0] (ziy a b c d K.1 K.2 q31)<|zx (env0:=[]) (st0:=[some (15,[(rK a b c (.isl 1 (map zf d)) (.isl 1 (map zf U.2.1)) (bA U.2.2))])]) (zo [.old 0])<|zb ?_
        obtain rfl:=sm h
        exact ⟨_,y,zz [.old 0]⟩
       ·
        replace h:=bF F h
        refine zg ?_
        obtain rfl:=sm h
        exact ⟨_,y,zz [.old 0]⟩
def zbb(f:List za)(g:T0)(h:zc)(b:T1)(d:T1)(i:zp)(a:Bool):Option (T1×T1×Bool):=
  cond (!a) ((idx b i.A).bind fun e=>(zP f g h b d a e).bind fun c=>some (b,c.1,c.2)) (some (b,d,a))
def zci(f:List za)(g:T0)(h:zc)(b:T1)(c:T1)(d:Bool)(e:Bool):Option (T1×T1×Bool):=
  cond e ((zS f g h b c d ([[73]])).bind fun a=>some (b,a.1,a.2)) (some (b,c,d))
def zQ(d:List za)(e:T0)(c:zc)(a:T1)(f:T1)(g:Bool)(b:zp):Option (T1×T1×Bool):=
  cond (b.Op == (1:Int)) ((zP d e c a f g [73]).bind fun F=>some (a,F.1,F.2)) (cond (b.Op == (2:Int)) ((zP d e c a f g [78]).bind fun G=>some (a,G.1,G.2)) (cond (b.Op == (3:Int)) (cond (decide (b.A<(length a:Int))) ((idx a (if (IntKind.i64.wrap ((length a:Int)-1))<b.A then (IntKind.i64.wrap ((length a:Int)-1)) else b.A)).bind fun H=>zbb d e c a f b (g||(!(!(H == [84]))))) (zbb d e c a f b (g||(!false)))) (cond (b.Op == (4:Int)) ((zau d e c a f g).bind fun i=>cond (!(i.2.2||(!(decide (b.A<(length a:Int)))))) ((zeh (zhB.mk a i.2.1)).bind fun l=>(idx l.1 b.A).bind fun M=>some ((List.set l.1 (Int.toNat b.A) i.1),l.2,(i.2.2||(!(decide (b.A<(length a:Int))))))) (some (a,i.2.1,(i.2.2||(!(decide (b.A<(length a:Int)))))))) (cond (b.Op == (5:Int)) ((zau d e c a f g).bind fun p=>some (a,p.2.1,p.2.2)) (cond (b.Op == (6:Int)) ((zau d e c a f g).bind fun j=>(zP d e c a j.2.1 j.2.2 j.1).bind fun q=>(zP d e c a q.1 q.2 j.1).bind fun r=>some (a,r.1,r.2)) (cond (b.Op == (7:Int)) ((zau d e c a f g).bind fun m=>(zau d e c a m.2.1 m.2.2).bind fun n=>(zP d e c a n.2.1 n.2.2 m.1).bind fun s=>(zP d e c a s.1 s.2 n.1).bind fun u=>some (a,u.1,u.2)) (cond (b.Op == (46:Int)) (some (a,f,(g||(!(c.Ret == [86]))))) (cond (b.Op == (47:Int)) ((zS d e c a f g ([[73]])).bind fun v=>some (a,v.1,(v.2||(!(c.Ret == [73]))))) (cond (b.Op == (48:Int)) ((zbJ d e c a f g).bind fun h=>cond (!(c.Ret == [86])) (cond (!(c.Ret == [73])) ((zbM d h.1 c.Ret).bind fun I=>some (a,h.2.1,(h.2.2||(!I)))) (some (a,h.2.1,(h.2.2||(!false))))) (some (a,h.2.1,(h.2.2||(!false))))) (cond (b.Op == (56:Int)) ((zbJ d e c a f g).bind fun x=>(z1 d b.C).bind fun J=>(zP d e c a x.2.1 (x.2.2||(!J)) b.C).bind fun z=>some (a,z.1,z.2)) (cond (b.Op == (57:Int)) ((zbJ d e c a f g).bind fun B=>(z1 d b.C).bind fun K=>(zP d e c a B.2.1 (B.2.2||(!K)) [73]).bind fun D=>some (a,D.1,D.2)) (cond (b.Op == (58:Int)) ((zau d e c a f g).bind fun o=>(zbM d o.1 [84,104,114,111,119,110]).bind fun L=>some (a,o.2.1,(o.2.2||(!L)))) (cond (b.Op == (59:Int)) ((zP d e c a f g [73]).bind fun E=>some (a,E.1,E.2)) (cond (b.Op == (60:Int)) (zci d e c a f g (b.Op == (60:Int))) (zci d e c a f g (b.Op == (61:Int)))))))))))))))))
theorem zlR(d:List za)(e:T0)(c:zc)(a:T1)(g:T1)(i:Bool)(f:zp){r:T1×T1×Bool}(h:zQ d e c a g i f=some r):SC Tryz.prog 209 [.mpt 0 0 0,.agg (zu f)] [.one 15 (rK d e c (.isl 1 (map zf a)) (.isl 1 (map zf g)) (bA i))] (.tup []) [.one 15 (rK d e c (.isl 1 (map zf r.1)) (.isl 1 (map zf r.2.1)) (bA r.2.2))]:=by
 refine ⟨⟨t,t⟩,zV Tryz.func209 y kz y ?_⟩
 unfold zQ at h
 refine rg y<|u<|bx 1 4 y y y y<|zb ?_
 refine rg y<|u<|fa ti y y y<|u<|ld ti y y<|zb ?_
 refine zs ?_
 refine rg y<|u<|eql ti y y<|u<|asg y<|zb ?_
 refine ze y (fun hc1=>?_) (fun hc1=>?_)
 ·
  replace h:=bT hc1 h
  obtain ⟨v8,q2,h⟩:=bs h
  refine rl y<|u<|mv y<|u<|sx [0] (zO d e c a g i [73] q2)<|zx (env0:=[]) (st0:=[some (15,[(rK d e c (.isl 1 (map zf a)) (.isl 1 (map zf v8.1)) (bA v8.2))])]) (zo [.old 0])<|zb ?_
  obtain rfl:=sm h
  exact ⟨_,y,zz [.old 0]⟩
 ·
  replace h:=bF hc1 h
  refine rg y<|u<|eql ti y y<|u<|asg y<|zb ?_
  refine ze y (fun hc3=>?_) (fun hc3=>?_)
  ·
   replace h:=bT hc3 h
   obtain ⟨v9,q4,h⟩:=bs h
   refine rl y<|u<|mv y<|u<|sx [0] (zO d e c a g i [78] q4)<|zx (env0:=[]) (st0:=[some (15,[(rK d e c (.isl 1 (map zf a)) (.isl 1 (map zf v9.1)) (bA v9.2))])]) (zo [.old 0])<|zb ?_
   obtain rfl:=sm h
   exact ⟨_,y,zz [.old 0]⟩
  ·
   replace h:=bF hc3 h
   refine rg y<|u<|eql ti y y<|u<|asg y<|zb ?_
   refine ze y (fun hc5=>?_) (fun hc5=>?_)
   ·
    replace h:=bT hc5 h
    refine zaX (X:=Bool) (fun z=>[(0,.mpt 0 0 0),(3,.mpt 1 0 0)]) (fun z=>[some (15,[(rK d e c (.isl 1 (map zf a)) (.isl 1 (map zf g)) (bA z))]),some (4,[(zu f)])]) (fun z=>zbb d e c a g f z=some r) ?_ ?_
    ·
     rcases bb (decide (f.A<(length a:Int))) with m |m
     ·
      replace h:=bT m h
      obtain ⟨B,q7,h⟩:=bs h
      exact zaf [30] [29,28,27,26,25,24,23,22,21,20,19,18,17,16,15,14,13,12,11,10,9,8,7,6,5,4,3,2,1,0] [(50,bA (!(B == [84]))),(49,bA (!(B == [84]))),(48,sA B),(47,.ipt 1 (map zf a) (Int.toNat (if (IntKind.i64.wrap ((length a:Int)-1))<f.A then (IntKind.i64.wrap ((length a:Int)-1)) else f.A)) 0),(46,iA (if (IntKind.i64.wrap ((length a:Int)-1))<f.A then (IntKind.i64.wrap ((length a:Int)-1)) else f.A)),(45,iA (IntKind.i64.wrap ((length a:Int)-1))),(44,iA (length a:Int)),(43,.isl 1 (map zf a)),(42,.mpt 0 0 12),(41,.mpt 0 0 12),(40,.mpt 0 0 0),(39,.mpt 0 0 0),(38,iA f.A),(37,.mpt 1 0 1),(36,.isl 1 (map zf a)),(35,.mpt 0 0 12),(34,.mpt 0 0 12),(33,.mpt 0 0 0),(32,.mpt 0 0 0),(31,bA (decide (f.A<(length a:Int)))),(30,bA (decide (f.A<(length a:Int)))),(29,iA (length a:Int)),(28,.isl 1 (map zf a)),(27,.mpt 0 0 12),(26,.mpt 0 0 12),(25,.mpt 0 0 0),(24,.mpt 0 0 0),(23,iA f.A),(22,.mpt 1 0 1),(21,.mpt 0 0 0)] 1 kz kz y kz (zeo ⟨pe,pe,(fun _=>pag (b:=(decide (f.A<(length a:Int)))) y y y y m y (ldI ti y (zl q7).2.2 y<|w)),(fun _=>pag (b:=(decide (f.A<(length a:Int)))) y y y y m y (ixI ti y ti y y y q7<|w)),(fun _=>pag (b:=(decide (f.A<(length a:Int)))) y y y y m y (mnI y y<|w)),(fun _=>pag (b:=(decide (f.A<(length a:Int)))) y y y y m y (sub ti y y<|w)),(fun _=>pag (b:=(decide (f.A<(length a:Int)))) y y y y m y (lnI ti y y<|w)),pe,pe,pe,pe,pe,pe,pe,pe,pe,pe,pe,pe,pe,pe,(pb y (lnI ti y y w)),pe,pe,pe,pe,pe,pe,pe,pe,t⟩ ⟨(fun _ _=>⟨_,y,y,sc [0] (args:=[.mpt 0 0 0,bA (!(B == [84]))]) (zq d e c a g i (!(B == [84])) y) y y y y ⟨(.mpt y),(rnI y),t⟩ ⟨⟨_,y,(zsX y)⟩,t⟩<|⟨(.tup []),[],[(51,.tup [])],y,y,kz,y,zhA ⟨pe,pe,(fun _=>pag (b:=(decide (f.A<(length a:Int)))) y y y y m y (ldI ti y (zl q7).2.2 y<|w)),(fun _=>pag (b:=(decide (f.A<(length a:Int)))) y y y y m y (ixI ti y ti y y y q7<|w)),(fun _=>pag (b:=(decide (f.A<(length a:Int)))) y y y y m y (mnI y y<|w)),(fun _=>pag (b:=(decide (f.A<(length a:Int)))) y y y y m y (sub ti y y<|w)),(fun _=>pag (b:=(decide (f.A<(length a:Int)))) y y y y m y (lnI ti y y<|w)),pe,pe,pe,pe,pe,pe,pe,pe,pe,pe,pe,pe,pe,pe,(pb y (lnI ti y y w)),pe,pe,pe,pe,pe,pe,pe,pe,t⟩ ⟨(i||(!(!(B == [84])))),h,zo [.old 0,.old 1]⟩⟩⟩),t⟩)
     ·
      replace h:=bF m h
      exact zaf [30] [29,28,27,26,25,24,23,22,21,20,19,18,17,16,15,14,13,12,11,10,9,8,7,6,5,4,3,2,1,0] [(50,bA false),(49,.lit undef),(48,.lit undef),(47,.lit undef),(46,.lit undef),(45,.lit undef),(44,.lit undef),(43,.lit undef),(42,.lit undef),(41,.lit undef),(40,.lit undef),(39,.lit undef),(38,.lit undef),(37,.lit undef),(36,.lit undef),(35,.lit undef),(34,.lit undef),(33,.lit undef),(32,.lit undef),(31,bA (decide (f.A<(length a:Int)))),(30,bA (decide (f.A<(length a:Int)))),(29,iA (length a:Int)),(28,.isl 1 (map zf a)),(27,.mpt 0 0 12),(26,.mpt 0 0 12),(25,.mpt 0 0 0),(24,.mpt 0 0 0),(23,iA f.A),(22,.mpt 1 0 1),(21,.mpt 0 0 0)] 1 kz kz y kz (zeo ⟨pe,pe,pe,pe,pe,pe,pe,pe,pe,pe,pe,pe,pe,pe,pe,pe,pe,pe,pe,pe,pe,(pb y (lnI ti y y w)),pe,pe,pe,pe,pe,pe,pe,pe,t⟩ ⟨(fun _ _=>⟨_,y,y,sc [0] (args:=[.mpt 0 0 0,bA false]) (zq d e c a g i false y) y y y y ⟨(.mpt y),(rnI y),t⟩ ⟨⟨_,y,(zsX y)⟩,t⟩<|⟨(.tup []),[],[(51,.tup [])],y,y,kz,y,zhA ⟨pe,pe,pe,pe,pe,pe,pe,pe,pe,pe,pe,pe,pe,pe,pe,pe,pe,pe,pe,pe,pe,(pb y (lnI ti y y w)),pe,pe,pe,pe,pe,pe,pe,pe,t⟩ ⟨(i||(!false)),h,zo [.old 0,.old 1]⟩⟩⟩),t⟩)
    ·
     rintro v11 h
     replace h:zbb d e c a g f v11=some r:=h
     unfold zbb at h
     refine rg y<|u<|mv y<|u<|nc y y<|u<|fa ti y y y<|u<|ld ti y y<|u<|nt y<|zb ?_
     refine ze y (fun hc8=>?_) (fun hc8=>?_)
     ·
      replace h:=bT hc8 h
      obtain ⟨v12,q9,h⟩:=bs h
      obtain ⟨v13,q10,h⟩:=bs h
      refine zjw [] [some (15,[(rK d e c (.isl 1 (map zf a)) (.isl 1 (map zf v13.1)) (bA v13.2))])] [10] [9,8,7,6,5,4,3,2,1,0] [(66,sA v12),(65,.ipt 1 (map zf a) (Int.toNat f.A) 0),(64,iA f.A),(63,.mpt 1 0 1),(62,.isl 1 (map zf a)),(61,.mpt 0 0 12),(60,.mpt 0 0 12),(59,.mpt 0 0 0),(58,.mpt 0 0 0),(57,.mpt 0 0 0)] 1 (zeo ⟨(pb y (ldI ti y (zl q9).2.2 y w)),(pb y (ixI ti y ti y y y q9 w)),pe,pe,pe,pe,pe,pe,pe,pe,t⟩ ⟨(fun _ _=>⟨_,y,y,sx [0] (zO d e c a g v11 v12 q10)<|⟨(.tup []),[],[(67,.tup [])],y,y,kz,y,zhA ⟨pe,(pb y (ixI ti y ti y y y q9 w)),pe,pe,pe,pe,pe,pe,pe,pe,t⟩ (zo [.old 0])⟩⟩),t⟩) ?_
      obtain rfl:=sm h
      exact ⟨_,y,zz [.old 0]⟩
     ·
      replace h:=bF hc8 h
      refine zg ?_
      obtain rfl:=sm h
      exact ⟨_,y,zz [.old 0]⟩
   ·
    replace h:=bF hc5 h
    refine rg y<|u<|eql ti y y<|u<|asg y<|zb ?_
    refine ze y (fun G=>?_) (fun G=>?_)
    ·
     replace h:=bT G h
     obtain ⟨l,q12,h⟩:=bs h
     refine rg y<|u<|mv y<|u<|sx [0] (zaV d e c a g i q12)<|zx (env0:=[(0,.mpt 0 0 0),(3,.mpt 1 0 0),(71,sA l.1)]) (st0:=[some (15,[(rK d e c (.isl 1 (map zf a)) (.isl 1 (map zf l.2.1)) (bA l.2.2))]),some (4,[(zu f)])]) (zo [.old 0,.old 1])<|u<|asg y<|zb ?_
     refine rdA [(0,.mpt 0 0 0),(3,.mpt 1 0 0),(4,sA l.1)] [some (15,[(rK d e c (.isl 1 (map zf a)) (.isl 1 (map zf l.2.1)) (bA (l.2.2||(!(decide (f.A<(length a:Int)))))))]),some (4,[(zu f)])] [10] [9,8,7,6,5,4,3,2,1,0] [(81,bA (decide (f.A<(length a:Int)))),(80,iA (length a:Int)),(79,.isl 1 (map zf a)),(78,.mpt 0 0 12),(77,.mpt 0 0 12),(76,.mpt 0 0 0),(75,.mpt 0 0 0),(74,iA f.A),(73,.mpt 1 0 1),(72,.mpt 0 0 0)] 1 (zeo ⟨pe,(pb y (lnI ti y y w)),pe,pe,pe,pe,pe,pe,pe,pe,t⟩ ⟨(fun _ _=>⟨_,y,y,sx [0] (zq d e c a l.2.1 l.2.2 (decide (f.A<(length a:Int))) y)<|⟨(.tup []),[],[(82,.tup [])],y,y,kz,y,zhA ⟨pe,(pb y (lnI ti y y w)),pe,pe,pe,pe,pe,pe,pe,pe,t⟩ (zo [.old 0,.old 1])⟩⟩),t⟩) ?_
     refine rg y<|u<|mv y<|u<|nc y y<|u<|fa ti y y y<|u<|ld ti y y<|u<|nt y<|zb ?_
     refine ze y (fun H=>?_) (fun H=>?_)
     ·
      replace h:=bT H h
      obtain ⟨q,q14,h⟩:=bs h
      refine rg y<|u<|mv y<|u<|mv y<|u<|nc y y<|u<|fa ti y y y<|u<|ld ti y y<|u<|sx [] (zjB (zhB.mk a l.2.1) q14)<|zx (env0:=[(0,.mpt 0 0 0),(3,.mpt 1 0 0),(4,sA l.1),(88,.mpt 0 0 0),(93,.agg [.msl 2 0 (length q.1),.msl 3 0 (length q.2)])]) (st0:=[some (15,[(rK d e c (.isl 1 (map zf a)) (.isl 1 (map zf l.2.1)) (bA (l.2.2||(!(decide (f.A<(length a:Int)))))))]),some (4,[(zu f)]),some (1,map zf q.1),some (1,map zf q.2)]) (zo [.old 0,.old 1,.old 2,.old 3])<|u<|nc y y<|u<|fa ti y y y<|u<|sto ti y y y<|zb ?_
      obtain ⟨v16,q15,h⟩:=bs h
      refine zjw [] [some (15,[(rK d e c (.isl 1 (map zf (List.set q.1 (Int.toNat f.A) l.1))) (.isl 1 (map zf q.2)) (bA (l.2.2||(!(decide (f.A<(length a:Int)))))))])] [9] [8,7,6,5,4,3,2,1,0] [(104,.mpt 2 (Int.toNat f.A) 0),(103,sA l.1),(102,iA f.A),(101,.mpt 1 0 1),(100,.msl 2 0 (length q.1)),(99,.mpt 0 0 12),(98,.mpt 0 0 12),(97,.mpt 0 0 0),(96,.mpt 0 0 0)] 1 (zeo ⟨(pb y (ixM ti y ti y y y y q15 w)),pe,pe,pe,pe,pe,pe,pe,pe,t⟩ ⟨(fun _ _=>⟨_,y,y,zCm (c':=l.1) ti y y (zl q15).2.2 y y y y y<|⟨.any,[],[],y,y,kz,t,zh3 ⟨[.old 0],cn,y,⟨⟨_,y,ziT (zAL y (by exact ⟨zBs (by simp) y y (fun _=>y),zoJ y y (fun _=>y),ci y,t⟩))⟩,t⟩,y,k⟩⟩⟩),t⟩) ?_
      obtain rfl:=sm h
      exact ⟨_,y,zz [.old 0]⟩
     ·
      replace h:=bF H h
      refine zg ?_
      obtain rfl:=sm h
      exact ⟨_,y,zz [.old 0]⟩
    ·
     replace h:=bF G h
     refine rg y<|u<|eql ti y y<|u<|asg y<|zb ?_
     refine ze y (fun I=>?_) (fun I=>?_)
     ·
      replace h:=bT I h
      obtain ⟨v17,q17,h⟩:=bs h
      refine rl y<|u<|mv y<|u<|sx [0] (zaV d e c a g i q17)<|zx (env0:=[]) (st0:=[some (15,[(rK d e c (.isl 1 (map zf a)) (.isl 1 (map zf v17.2.1)) (bA v17.2.2))])]) (zo [.old 0])<|zb ?_
      obtain rfl:=sm h
      exact ⟨_,y,zz [.old 0]⟩
     ·
      replace h:=bF I h
      refine rg y<|u<|eql ti y y<|u<|asg y<|zb ?_
      refine ze y (fun J=>?_) (fun J=>?_)
      ·
       replace h:=bT J h
       obtain ⟨n,q19,h⟩:=bs h
       refine rg y<|u<|mv y<|u<|sx [0] (zaV d e c a g i q19)<|zx (env0:=[(0,.mpt 0 0 0),(112,sA n.1)]) (st0:=[some (15,[(rK d e c (.isl 1 (map zf a)) (.isl 1 (map zf n.2.1)) (bA n.2.2))])]) (zo [.old 0])<|u<|asg y<|zb ?_
       obtain ⟨V,q20,h⟩:=bs h
       refine rg y<|u<|mv y<|u<|mv y<|u<|sx [0] (zO d e c a n.2.1 n.2.2 n.1 q20)<|zx (env0:=[(0,.mpt 0 0 0),(5,sA n.1)]) (st0:=[some (15,[(rK d e c (.isl 1 (map zf a)) (.isl 1 (map zf V.1)) (bA V.2))])]) (zo [.old 0])<|zb ?_
       obtain ⟨v20,q21,h⟩:=bs h
       refine rl y<|u<|mv y<|u<|mv y<|u<|sx [0] (zO d e c a V.1 V.2 n.1 q21)<|zx (env0:=[]) (st0:=[some (15,[(rK d e c (.isl 1 (map zf a)) (.isl 1 (map zf v20.1)) (bA v20.2))])]) (zo [.old 0])<|zb ?_
       obtain rfl:=sm h
       exact ⟨_,y,zz [.old 0]⟩
      ·
       replace h:=bF J h
       refine rg y<|u<|eql ti y y<|u<|asg y<|zb ?_
       refine ze y (fun K=>?_) (fun K=>?_)
       ·
        replace h:=bT K h
        obtain ⟨s,q23,h⟩:=bs h
        obtain ⟨v,q24,h⟩:=bs h
        refine rg y<|u<|mv y<|u<|sx [0] (zaV d e c a g i q23)<|zx (env0:=[(0,.mpt 0 0 0),(122,sA s.1)]) (st0:=[some (15,[(rK d e c (.isl 1 (map zf a)) (.isl 1 (map zf s.2.1)) (bA s.2.2))])]) (zo [.old 0])<|u<|mv y<|u<|sx [0] (zaV d e c a s.2.1 s.2.2 q24)<|zx (env0:=[(0,.mpt 0 0 0),(122,sA s.1),(124,sA v.1)]) (st0:=[some (15,[(rK d e c (.isl 1 (map zf a)) (.isl 1 (map zf v.2.1)) (bA v.2.2))])]) (zo [.old 0])<|u<|asg y<|u<|asg y<|zb ?_
        obtain ⟨W,q25,h⟩:=bs h
        refine rg y<|u<|mv y<|u<|mv y<|u<|sx [0] (zO d e c a v.2.1 v.2.2 s.1 q25)<|zx (env0:=[(0,.mpt 0 0 0),(7,sA v.1)]) (st0:=[some (15,[(rK d e c (.isl 1 (map zf a)) (.isl 1 (map zf W.1)) (bA W.2))])]) (zo [.old 0])<|zb ?_
        obtain ⟨v24,q26,h⟩:=bs h
        refine rl y<|u<|mv y<|u<|mv y<|u<|sx [0] (zO d e c a W.1 W.2 v.1 q26)<|zx (env0:=[]) (st0:=[some (15,[(rK d e c (.isl 1 (map zf a)) (.isl 1 (map zf v24.1)) (bA v24.2))])]) (zo [.old 0])<|zb ?_
        obtain rfl:=sm h
        exact ⟨_,y,zz [.old 0]⟩
       ·
        replace h:=bF K h
        refine rg y<|u<|eql ti y y<|u<|asg y<|zb ?_
        refine ze y (fun L=>?_) (fun L=>?_)
        ·
         replace h:=bT L h
         refine rl y<|u<|mv y<|u<|mv y<|u<|nc y y<|u<|fa ti y y y<|u<|fa ti y y y<|u<|ld ti y y<|u<|seq ti y y<|u<|sx [0] (zq d e c a g i (c.Ret == [86]) y)<|zx (env0:=[]) (st0:=[some (15,[(rK d e c (.isl 1 (map zf a)) (.isl 1 (map zf g)) (bA (i||(!(c.Ret == [86])))))])]) (zo [.old 0])<|zb ?_
         obtain rfl:=sm h
         exact ⟨_,y,zz [.old 0]⟩
        ·
         replace h:=bF L h
         refine rg y<|u<|eql ti y y<|u<|asg y<|zb ?_
         refine ze y (fun M=>?_) (fun M=>?_)
         ·
          replace h:=bT M h
          obtain ⟨D,q29,h⟩:=bs h
          refine rg y<|u<|mv y<|u<|bl 2 ti y ti y (by decide) (by decide) y y y<|zx (env0:=[(0,.mpt 0 0 0),(143,.mpt 0 0 0),(144,.isl 1 (map zf ([[73]])))]) (st0:=[some (15,[(rK d e c (.isl 1 (map zf a)) (.isl 1 (map zf g)) (bA i))])]) (zo [.old 0])<|u<|sx [0] (zZ d e c a g i ([[73]]) q29)<|zx (env0:=[(0,.mpt 0 0 0)]) (st0:=[some (15,[(rK d e c (.isl 1 (map zf a)) (.isl 1 (map zf D.1)) (bA D.2))])]) (zo [.old 0])<|zb ?_
          refine rl y<|u<|mv y<|u<|mv y<|u<|nc y y<|u<|fa ti y y y<|u<|fa ti y y y<|u<|ld ti y y<|u<|seq ti y y<|u<|sx [0] (zq d e c a D.1 D.2 (c.Ret == [73]) y)<|zx (env0:=[]) (st0:=[some (15,[(rK d e c (.isl 1 (map zf a)) (.isl 1 (map zf D.1)) (bA (D.2||(!(c.Ret == [73])))))])]) (zo [.old 0])<|zb ?_
          obtain rfl:=sm h
          exact ⟨_,y,zz [.old 0]⟩
         ·
          replace h:=bF M h
          refine rg y<|u<|eql ti y y<|u<|asg y<|zb ?_
          refine ze y (fun N=>?_) (fun N=>?_)
          ·
           replace h:=bT N h
           obtain ⟨j,q31,h⟩:=bs h
           refine rg y<|u<|mv y<|u<|sx [0] (zcG d e c a g i q31)<|zx (env0:=[(0,.mpt 0 0 0),(157,sA j.1)]) (st0:=[some (15,[(rK d e c (.isl 1 (map zf a)) (.isl 1 (map zf j.2.1)) (bA j.2.2))])]) (zo [.old 0])<|u<|asg y<|zb ?_
           rcases bb (!(c.Ret == [86])) with O |O
           ·
            replace h:=bT O h
            rcases bb (!(c.Ret == [73])) with E |E
            ·
             replace h:=bT E h
             obtain ⟨F,q34,h⟩:=bs h
             refine zjw [] [some (15,[(rK d e c (.isl 1 (map zf a)) (.isl 1 (map zf j.2.1)) (bA (j.2.2||(!F))))])] [28] [27,26,25,24,23,22,21,20,19,18,17,16,15,14,13,12,11,10,9,8,7,6,5,4,3,2,1,0] [(185,bA F),(184,bA F),(183,sA c.Ret),(182,.mpt 0 0 4),(181,.mpt 0 0 2),(180,.mpt 0 0 0),(179,.mpt 0 0 0),(178,sA j.1),(177,.ipt 1 [[.isl 6 (map zd d)]] 0 0),(176,.mpt 0 0 0),(175,.mpt 0 0 0),(174,.mpt 0 0 0),(173,bA (!(c.Ret == [73]))),(172,bA (!(c.Ret == [73]))),(171,bA (!(c.Ret == [73]))),(170,sA c.Ret),(169,.mpt 0 0 4),(168,.mpt 0 0 2),(167,.mpt 0 0 0),(166,.mpt 0 0 0),(165,bA (!(c.Ret == [86]))),(164,bA (!(c.Ret == [86]))),(163,sA c.Ret),(162,.mpt 0 0 4),(161,.mpt 0 0 2),(160,.mpt 0 0 0),(159,.mpt 0 0 0),(158,.mpt 0 0 0)] 1 (zeo ⟨pe,(fun _=>pag (b:=(!(c.Ret == [73]))) y y y y E y (pc (zc6 d j.1 c.Ret q34) y y y<|w)),pe,pe,pe,pe,pe,pe,pe,pe,pe,pe,pe,pe,pe,pe,pe,pe,pe,pe,pe,pe,pe,pe,pe,pe,pe,pe,t⟩ ⟨(fun _ _=>⟨_,y,y,sc [0] (args:=[.mpt 0 0 0,bA F]) (zq d e c a j.2.1 j.2.2 F y) y y y y ⟨(.mpt y),(rnI y),t⟩ ⟨⟨_,y,(zsX y)⟩,t⟩<|⟨(.tup []),[],[(186,.tup [])],y,y,kz,y,zh3 (zo [.old 0])⟩⟩),t⟩) ?_
             obtain rfl:=sm h
             exact ⟨_,y,zz [.old 0]⟩
            ·
             replace h:=bF E h
             refine zjw [] [some (15,[(rK d e c (.isl 1 (map zf a)) (.isl 1 (map zf j.2.1)) (bA (j.2.2||(!false))))])] [28] [27,26,25,24,23,22,21,20,19,18,17,16,15,14,13,12,11,10,9,8,7,6,5,4,3,2,1,0] [(185,bA false),(184,.lit undef),(183,.lit undef),(182,.lit undef),(181,.lit undef),(180,.lit undef),(179,.lit undef),(178,.lit undef),(177,.lit undef),(176,.lit undef),(175,.lit undef),(174,.lit undef),(173,bA (!(c.Ret == [73]))),(172,bA (!(c.Ret == [73]))),(171,bA (!(c.Ret == [73]))),(170,sA c.Ret),(169,.mpt 0 0 4),(168,.mpt 0 0 2),(167,.mpt 0 0 0),(166,.mpt 0 0 0),(165,bA (!(c.Ret == [86]))),(164,bA (!(c.Ret == [86]))),(163,sA c.Ret),(162,.mpt 0 0 4),(161,.mpt 0 0 2),(160,.mpt 0 0 0),(159,.mpt 0 0 0),(158,.mpt 0 0 0)] 1 (zmt ⟨(fun _ _=>⟨_,y,y,sc [0] (args:=[.mpt 0 0 0,bA false]) (zq d e c a j.2.1 j.2.2 false y) y y y y ⟨(.mpt y),(rnI y),t⟩ ⟨⟨_,y,(zsX y)⟩,t⟩<|⟨(.tup []),[],[(186,.tup [])],y,y,kz,y,zh3 (zo [.old 0])⟩⟩),t⟩) ?_
             obtain rfl:=sm h
             exact ⟨_,y,zz [.old 0]⟩
           ·
            replace h:=bF O h
            refine zjw [] [some (15,[(rK d e c (.isl 1 (map zf a)) (.isl 1 (map zf j.2.1)) (bA (j.2.2||(!false))))])] [28] [27,26,25,24,23,22,21,20,19,18,17,16,15,14,13,12,11,10,9,8,7,6,5,4,3,2,1,0] [(185,bA false),(184,.lit undef),(183,.lit undef),(182,.lit undef),(181,.lit undef),(180,.lit undef),(179,.lit undef),(178,.lit undef),(177,.lit undef),(176,.lit undef),(175,.lit undef),(174,.lit undef),(173,bA false),(172,bA false),(171,.lit undef),(170,.lit undef),(169,.lit undef),(168,.lit undef),(167,.lit undef),(166,.lit undef),(165,bA (!(c.Ret == [86]))),(164,bA (!(c.Ret == [86]))),(163,sA c.Ret),(162,.mpt 0 0 4),(161,.mpt 0 0 2),(160,.mpt 0 0 0),(159,.mpt 0 0 0),(158,.mpt 0 0 0)] 1 (zmt ⟨(fun _ _=>⟨_,y,y,sc [0] (args:=[.mpt 0 0 0,bA false]) (zq d e c a j.2.1 j.2.2 false y) y y y y ⟨(.mpt y),(rnI y),t⟩ ⟨⟨_,y,(zsX y)⟩,t⟩<|⟨(.tup []),[],[(186,.tup [])],y,y,kz,y,zh3 (zo [.old 0])⟩⟩),t⟩) ?_
            obtain rfl:=sm h
            exact ⟨_,y,zz [.old 0]⟩
          ·
           replace h:=bF N h
           refine rg y<|u<|eql ti y y<|u<|asg y<|zb ?_
           refine ze y (fun P=>?_) (fun P=>?_)
           ·
            replace h:=bT P h
            obtain ⟨o,q36,h⟩:=bs h
            refine rg y<|u<|mv y<|u<|sx [0] (zcG d e c a g i q36)<|zx (env0:=[(0,.mpt 0 0 0),(3,.mpt 1 0 0)]) (st0:=[some (15,[(rK d e c (.isl 1 (map zf a)) (.isl 1 (map zf o.2.1)) (bA o.2.2))]),some (4,[(zu f)])]) (zo [.old 0,.old 1])<|zb ?_
            obtain ⟨Y,q37,h⟩:=bs h
            refine rdA [(0,.mpt 0 0 0),(3,.mpt 1 0 0)] [some (15,[(rK d e c (.isl 1 (map zf a)) (.isl 1 (map zf o.2.1)) (bA (o.2.2||(!Y))))]),some (4,[(zu f)])] [8] [7,6,5,4,3,2,1,0] [(198,bA Y),(197,sA f.C),(196,.mpt 1 0 2),(195,.ipt 1 [[.isl 6 (map zd d)]] 0 0),(194,.mpt 0 0 0),(193,.mpt 0 0 0),(192,.mpt 0 0 0),(191,.mpt 0 0 0)] 1 (zeo ⟨(pb y (pc (zab d f.C q37) y y y w)),pe,pe,pe,pe,pe,pe,pe,t⟩ ⟨(fun _ _=>⟨_,y,y,sx [0] (zq d e c a o.2.1 o.2.2 Y y)<|⟨(.tup []),[],[(199,.tup [])],y,y,kz,y,zh3 (zo [.old 0,.old 1])⟩⟩),t⟩) ?_
            obtain ⟨v30,q38,h⟩:=bs h
            refine rl y<|u<|mv y<|u<|fa ti y y y<|u<|ld ti y y<|u<|sx [0] (zO d e c a o.2.1 (o.2.2||(!Y)) f.C q38)<|zx (env0:=[]) (st0:=[some (15,[(rK d e c (.isl 1 (map zf a)) (.isl 1 (map zf v30.1)) (bA v30.2))])]) (zo [.old 0])<|zb ?_
            obtain rfl:=sm h
            exact ⟨_,y,zz [.old 0]⟩
           ·
            replace h:=bF P h
            refine rg y<|u<|eql ti y y<|u<|asg y<|zb ?_
            refine ze y (fun Q=>?_) (fun Q=>?_)
            ·
             replace h:=bT Q h
             obtain ⟨p,q40,h⟩:=bs h
             refine rg y<|u<|mv y<|u<|sx [0] (zcG d e c a g i q40)<|zx (env0:=[(0,.mpt 0 0 0),(3,.mpt 1 0 0)]) (st0:=[some (15,[(rK d e c (.isl 1 (map zf a)) (.isl 1 (map zf p.2.1)) (bA p.2.2))]),some (4,[(zu f)])]) (zo [.old 0,.old 1])<|zb ?_
             obtain ⟨Z,q41,h⟩:=bs h
             refine rdA [(0,.mpt 0 0 0)] [some (15,[(rK d e c (.isl 1 (map zf a)) (.isl 1 (map zf p.2.1)) (bA (p.2.2||(!Z))))])] [8] [7,6,5,4,3,2,1,0] [(215,bA Z),(214,sA f.C),(213,.mpt 1 0 2),(212,.ipt 1 [[.isl 6 (map zd d)]] 0 0),(211,.mpt 0 0 0),(210,.mpt 0 0 0),(209,.mpt 0 0 0),(208,.mpt 0 0 0)] 1 (zeo ⟨(pb y (pc (zab d f.C q41) y y y w)),pe,pe,pe,pe,pe,pe,pe,t⟩ ⟨(fun _ _=>⟨_,y,y,sx [0] (zq d e c a p.2.1 p.2.2 Z y)<|⟨(.tup []),[],[(216,.tup [])],y,y,kz,y,zh3 (zo [.old 0])⟩⟩),t⟩) ?_
             obtain ⟨v33,q42,h⟩:=bs h
             refine rl y<|u<|mv y<|u<|sx [0] (zO d e c a p.2.1 (p.2.2||(!Z)) [73] q42)<|zx (env0:=[]) (st0:=[some (15,[(rK d e c (.isl 1 (map zf a)) (.isl 1 (map zf v33.1)) (bA v33.2))])]) (zo [.old 0])<|zb ?_
             obtain rfl:=sm h
             exact ⟨_,y,zz [.old 0]⟩
            ·
             replace h:=bF Q h
             refine rg y<|u<|eql ti y y<|u<|asg y<|zb ?_
             refine ze y (fun R=>?_) (fun R=>?_)
             ·
              replace h:=bT R h
              obtain ⟨x,q44,h⟩:=bs h
              obtain ⟨v35,q45,h⟩:=bs h
              refine zjw [] [some (15,[(rK d e c (.isl 1 (map zf a)) (.isl 1 (map zf x.2.1)) (bA (x.2.2||(!v35))))])] [6,8] [5,4,3,2,1,0] [(226,.mpt 0 0 0),(225,.ipt 1 [[.isl 6 (map zd d)]] 0 0),(224,.mpt 0 0 0),(223,.mpt 0 0 0),(222,.mpt 0 0 0),(221,.mpt 0 0 0)] 2 (zmt ⟨(fun _ _=>⟨_,y,y,sx [0] (zaV d e c a g i q44)<|⟨(sA x.1),[7],[(228,bA v35),(227,sA x.1)],y,y,kz,y,zeo ⟨(pb y (pc (zc6 d x.1 [84,104,114,111,119,110] q45) y y y w)),pe,pe,pe,pe,pe,pe,t⟩ ⟨nv,(fun _ _=>⟨_,y,y,sx [0] (zq d e c a x.2.1 x.2.2 v35 y)<|⟨(.tup []),[],[(229,.tup [])],y,y,kz,y,zh3 (zo [.old 0])⟩⟩),t⟩⟩⟩),nw,t⟩) ?_
              obtain rfl:=sm h
              exact ⟨_,y,zz [.old 0]⟩
             ·
              replace h:=bF R h
              refine rg y<|u<|eql ti y y<|u<|asg y<|zb ?_
              refine ze y (fun S=>?_) (fun S=>?_)
              ·
               replace h:=bT S h
               obtain ⟨v36,q47,h⟩:=bs h
               refine rl y<|u<|mv y<|u<|sx [0] (zO d e c a g i [73] q47)<|zx (env0:=[]) (st0:=[some (15,[(rK d e c (.isl 1 (map zf a)) (.isl 1 (map zf v36.1)) (bA v36.2))])]) (zo [.old 0])<|zb ?_
               obtain rfl:=sm h
               exact ⟨_,y,zz [.old 0]⟩
              ·
               replace h:=bF S h
               refine zaX (X:=Bool) (fun z=>[(0,.mpt 0 0 0),(234,bA z)]) (fun z=>[some (15,[(rK d e c (.isl 1 (map zf a)) (.isl 1 (map zf g)) (bA i))])]) (fun z=>zci d e c a g i z=some r) ?_ ?_
               ·
                refine rg y<|u<|eql ti y y<|u<|asg y<|zb ?_
                refine ze y (fun T=>?_) (fun T=>?_)
                ·
                 replace h:=bT T h
                 refine zg ?_
                 exact ⟨(f.Op == (60:Int)),h,zo [.old 0]⟩
                ·
                 replace h:=bF T h
                 exact rl y<|u<|eql ti y y<|u<|asg y<|zb (⟨(f.Op == (61:Int)),h,zo [.old 0]⟩)
               ·
                rintro v37 h
                replace h:zci d e c a g i v37=some r:=h
                unfold zci at h
                refine ze y (fun U=>?_) (fun U=>?_)
                ·
                 replace h:=bT U h
                 obtain ⟨v38,q50,h⟩:=bs h
                 refine rl y<|u<|mv y<|u<|bl 1 ti y ti y (by decide) (by decide) y y y<|zx (env0:=[(237,.mpt 0 0 0),(238,.isl 1 (map zf ([[73]])))]) (st0:=[some (15,[(rK d e c (.isl 1 (map zf a)) (.isl 1 (map zf g)) (bA i))])]) (zo [.old 0])<|u<|sx [0] (zZ d e c a g i ([[73]]) q50)<|zx (env0:=[]) (st0:=[some (15,[(rK d e c (.isl 1 (map zf a)) (.isl 1 (map zf v38.1)) (bA v38.2))])]) (zo [.old 0])<|zb ?_
                 obtain rfl:=sm h
                 exact ⟨_,y,zz [.old 0]⟩
                ·
                 replace h:=bF U h
                 refine zg ?_
                 obtain rfl:=sm h
                 exact ⟨_,y,zz [.old 0]⟩

end
end Go.Proofs.YtjbdfkapnffjnaaGreat
