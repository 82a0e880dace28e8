/- StateAll: for every input the law returns true, and each argument reads as it read before. No further condition. Part 5 of 8. -/
import Derived.Test.YthmnlfenkhmmhaaGreatSi4
namespace Go.Proofs.YthmnlfenkhmmhaaGreat
noncomputable section
set_option linter.unusedSimpArgs false
set_option linter.unusedVariables false
set_option maxRecDepth 100000
set_option maxHeartbeats 4000000
structure ze where
  Ref:Bool
  N:Int
def zf (x:ze):List AV:=[bA x.Ref,.lit (.int .i32 x.N)]
def zeF (a:List UInt8) (b:List UInt8):Option ((List UInt8)) :=
  (zup a [46]).bind fun c=>(zup c b).bind fun d=>some d
theorem zdC (a:List UInt8) (b:List UInt8) {r:(List UInt8)} (h:zeF a b=some r):zF Tryz.prog 108 [sA a,sA b] (sA r):=by
 refine zr Tryz.func108 j0 (by kernel_rfl) j0 j0 ?_
 unfold zeF at h
 refine rg j0<|u<|asg j0<|zc ?_
 obtain ⟨e,c,h⟩:=bs h
 obtain ⟨f,d,h⟩:=bs h
 refine rg j0<|u<|mv j0<|u<|zwu ti9 j0 j0 c<|u<|mv j0<|u<|zwu ti9 j0 j0 d<|u<|asg j0<|zc ?_
 refine zp ?_
 obtain rfl:=sm h
 exact ⟨_,j0,[],ci j0,j0,j5,j0,j1⟩
def zg8 (a:zaZ) (b:List (List UInt8×Int)) (c:List (List UInt8×ze)) (d:List (List UInt8)):Option ((List za)×(List (List UInt8×Int))×(List (List UInt8×Int))×(List (List UInt8×ze))×(List (List UInt8))) :=
  some (a.l,a.at_,b,c,d)
def zfq (a:Int) (b:List (List UInt8×Int)) (c:List (List UInt8×ze)) (d:List (List UInt8)):Option (Sum ((List (List UInt8×Int))×(List (List UInt8×ze))×(List (List UInt8))×Int) (Sum ((List (List UInt8×Int))×(List (List UInt8×ze))×(List (List UInt8))) ((List za)×(List (List UInt8×Int))×(List (List UInt8×Int))×(List (List UInt8×ze))×(List (List UInt8))))) :=
  some (.inl (b,c,d,(IntKind.i64.wrap (a+1))))
def zep (a:Int) (b:List (List UInt8×ze)) (c:List (List UInt8)):Option (Sum ((List (List UInt8×ze))×(List (List UInt8))×Int) (Sum ((List (List UInt8×ze))×(List (List UInt8))) ((List za)×(List (List UInt8×Int))×(List (List UInt8×Int))×(List (List UInt8×ze))×(List (List UInt8))))) :=
  some (.inl (b,c,(IntKind.i64.wrap (a+1))))
def zcp (e:List UInt8) (f:za×Bool) (c:List (List UInt8×ze)) (d:List (List UInt8)) (a:Int):Option (Sum ((List (List UInt8×ze))×(List (List UInt8))×Int) (Sum ((List (List UInt8×ze))×(List (List UInt8))) ((List za)×(List (List UInt8×Int))×(List (List UInt8×Int))×(List (List UInt8×ze))×(List (List UInt8))))) :=
  cond (decide (a < (List.length f.1.Fields:Int))) ((idx f.1.Fields a).bind fun b=>cond b.Static ((zeF e b.Name).bind fun i=>(zgO b.Type_).bind fun j=>(zeF e b.Name).bind fun l=>(zhp 16 d [l]).bind fun m=>zep a (zat i (ze.mk j 0) c) m) (zep a c d)) (some (.inr (.inl (c,d))))
def zeo (c:zaZ) (d:List (List UInt8×ze)) (e:List (List UInt8)) (f:Int) (a:List UInt8) (i:List (List UInt8×Int)):Option (Sum ((List (List UInt8×Int))×(List (List UInt8×ze))×(List (List UInt8))×Int) (Sum ((List (List UInt8×Int))×(List (List UInt8×ze))×(List (List UInt8))) ((List za)×(List (List UInt8×Int))×(List (List UInt8×Int))×(List (List UInt8×ze))×(List (List UInt8))))) :=
  (zce c.l c.at_ a).bind fun j=>(zu (fun z=>zcp a j z.1 z.2.1 z.2.2) (d,e,0)).bind fun o=>zQ o (fun b=>zfq f i b.1 b.2) (fun r=>some (.inr (.inr r)))
def zco (f:zaZ) (i:(List (List UInt8))) (c:List (List UInt8×Int)) (d:List (List UInt8×ze)) (e:List (List UInt8)) (a:Int):Option (Sum ((List (List UInt8×Int))×(List (List UInt8×ze))×(List (List UInt8))×Int) (Sum ((List (List UInt8×Int))×(List (List UInt8×ze))×(List (List UInt8))) ((List za)×(List (List UInt8×Int))×(List (List UInt8×Int))×(List (List UInt8×ze))×(List (List UInt8))))) :=
  cond (decide (a < ((List.length i):Int))) ((idx i a).bind fun b=>cond (decide (a < ((List.length (zaE)):Int))) (zeo f d e a b (zat b 2 (zat b 0 c))) (zeo f d e a b (zat b 0 c))) (some (.inr (.inl (c,d,e))))
def zgr (c:Option zaZ):Option ((List za)×(List (List UInt8×Int))×(List (List UInt8×Int))×(List (List UInt8×ze))×(List (List UInt8))) :=
  zur c (none) (fun a=>(zcf a.l a.at_).bind fun d=>(zu (fun z=>zco a d z.1 z.2.1 z.2.2.1 z.2.2.2) ([],[],[],0)).bind fun o=>zQ o (fun b=>zg8 a b.1 b.2.1 b.2.2) some)
theorem zjR (Q:Option zaZ) {r:(List za)×(List (List UInt8×Int))×(List (List UInt8×Int))×(List (List UInt8×ze))×(List (List UInt8))} (h:zgr Q=some r):SC Tryz.prog 23 [znH 2 zgm Q] [] (.mpt 0 0 0) [.one 4 [.ipt 2 [[.isl 6 (List.map zb r.1),.imp (List.map (rKV (fun x=>iA x)) r.2.1)]] 0 0,.mmp 1,.mmp 2,.msl 3 0 (List.length r.2.2.2.2)],.many 2 (List.map (rKV (fun x=>iA x)) r.2.2.1),.many 2 (List.map (rKV (fun x=>.agg (zf x))) r.2.2.2.1),.many 1 (List.map zz r.2.2.2.2)]:=by
 refine ⟨⟨j5,ze9 (sz:=2) (fun _=>j0),ze9 (sz:=2) (fun _=>j0),ze9 (sz:=1) (fun _=>j0),j5⟩,za2 Tryz.func23 j0 (by kernel_rfl) j0 ?_⟩
 unfold zgr at h
 rcases Q with _ | a
 ·
  replace h:=oeN h
  cases h
 ·
  replace h:=oeS h
  refine rg j0<|u<|asg j0<|zc ?_
  refine rg j0<|u<|mv j0<|u<|mmk (e:=3) 0 j0 j0<|u<|mmk (e:=67) 1 j0 j0<|u<|bd zb6 j0 j0 j0<|u<|bx 2 4 j0 j0 j0 j0<|u<|asg j0<|zc ?_
  refine zl ?_
  obtain ⟨d,q1,h⟩:=bs h
  refine rg j0<|u<|mv j0<|u<|sc [] (zhy a.l a.at_ q1) j0 j0 j0 j0 ⟨(rnI j0),j5⟩ j5<|zcj (env0:=[(0,.ipt 2 [[.isl 6 (List.map zb a.l),.imp (List.map (rKV (fun x=>iA x)) a.at_)]] 0 0),(3,.mpt 0 0 0),(16,.msl 3 0 (List.length d))]) (st0:=[some (4,[[.ipt 2 [[.isl 6 (List.map zb a.l),.imp (List.map (rKV (fun x=>iA x)) a.at_)]] 0 0,.mmp 1,.mmp 2,.lit (.slice none 0 0)]]),some (2,List.map (rKV (fun x=>iA x)) []),some (2,List.map (rKV (fun x=>.agg (zf x))) []),some (1,List.map zz d)]) ⟨[.old 2,.old 0,.old 1,.old 3],ce j0 j0<|cv j0 (.mpt j0)<|cv j0 (.msl j0)<|cn,j0,⟨⟨_,j0,zn ⟨ci j0,.mmp j0,.mmp j0,ci j0,j5⟩⟩,⟨_,j0,zg (fun _=>j0)⟩,⟨_,j0,zg (fun _=>j0)⟩,⟨_,j0,zg (fun _=>j0)⟩,j5⟩,j0,j1⟩<|u<|lnM zak j0 j0 j0<|u<|mv j0<|zc ?_
  obtain ⟨o,ho,h⟩:=bs h
  refine zU (X:=(List (List UInt8×Int))×(List (List UInt8×ze))×(List (List UInt8))×Int) (B:=(List (List UInt8×Int))×(List (List UInt8×ze))×(List (List UInt8))) (R:=(List za)×(List (List UInt8×Int))×(List (List UInt8×Int))×(List (List UInt8×ze))×(List (List UInt8))) (fun z=>[(0,.ipt 2 [[.isl 6 (List.map zb a.l),.imp (List.map (rKV (fun x=>iA x)) a.at_)]] 0 0),(3,.mpt 0 0 0),(16,.msl 4 0 (List.length d)),(17,iA ((List.length d):Int)),(18,iA z.2.2.2)]) (fun z=>[some (4,[[.ipt 2 [[.isl 6 (List.map zb a.l),.imp (List.map (rKV (fun x=>iA x)) a.at_)]] 0 0,.mmp 1,.mmp 2,.msl 3 0 (List.length z.2.2.1)]]),some (2,List.map (rKV (fun x=>iA x)) z.1),some (2,List.map (rKV (fun x=>.agg (zf x))) z.2.1),some (1,List.map zz z.2.2.1),some (1,List.map zz d)]) (fun b=>[(3,.mpt 0 0 0)]) (fun b=>[some (4,[[.ipt 2 [[.isl 6 (List.map zb a.l),.imp (List.map (rKV (fun x=>iA x)) a.at_)]] 0 0,.mmp 1,.mmp 2,.msl 3 0 (List.length b.2.2)]]),some (2,List.map (rKV (fun x=>iA x)) b.1),some (2,List.map (rKV (fun x=>.agg (zf x))) b.2.1),some (1,List.map zz b.2.2)]) (fun r env st=>zaD Tryz.prog Tryz.f23 0 (.mpt 0 0 0) [some (4,[[.ipt 2 [[.isl 6 (List.map zb r.1),.imp (List.map (rKV (fun x=>iA x)) r.2.1)]] 0 0,.mmp 1,.mmp 2,.msl 3 0 (List.length r.2.2.2.2)]]),some (2,List.map (rKV (fun x=>iA x)) r.2.2.1),some (2,List.map (rKV (fun x=>.agg (zf x))) r.2.2.2.1),some (1,List.map zz r.2.2.2.2)] env st) ho ⟨[.old 0,.old 1,.old 2,.fresh 1,.old 3],ce j0 j0<|cv j0 (.mpt j0)<|cv j0 (.msl j0)<|ce j0 j0<|ce j0 j0<|cn,j0,⟨⟨_,j0,zn ⟨ci j0,.mmp j0,.mmp j0,.nilown j0,j5⟩⟩,⟨_,j0,zg (fun _=>j0)⟩,⟨_,j0,zg (fun _=>j0)⟩,j4,⟨_,j0,zg (fun _=>j0)⟩,j5⟩,j0,j1⟩ ?_ ?_ ?_
  ·
   rintro ⟨q,F,m,i⟩ r h
   replace h:zco a d q F m i=some r:=h
   unfold zco at h
   refine rg j0<|u<|lss ti3 j0 j0<|zc ?_
   refine zl ?_
   refine zk j0 (fun J=>?_) (fun J=>?_)
   ·
    replace h:=bT J h
    refine zm ?_
    refine zl ?_
    refine zs ?_
    obtain ⟨c,N,h⟩:=bs h
    refine rg j0<|u<|mv j0<|u<|ixM zak j0 ti9 j0 j0 j0 j0 N<|u<|ldM ti9 j0 j0 (zo N).2.2 j0<|u<|asg j0<|u<|asg j0<|zc ?_
    refine rg j0<|u<|mv j0<|u<|nc j0 j0<|u<|fa zb6 j0 j0 j0<|u<|ld zjg j0 j0<|u<|mv j0<|u<|mup (v:=0) (g:=(fun x=>iA x)) (l:=q) (s:=c) j0 j0 j0 j0 j0 j0<|zc ?_
    refine zb3 (X:=(List (List UInt8×Int))) (fun z=>[(0,.ipt 2 [[.isl 6 (List.map zb a.l),.imp (List.map (rKV (fun x=>iA x)) a.at_)]] 0 0),(3,.mpt 0 0 0),(5,sA c),(16,.msl 4 0 (List.length d)),(17,iA ((List.length d):Int)),(18,iA i)]) (fun z=>[some (4,[[.ipt 2 [[.isl 6 (List.map zb a.l),.imp (List.map (rKV (fun x=>iA x)) a.at_)]] 0 0,.mmp 1,.mmp 2,.msl 3 0 (List.length m)]]),some (2,List.map (rKV (fun x=>iA x)) z),some (2,List.map (rKV (fun x=>.agg (zf x))) F),some (1,List.map zz m),some (1,List.map zz d)]) (fun z=>zeo a F m i c z=some r) ?_ ?_
    ·
     refine rg j0<|u<|mv j0<|u<|sc [] (ziN j0) j0 j0 j0 j0 j5 j5<|zcj (env0:=[(0,.ipt 2 [[.isl 6 (List.map zb a.l),.imp (List.map (rKV (fun x=>iA x)) a.at_)]] 0 0),(3,.mpt 0 0 0),(5,sA c),(16,.msl 4 0 (List.length d)),(17,iA ((List.length d):Int)),(18,iA i),(28,iA i),(29,.msl 5 0 (List.length (zaE)))]) (st0:=[some (4,[[.ipt 2 [[.isl 6 (List.map zb a.l),.imp (List.map (rKV (fun x=>iA x)) a.at_)]] 0 0,.mmp 1,.mmp 2,.msl 3 0 (List.length m)]]),some (2,List.map (rKV (fun x=>iA x)) (zat c 0 q)),some (2,List.map (rKV (fun x=>.agg (zf x))) F),some (1,List.map zz m),some (1,List.map zz d),some (1,List.map zz (zaE))]) ⟨[.old 0,.old 1,.old 2,.old 3,.old 4,.old 5],ce j0 j0<|cv j0 (.mpt j0)<|ce j0 j0<|cv j0 (.msl j0)<|ce j0 j0<|ce j0 j0<|ce j0 j0<|cv j0 (.msl j0)<|cn,j0,⟨⟨_,j0,zn ⟨ci j0,.mmp j0,.mmp j0,.msl j0,j5⟩⟩,⟨_,j0,zg (fun _=>j0)⟩,⟨_,j0,zg (fun _=>j0)⟩,⟨_,j0,zg (fun _=>j0)⟩,⟨_,j0,zg (fun _=>j0)⟩,⟨_,j0,zg (fun _=>j0)⟩,j5⟩,j0,j1⟩<|u<|lnM zak j0 j0 j0<|u<|lss ti3 j0 j0<|zc ?_
     refine zk j0 (fun K=>?_) (fun K=>?_)
     ·
      replace h:=bT K h
      exact rl j0<|u<|mv j0<|u<|nc j0 j0<|u<|fa zb6 j0 j0 j0<|u<|ld zjg j0 j0<|u<|mv j0<|u<|mup (v:=2) (g:=(fun x=>iA x)) (l:=(zat c 0 q)) (s:=c) j0 j0 j0 j0 j0 j0<|zc (⟨(zat c 2 (zat c 0 q)),h,[.old 0,.old 1,.old 2,.old 3,.old 4],ce j0 j0<|cv j0 (.mpt j0)<|ce j0 j0<|cv j0 (.msl j0)<|ce j0 j0<|ce j0 j0<|cn,j0,⟨⟨_,j0,zn ⟨ci j0,.mmp j0,.mmp j0,.msl j0,j5⟩⟩,⟨_,j0,zg (fun _=>j0)⟩,⟨_,j0,zg (fun _=>j0)⟩,⟨_,j0,zg (fun _=>j0)⟩,⟨_,j0,zg (fun _=>j0)⟩,j5⟩,j0,j1⟩)
     ·
      replace h:=bF K h
      refine zm ?_
      exact ⟨(zat c 0 q),h,[.old 0,.old 1,.old 2,.old 3,.old 4],ce j0 j0<|cv j0 (.mpt j0)<|ce j0 j0<|cv j0 (.msl j0)<|ce j0 j0<|ce j0 j0<|cn,j0,⟨⟨_,j0,zn ⟨ci j0,.mmp j0,.mmp j0,.msl j0,j5⟩⟩,⟨_,j0,zg (fun _=>j0)⟩,⟨_,j0,zg (fun _=>j0)⟩,⟨_,j0,zg (fun _=>j0)⟩,⟨_,j0,zg (fun _=>j0)⟩,j5⟩,j0,j1⟩
    ·
     rintro n h
     replace h:zeo a F m i c n=some r:=h
     unfold zeo at h
     obtain ⟨j,S,h⟩:=bs h
     refine rg j0<|u<|mv j0<|u<|mv j0<|u<|pc (zhx a.l a.at_ c S) j0 j0 j0<|u<|mv j0<|u<|ex j0 j0<|u<|ex j0 j0<|u<|al 5 zS j0<|u<|sto zS j0 j0 j0<|u<|asg j0<|zc ?_
     refine rg j0<|u<|fa zS j0 j0 j0<|u<|ld zes j0 j0<|u<|lnI zes j0 j0<|u<|mv j0<|zc ?_
     obtain ⟨o,ho,h⟩:=bs h
     refine zU (X:=(List (List UInt8×ze))×(List (List UInt8))×Int) (B:=(List (List UInt8×ze))×(List (List UInt8))) (R:=(List za)×(List (List UInt8×Int))×(List (List UInt8×Int))×(List (List UInt8×ze))×(List (List UInt8))) (fun z=>[(0,.ipt 2 [[.isl 6 (List.map zb a.l),.imp (List.map (rKV (fun x=>iA x)) a.at_)]] 0 0),(3,.mpt 0 0 0),(5,sA c),(16,.msl 4 0 (List.length d)),(17,iA ((List.length d):Int)),(18,iA i),(44,.isl 3 (List.map zW j.1.Fields)),(45,iA (List.length j.1.Fields:Int)),(46,iA z.2.2)]) (fun z=>[some (4,[[.ipt 2 [[.isl 6 (List.map zb a.l),.imp (List.map (rKV (fun x=>iA x)) a.at_)]] 0 0,.mmp 1,.mmp 2,.msl 3 0 (List.length z.2.1)]]),some (2,List.map (rKV (fun x=>iA x)) n),some (2,List.map (rKV (fun x=>.agg (zf x))) z.1),some (1,List.map zz z.2.1),some (1,List.map zz d)]) (fun b=>[(0,.ipt 2 [[.isl 6 (List.map zb a.l),.imp (List.map (rKV (fun x=>iA x)) a.at_)]] 0 0),(3,.mpt 0 0 0),(16,.msl 4 0 (List.length d)),(17,iA ((List.length d):Int)),(18,iA i)]) (fun b=>[some (4,[[.ipt 2 [[.isl 6 (List.map zb a.l),.imp (List.map (rKV (fun x=>iA x)) a.at_)]] 0 0,.mmp 1,.mmp 2,.msl 3 0 (List.length b.2)]]),some (2,List.map (rKV (fun x=>iA x)) n),some (2,List.map (rKV (fun x=>.agg (zf x))) b.1),some (1,List.map zz b.2),some (1,List.map zz d)]) (fun r env st=>zaD Tryz.prog Tryz.f23 0 (.mpt 0 0 0) [some (4,[[.ipt 2 [[.isl 6 (List.map zb r.1),.imp (List.map (rKV (fun x=>iA x)) r.2.1)]] 0 0,.mmp 1,.mmp 2,.msl 3 0 (List.length r.2.2.2.2)]]),some (2,List.map (rKV (fun x=>iA x)) r.2.2.1),some (2,List.map (rKV (fun x=>.agg (zf x))) r.2.2.2.1),some (1,List.map zz r.2.2.2.2)] env st) ho ⟨[.old 0,.old 1,.old 2,.old 3,.old 4],ce j0 j0<|cv j0 (.mpt j0)<|ce j0 j0<|cv j0 (.msl j0)<|ce j0 j0<|ce j0 j0<|ce j0 j0<|ce j0 j0<|ce j0 j0<|cn,j0,⟨⟨_,j0,zn ⟨ci j0,.mmp j0,.mmp j0,.msl j0,j5⟩⟩,⟨_,j0,zg (fun _=>j0)⟩,⟨_,j0,zg (fun _=>j0)⟩,⟨_,j0,zg (fun _=>j0)⟩,⟨_,j0,zg (fun _=>j0)⟩,j5⟩,j0,j1⟩ ?_ ?_ ?_
     ·
      rintro ⟨C,G,D⟩ r h
      replace h:zcp c j C G D=some r:=h
      unfold zcp at h
      refine rg j0<|u<|lss ti3 j0 j0<|zc ?_
      refine zl ?_
      refine zk j0 (fun L=>?_) (fun L=>?_)
      ·
       replace h:=bT L h
       refine zm ?_
       refine zb3 (X:=(List (List UInt8×ze))×(List (List UInt8))) (fun z=>[(0,.ipt 2 [[.isl 6 (List.map zb a.l),.imp (List.map (rKV (fun x=>iA x)) a.at_)]] 0 0),(3,.mpt 0 0 0),(5,sA c),(16,.msl 4 0 (List.length d)),(17,iA ((List.length d):Int)),(18,iA i),(44,.isl 3 (List.map zW j.1.Fields)),(45,iA (List.length j.1.Fields:Int)),(46,iA D)]) (fun z=>[some (4,[[.ipt 2 [[.isl 6 (List.map zb a.l),.imp (List.map (rKV (fun x=>iA x)) a.at_)]] 0 0,.mmp 1,.mmp 2,.msl 3 0 (List.length z.2)]]),some (2,List.map (rKV (fun x=>iA x)) n),some (2,List.map (rKV (fun x=>.agg (zf x))) z.1),some (1,List.map zz z.2),some (1,List.map zz d)]) (fun z=>zep D z.1 z.2=some r) ?_ ?_
       ·
        refine zs ?_
        obtain ⟨p,O,h⟩:=bs h
        refine rg j0<|u<|ixI zes j0 zcG j0 j0 j0 O<|u<|ldI zcG j0 (zo O).2.2 j0<|u<|al 5 zcG j0<|u<|sto zcG j0 j0 j0<|zc ?_
        refine rg j0<|u<|fa zcG j0 j0 j0<|u<|ld ti4 j0 j0<|zc ?_
        refine zk j0 (fun M=>?_) (fun M=>?_)
        ·
         replace h:=bT M h
         obtain ⟨H,T,h⟩:=bs h
         obtain ⟨E,U,h⟩:=bs h
         refine rd [(0,.ipt 2 [[.isl 6 (List.map zb a.l),.imp (List.map (rKV (fun x=>iA x)) a.at_)]] 0 0),(3,.mpt 0 0 0),(5,sA c),(9,.mpt 4 0 0),(16,.msl 5 0 (List.length d)),(17,iA ((List.length d):Int)),(18,iA i),(44,.isl 3 (List.map zW j.1.Fields)),(45,iA (List.length j.1.Fields:Int)),(46,iA D)] [some (4,[[.ipt 2 [[.isl 6 (List.map zb a.l),.imp (List.map (rKV (fun x=>iA x)) a.at_)]] 0 0,.mmp 1,.mmp 2,.msl 3 0 (List.length G)]]),some (2,List.map (rKV (fun x=>iA x)) n),some (2,List.map (rKV (fun x=>.agg (zf x))) (zat H (ze.mk E 0) C)),some (1,List.map zz G),some (3,[(zW p)]),some (1,List.map zz d)] [12] [11,10,9,8,7,6,5,4,3,2,1,0] [(63,.agg [bA E,.lit (.int .i32 0)]),(62,bA E),(61,sA p.Type_),(60,.mpt 5 0 1),(59,sA H),(58,sA p.Name),(57,.mpt 5 0 0),(56,sA c),(55,.mmp 2),(54,.mpt 0 0 2),(53,.mpt 0 0 0),(52,.mpt 0 0 0)] 1 (by kernel_rfl) (by kernel_rfl) j0 (by kernel_rfl) (dtS ⟨(fun _=>pa j0 j0 j0 j0 (bd zdO j0 j0 j0<|j4)),(fun _=>pa j0 j0 j0 j0 (pc (zis p.Type_ U) j0 j0 j0<|j4)),(fun _=>pa j0 j0 j0 j0 (ld ti9 j0 j0<|j4)),(fun _=>pa j0 j0 j0 j0 (fa zcG j0 j0 j0<|j4)),(fun _=>pa j0 j0 j0 j0 (pc (zdC c p.Name T) j0 j0 j0<|j4)),(fun _=>pa j0 j0 j0 j0 (ld ti9 j0 j0<|j4)),(fun _=>pa j0 j0 j0 j0 (fa zcG j0 j0 j0<|j4)),(fun _=>pa j0 j0 j0 j0 (mv j0<|j4)),(fun _=>pa j0 j0 j0 j0 (ld zjK j0 j0<|j4)),(fun _=>pa j0 j0 j0 j0 (fa zb6 j0 j0 j0<|j4)),(fun _=>pa j0 j0 j0 j0 (nc j0 j0<|j4)),(fun _=>pa j0 j0 j0 j0 (mv j0<|j4)),j5⟩ (by kernel_rfl) j0 ⟨(fun _ _=>⟨_,j0,j0,mup (v:=(ze.mk E 0)) (g:=(fun x=>.agg (zf x))) (l:=C) (s:=H) j0 j0 j0 j0 j0 j0<|⟨.any,[],[],j0,j0,by kernel_rfl,j5,dt0 ⟨(fun h=>by cases h),(fun h=>by cases h),(fun h=>by cases h),(fun h=>by cases h),(fun h=>by cases h),(fun h=>by cases h),(fun h=>by cases h),(fun h=>by cases h),(fun h=>by cases h),(fun h=>by cases h),(fun h=>by cases h),(fun h=>by cases h),j5⟩ (by kernel_rfl) j0 ⟨[.old 0,.old 1,.old 2,.old 3,.old 5,.old 4],ce j0 j0<|cv j0 (.mpt j0)<|ce j0 j0<|cv j0 (.mpt j0)<|cv j0 (.msl j0)<|ce j0 j0<|ce j0 j0<|ce j0 j0<|ce j0 j0<|ce j0 j0<|cn,j0,⟨⟨_,j0,zn ⟨ci j0,.mmp j0,.mmp j0,.msl j0,j5⟩⟩,⟨_,j0,zg (fun _=>j0)⟩,⟨_,j0,zg (fun _=>j0)⟩,⟨_,j0,zg (fun _=>j0)⟩,⟨_,j0,zn (ciL j0)⟩,⟨_,j0,zg (fun _=>j0)⟩,j5⟩,j0,j1⟩⟩⟩),j5⟩) ?_
         obtain ⟨P,V,h⟩:=bs h
         obtain ⟨I,W,h⟩:=bs h
         refine rdL [(0,.ipt 2 [[.isl 6 (List.map zb a.l),.imp (List.map (rKV (fun x=>iA x)) a.at_)]] 0 0),(3,.mpt 0 0 0),(5,sA c),(16,.msl 4 0 (List.length d)),(17,iA ((List.length d):Int)),(18,iA i),(44,.isl 3 (List.map zW j.1.Fields)),(45,iA (List.length j.1.Fields:Int)),(46,iA D)] [some (4,[[.ipt 2 [[.isl 6 (List.map zb a.l),.imp (List.map (rKV (fun x=>iA x)) a.at_)]] 0 0,.mmp 1,.mmp 2,.msl 3 0 (List.length I)]]),some (2,List.map (rKV (fun x=>iA x)) n),some (2,List.map (rKV (fun x=>.agg (zf x))) (zat H (ze.mk E 0) C)),some (1,List.map zz I),some (1,List.map zz d)] [9,10,13] [8,7,6,5,4,3,2,1,0] [(72,sA P),(71,sA p.Name),(70,.mpt 4 0 0),(69,sA c),(68,.msl 3 0 (List.length G)),(67,.mpt 0 0 3),(66,.mpt 0 0 0),(65,.mpt 0 0 0),(64,.mpt 0 0 0)] 3 (by kernel_rfl) (by kernel_rfl) j0 (by kernel_rfl) (dtS ⟨(fun _=>pa j0 j0 j0 j0 (pc (zdC c p.Name V) j0 j0 j0<|j4)),(fun _=>pa j0 j0 j0 j0 (ld ti9 j0 j0<|j4)),(fun _=>pa j0 j0 j0 j0 (fa zcG j0 j0 j0<|j4)),(fun _=>pa j0 j0 j0 j0 (mv j0<|j4)),(fun _=>pa j0 j0 j0 j0 (ld zak j0 j0<|j4)),(fun _=>pa j0 j0 j0 j0 (fa zb6 j0 j0 j0<|j4)),(fun _=>pa j0 j0 j0 j0 (nc j0 j0<|j4)),(fun _=>pa j0 j0 j0 j0 (mv j0<|j4)),(fun _=>pa j0 j0 j0 j0 (mv j0<|j4)),j5⟩ (by kernel_rfl) j0 ⟨(fun _ _=>⟨_,j0,j0,bl 6 zak j0 ti9 j0 (by decide) (by decide) j0 j0 j0<|⟨(.msl 6 0 1),[],[(73,.msl 6 0 1)],j0,j0,by kernel_rfl,j0,dtS ⟨(fun h=>by cases h),(fun _=>pa j0 j0 j0 j0 (ld ti9 j0 j0<|j4)),(fun _=>pa j0 j0 j0 j0 (fa zcG j0 j0 j0<|j4)),(fun _=>pa j0 j0 j0 j0 (mv j0<|j4)),(fun _=>pa j0 j0 j0 j0 (ld zak j0 j0<|j4)),(fun _=>pa j0 j0 j0 j0 (fa zb6 j0 j0 j0<|j4)),(fun _=>pa j0 j0 j0 j0 (nc j0 j0<|j4)),(fun _=>pa j0 j0 j0 j0 (mv j0<|j4)),(fun _=>pa j0 j0 j0 j0 (mv j0<|j4)),j5⟩ (by kernel_rfl) j0 ⟨(fun h=>by cases h),(fun _ _=>⟨_,j0,j0,apM 7 zak j0 ti9 j0 j0 (by decide) zak j0 j0 j0 j0 (roX (f:=zz) (z:=[P]) j0 j0) (fun _=>j0) j0 W<|⟨(.msl 7 0 (List.length I)),[12,11],[(76,.mpt 0 0 3),(75,.mpt 0 0 0),(74,.msl 7 0 (List.length I))],j0,j0,by kernel_rfl,j0,dtS ⟨(fun _=>pa j0 j0 j0 j0 (fa zb6 j0 j0 j0<|j4)),(fun _=>pa j0 j0 j0 j0 (nc j0 j0<|j4)),(fun h=>by cases h),(fun _=>pa j0 j0 j0 j0 (ld ti9 j0 j0<|j4)),(fun _=>pa j0 j0 j0 j0 (fa zcG j0 j0 j0<|j4)),(fun _=>pa j0 j0 j0 j0 (mv j0<|j4)),(fun h=>by cases h),(fun _=>pa j0 j0 j0 j0 (fa zb6 j0 j0 j0<|j4)),(fun _=>pa j0 j0 j0 j0 (nc j0 j0<|j4)),(fun _=>pa j0 j0 j0 j0 (mv j0<|j4)),(fun _=>pa j0 j0 j0 j0 (mv j0<|j4)),j5⟩ (by kernel_rfl) j0 ⟨(fun h=>by cases h),(fun h=>by cases h),(fun _ _=>⟨_,j0,j0,sto zak j0 j0 j0<|⟨.any,[],[],j0,j0,by kernel_rfl,j5,dt0 ⟨(fun h=>by cases h),(fun _=>pa j0 j0 j0 j0 (nc j0 j0<|j4)),(fun h=>by cases h),(fun h=>by cases h),(fun h=>by cases h),(fun h=>by cases h),(fun h=>by cases h),(fun h=>by cases h),(fun h=>by cases h),(fun h=>by cases h),(fun h=>by cases h),j5⟩ (by kernel_rfl) j0 ⟨[.old 0,.old 1,.old 2,.old 7,.old 5],ce j0 j0<|cv j0 (.mpt j0)<|ce j0 j0<|cv j0 (.msl j0)<|ce j0 j0<|ce j0 j0<|ce j0 j0<|ce j0 j0<|ce j0 j0<|cn,j0,⟨⟨_,j0,zn ⟨ci j0,.mmp j0,.mmp j0,.msl j0,j5⟩⟩,⟨_,j0,zg (fun _=>j0)⟩,⟨_,j0,zg (fun _=>j0)⟩,⟨_,j0,zg (fun _=>j0)⟩,⟨_,j0,zg (fun _=>j0)⟩,j5⟩,j0,j1⟩⟩⟩),j5⟩⟩⟩),(fun _ h=>by cases h),j5⟩⟩⟩),(fun _ h=>by cases h),(fun _ h=>by cases h),j5⟩) ?_
         exact ⟨⟨(zat H (ze.mk E 0) C),I⟩,h,[.old 0,.old 1,.old 2,.old 3,.old 4],ce j0 j0<|cv j0 (.mpt j0)<|ce j0 j0<|cv j0 (.msl j0)<|ce j0 j0<|ce j0 j0<|ce j0 j0<|ce j0 j0<|ce j0 j0<|cn,j0,⟨⟨_,j0,zn ⟨ci j0,.mmp j0,.mmp j0,.msl j0,j5⟩⟩,⟨_,j0,zg (fun _=>j0)⟩,⟨_,j0,zg (fun _=>j0)⟩,⟨_,j0,zg (fun _=>j0)⟩,⟨_,j0,zg (fun _=>j0)⟩,j5⟩,j0,j1⟩
        ·
         replace h:=bF M h
         refine zm ?_
         exact ⟨⟨C,G⟩,h,[.old 0,.old 1,.old 2,.old 3,.old 4],ce j0 j0<|cv j0 (.mpt j0)<|ce j0 j0<|cv j0 (.msl j0)<|ce j0 j0<|ce j0 j0<|ce j0 j0<|ce j0 j0<|ce j0 j0<|cn,j0,⟨⟨_,j0,zn ⟨ci j0,.mmp j0,.mmp j0,.msl j0,j5⟩⟩,⟨_,j0,zg (fun _=>j0)⟩,⟨_,j0,zg (fun _=>j0)⟩,⟨_,j0,zg (fun _=>j0)⟩,⟨_,j0,zg (fun _=>j0)⟩,j5⟩,j0,j1⟩
       ·
        rintro ⟨Y,Z⟩ h
        replace h:zep D Y Z=some r:=h
        unfold zep at h
        refine rl j0<|u<|add ti3 j0 j0<|u<|mv j0<|zc ?_
        obtain rfl:=sm h
        exact ⟨_,j0,[.old 0,.old 1,.old 2,.old 3,.old 4],ce j0 j0<|cv j0 (.mpt j0)<|ce j0 j0<|cv j0 (.msl j0)<|ce j0 j0<|ce j0 j0<|ce j0 j0<|ce j0 j0<|ce j0 j0<|cn,j0,⟨⟨_,j0,zn ⟨ci j0,.mmp j0,.mmp j0,.msl j0,j5⟩⟩,⟨_,j0,zg (fun _=>j0)⟩,⟨_,j0,zg (fun _=>j0)⟩,⟨_,j0,zg (fun _=>j0)⟩,⟨_,j0,zg (fun _=>j0)⟩,j5⟩,j0,j1⟩
      ·
       replace h:=bF L h
       refine zB ?_
       obtain rfl:=sm h
       exact ⟨j0,_,j0,[.old 0,.old 1,.old 2,.old 3,.old 4],ce j0 j0<|cv j0 (.mpt j0)<|cv j0 (.msl j0)<|ce j0 j0<|ce j0 j0<|cn,j0,⟨⟨_,j0,zn ⟨ci j0,.mmp j0,.mmp j0,.msl j0,j5⟩⟩,⟨_,j0,zg (fun _=>j0)⟩,⟨_,j0,zg (fun _=>j0)⟩,⟨_,j0,zg (fun _=>j0)⟩,⟨_,j0,zg (fun _=>j0)⟩,j5⟩,j0,j1⟩
     ·
      rintro ⟨v60,v61⟩ rfl
      replace h:zfq i n v60 v61=some r:=h
      unfold zfq at h
      refine zx ?_
      refine rl j0<|u<|add ti3 j0 j0<|u<|mv j0<|zc ?_
      obtain rfl:=sm h
      exact ⟨_,j0,[.old 0,.old 1,.old 2,.old 3,.old 4],ce j0 j0<|cv j0 (.mpt j0)<|cv j0 (.msl j0)<|ce j0 j0<|ce j0 j0<|cn,j0,⟨⟨_,j0,zn ⟨ci j0,.mmp j0,.mmp j0,.msl j0,j5⟩⟩,⟨_,j0,zg (fun _=>j0)⟩,⟨_,j0,zg (fun _=>j0)⟩,⟨_,j0,zg (fun _=>j0)⟩,⟨_,j0,zg (fun _=>j0)⟩,j5⟩,j0,j1⟩
     ·
      rintro r' rfl env st hp
      obtain rfl:=sm h
      exact ⟨_,j0,hp⟩
   ·
    replace h:=bF J h
    refine zB ?_
    obtain rfl:=sm h
    exact ⟨j0,_,j0,[.old 0,.old 1,.old 2,.old 3],cv j0 (.mpt j0)<|cn,j0,⟨⟨_,j0,zn ⟨ci j0,.mmp j0,.mmp j0,.msl j0,j5⟩⟩,⟨_,j0,zg (fun _=>j0)⟩,⟨_,j0,zg (fun _=>j0)⟩,⟨_,j0,zg (fun _=>j0)⟩,j5⟩,j0,j1⟩
  ·
   rintro ⟨v62,v63,v64⟩ rfl
   replace h:zg8 a v62 v63 v64=some r:=h
   unfold zg8 at h
   refine zx ?_
   refine rg j0<|u<|mv j0<|u<|asg j0<|zc ?_
   refine zp ?_
   obtain rfl:=sm h
   exact ⟨_,j0,[.old 0,.old 1,.old 2,.old 3],.mpt j0,j0,⟨⟨_,j0,zn ⟨ci j0,.mmp j0,.mmp j0,.msl j0,j5⟩⟩,⟨_,j0,zg (fun _=>j0)⟩,⟨_,j0,zg (fun _=>j0)⟩,⟨_,j0,zg (fun _=>j0)⟩,j5⟩,j0,j1⟩
  ·
   rintro r' rfl env st hp
   obtain rfl:=sm h
   exact hp
def zeb:Option ((List UInt8)×Int) :=
  some ([],2)
def zec (c:List (List UInt8×Int)) (d:(List (List UInt8))) (a:Int):Option (Sum (Int) (Sum (Unit) ((List UInt8)×Int))) :=
  cond (decide (0≤a)) ((idx d a).bind fun b=>cond (((Option.getD (zw b c) 0) == (0:Int))||((Option.getD (zw b c) 0) == (3:Int))) ((idx d a).bind fun e=>some (.inr (.inr (e,(Option.getD (zw b c) 0))))) (some (.inl (IntKind.i64.wrap (a - 1))))) (some (.inr (.inl ())))
def zcP (c:List za) (d:List (List UInt8×Int)) (e:List (List UInt8×Int)) (i:List (List UInt8×ze)) (j:List (List UInt8)) (f:List UInt8):Option ((List UInt8)×Int) :=
  (zbp c d f).bind fun a=>(zu (fun z=>zec e a z) (IntKind.i64.wrap (((List.length a):Int) - 1))).bind fun o=>zQ o (fun b=>zeb) some
theorem zed (d:List za) (e:List (List UInt8×Int)) (c:List (List UInt8×Int)) (f:List (List UInt8×ze)) (a:List (List UInt8)) (C:List UInt8) {r:(List UInt8)×Int} (h:zcP d e c f a C=some r):SC Tryz.prog 25 [.mpt 0 0 0,sA C] [.one 4 [.ipt 2 [[.isl 6 (List.map zb d),.imp (List.map (rKV (fun x=>iA x)) e)]] 0 0,.mmp 1,.mmp 2,.msl 3 0 (List.length a)],.many 2 (List.map (rKV (fun x=>iA x)) c),.many 2 (List.map (rKV (fun x=>.agg (zf x))) f),.many 1 (List.map zz a)] (.tup [sA r.1,iA r.2]) [.one 4 [.ipt 2 [[.isl 6 (List.map zb d),.imp (List.map (rKV (fun x=>iA x)) e)]] 0 0,.mmp 1,.mmp 2,.msl 3 0 (List.length a)],.many 2 (List.map (rKV (fun x=>iA x)) c),.many 2 (List.map (rKV (fun x=>.agg (zf x))) f),.many 1 (List.map zz a)]:=by
 refine ⟨⟨j5,ze9 (sz:=2) (fun _=>j0),ze9 (sz:=2) (fun _=>j0),ze9 (sz:=1) (fun _=>j0),j5⟩,za2 Tryz.func25 j0 (by kernel_rfl) j0 ?_⟩
 unfold zcP at h
 refine rg j0<|u<|asg j0<|u<|asg j0<|zc ?_
 refine zl ?_
 refine rg j0<|u<|mv j0<|u<|eqp zr2 j0 j0 j0 j0 j0 j0<|zc ?_
 refine zk j0 (fun hx=>by cases hx) (fun _=>?_)
 refine zm ?_
 obtain ⟨i,E,h⟩:=bs h
 refine rg j0<|u<|mv j0<|u<|nc j0 j0<|u<|fa zb6 j0 j0 j0<|u<|ld zjm j0 j0<|u<|mv j0<|u<|sc [] (zeH d e C E) j0 j0 j0 j0 ⟨(rnI j0),(rnI j0),j5⟩ j5<|zcj (env0:=[(0,.mpt 0 0 0),(16,.msl 4 0 (List.length i))]) (st0:=[some (4,[[.ipt 2 [[.isl 6 (List.map zb d),.imp (List.map (rKV (fun x=>iA x)) e)]] 0 0,.mmp 1,.mmp 2,.msl 3 0 (List.length a)]]),some (2,List.map (rKV (fun x=>iA x)) c),some (2,List.map (rKV (fun x=>.agg (zf x))) f),some (1,List.map zz a),some (1,List.map zz i)]) ⟨[.old 0,.old 1,.old 2,.old 3,.old 4],cv j0 (.mpt j0)<|cv j0 (.msl j0)<|cn,j0,⟨⟨_,j0,zn ⟨ci j0,.mmp j0,.mmp j0,.msl j0,j5⟩⟩,⟨_,j0,zg (fun _=>j0)⟩,⟨_,j0,zg (fun _=>j0)⟩,⟨_,j0,zg (fun _=>j0)⟩,⟨_,j0,zg (fun _=>j0)⟩,j5⟩,j0,j1⟩<|u<|asg j0<|zc ?_
 refine zl ?_
 refine rg j0<|u<|mv j0<|u<|lnM zak j0 j0 j0<|u<|sub ti3 j0 j0<|u<|asg j0<|zc ?_
 obtain ⟨o,ho,h⟩:=bs h
 refine zU (X:=Int) (B:=Unit) (R:=(List UInt8)×Int) (fun z=>[(0,.mpt 0 0 0),(6,.msl 4 0 (List.length i)),(7,iA z)]) (fun z=>[some (4,[[.ipt 2 [[.isl 6 (List.map zb d),.imp (List.map (rKV (fun x=>iA x)) e)]] 0 0,.mmp 1,.mmp 2,.msl 3 0 (List.length a)]]),some (2,List.map (rKV (fun x=>iA x)) c),some (2,List.map (rKV (fun x=>.agg (zf x))) f),some (1,List.map zz a),some (1,List.map zz i)]) (fun b=>[]) (fun b=>[some (4,[[.ipt 2 [[.isl 6 (List.map zb d),.imp (List.map (rKV (fun x=>iA x)) e)]] 0 0,.mmp 1,.mmp 2,.msl 3 0 (List.length a)]]),some (2,List.map (rKV (fun x=>iA x)) c),some (2,List.map (rKV (fun x=>.agg (zf x))) f),some (1,List.map zz a)]) (fun r env st=>zaD Tryz.prog Tryz.f25 4 (.tup [sA r.1,iA r.2]) [some (4,[[.ipt 2 [[.isl 6 (List.map zb d),.imp (List.map (rKV (fun x=>iA x)) e)]] 0 0,.mmp 1,.mmp 2,.msl 3 0 (List.length a)]]),some (2,List.map (rKV (fun x=>iA x)) c),some (2,List.map (rKV (fun x=>.agg (zf x))) f),some (1,List.map zz a)] env st) ho ⟨[.old 0,.old 1,.old 2,.old 3,.old 4],cv j0 (.mpt j0)<|cv j0 (.msl j0)<|ce j0 j0<|cn,j0,⟨⟨_,j0,zn ⟨ci j0,.mmp j0,.mmp j0,.msl j0,j5⟩⟩,⟨_,j0,zg (fun _=>j0)⟩,⟨_,j0,zg (fun _=>j0)⟩,⟨_,j0,zg (fun _=>j0)⟩,⟨_,j0,zg (fun _=>j0)⟩,j5⟩,j0,j1⟩ ?_ ?_ ?_
 ·
  rintro n r h
  replace h:zec c i n=some r:=h
  unfold zec at h
  refine zl ?_
  refine rg j0<|u<|mv j0<|u<|geq ti3 j0 j0<|zc ?_
  refine zk j0 (fun q=>?_) (fun q=>?_)
  ·
   replace h:=bT q h
   refine zm ?_
   refine zl ?_
   refine zs ?_
   obtain ⟨p,D,h⟩:=bs h
   refine rd [(0,.mpt 0 0 0),(6,.msl 4 0 (List.length i)),(7,iA n),(8,iA (Option.getD (zw p c) 0))] [some (4,[[.ipt 2 [[.isl 6 (List.map zb d),.imp (List.map (rKV (fun x=>iA x)) e)]] 0 0,.mmp 1,.mmp 2,.msl 3 0 (List.length a)]]),some (2,List.map (rKV (fun x=>iA x)) c),some (2,List.map (rKV (fun x=>.agg (zf x))) f),some (1,List.map zz a),some (1,List.map zz i)] [] [9,8,7,6,5,4,3,2,1,0] [(8,iA (Option.getD (zw p c) 0)),(32,iA (Option.getD (zw p c) 0)),(31,sA p),(30,.mpt 4 (Int.toNat n) 0),(29,iA n),(28,.msl 4 0 (List.length i)),(27,.mmp 1),(26,.mpt 0 0 1),(25,.mpt 0 0 0),(24,.mpt 0 0 0)] 0 (by kernel_rfl) (by kernel_rfl) j0 (by kernel_rfl) (dt0 ⟨(fun _=>pa j0 j0 j0 j0 (asg j0<|j4)),(fun _=>pa j0 j0 j0 j0 (zsq (g:=(fun x=>iA x)) (z:=0) (l:=c) j0 ti3 j0 j0 j0 j0<|j4)),(fun _=>pa j0 j0 j0 j0 (ldM ti9 j0 j0 (zo D).2.2 j0<|j4)),(fun _=>pa j0 j0 j0 j0 (ixM zak j0 ti9 j0 j0 j0 j0 D<|j4)),(fun _=>pa j0 j0 j0 j0 (mv j0<|j4)),(fun _=>pa j0 j0 j0 j0 (mv j0<|j4)),(fun _=>pa j0 j0 j0 j0 (ld zjg j0 j0<|j4)),(fun _=>pa j0 j0 j0 j0 (fa zb6 j0 j0 j0<|j4)),(fun _=>pa j0 j0 j0 j0 (nc j0 j0<|j4)),(fun _=>pa j0 j0 j0 j0 (mv j0<|j4)),j5⟩ (by kernel_rfl) j0 ⟨[.old 0,.old 1,.old 2,.old 3,.old 4],cv j0 (.mpt j0)<|cv j0 (.msl j0)<|ce j0 j0<|ce j0 j0<|cn,j0,⟨⟨_,j0,zn ⟨ci j0,.mmp j0,.mmp j0,.msl j0,j5⟩⟩,⟨_,j0,zg (fun _=>j0)⟩,⟨_,j0,zg (fun _=>j0)⟩,⟨_,j0,zg (fun _=>j0)⟩,⟨_,j0,zg (fun _=>j0)⟩,j5⟩,j0,j1⟩) ?_
   refine rg j0<|u<|mv j0<|u<|eql ti3 j0 j0<|u<|mv j0<|zdf (j:=2) 2 j0 j0 j0 j0 j0 gpn (fun s=>g j0 s<|mv j0<|g j0 s<|eql ti3 j0 j0<|zc (egO [36,37] 2 s j0 j0 j0 j0)) orT<|zc ?_
   refine zk j0 (fun m=>?_) (fun m=>?_)
   ·
    replace h:=bT m h
    obtain ⟨F,v,h⟩:=bs h
    refine rg j0<|u<|mv j0<|u<|mv j0<|u<|ixM zak j0 ti9 j0 j0 j0 j0 v<|u<|ldM ti9 j0 j0 (zo v).2.2 j0<|u<|mv j0<|u<|asg j0<|u<|asg j0<|zc ?_
    refine zp ?_
    obtain rfl:=sm h
    exact ⟨_,j0,_,j0,[.old 0,.old 1,.old 2,.old 3],zer ⟨(ci j0),(ci j0),j5⟩,j0,⟨⟨_,j0,zn ⟨ci j0,.mmp j0,.mmp j0,.msl j0,j5⟩⟩,⟨_,j0,zg (fun _=>j0)⟩,⟨_,j0,zg (fun _=>j0)⟩,⟨_,j0,zg (fun _=>j0)⟩,j5⟩,j0,j1⟩
   ·
    replace h:=bF m h
    refine zm ?_
    refine rl j0<|u<|mv j0<|u<|sub ti3 j0 j0<|u<|asg j0<|zc ?_
    obtain rfl:=sm h
    exact ⟨_,j0,[.old 0,.old 1,.old 2,.old 3,.old 4],cv j0 (.mpt j0)<|cv j0 (.msl j0)<|ce j0 j0<|cn,j0,⟨⟨_,j0,zn ⟨ci j0,.mmp j0,.mmp j0,.msl j0,j5⟩⟩,⟨_,j0,zg (fun _=>j0)⟩,⟨_,j0,zg (fun _=>j0)⟩,⟨_,j0,zg (fun _=>j0)⟩,⟨_,j0,zg (fun _=>j0)⟩,j5⟩,j0,j1⟩
  ·
   replace h:=bF q h
   refine zB ?_
   obtain rfl:=sm h
   exact ⟨j0,_,j0,[.old 0,.old 1,.old 2,.old 3],cn,j0,⟨⟨_,j0,zn ⟨ci j0,.mmp j0,.mmp j0,.msl j0,j5⟩⟩,⟨_,j0,zg (fun _=>j0)⟩,⟨_,j0,zg (fun _=>j0)⟩,⟨_,j0,zg (fun _=>j0)⟩,j5⟩,j0,j1⟩
 ·
  rintro ⟨⟩ rfl
  replace h:zeb=some r:=h
  unfold zeb at h
  refine zx ?_
  refine rg j0<|u<|asg j0<|u<|asg j0<|zc ?_
  refine zp ?_
  obtain rfl:=sm h
  exact ⟨_,j0,[.old 0,.old 1,.old 2,.old 3],zer ⟨(ci j0),(ci j0),j5⟩,j0,⟨⟨_,j0,zn ⟨ci j0,.mmp j0,.mmp j0,.msl j0,j5⟩⟩,⟨_,j0,zg (fun _=>j0)⟩,⟨_,j0,zg (fun _=>j0)⟩,⟨_,j0,zg (fun _=>j0)⟩,j5⟩,j0,j1⟩
 ·
  rintro r' rfl env st hp
  obtain rfl:=sm h
  exact hp
def zd (d:List za) (e:List (List UInt8×Int)) (a:List (List UInt8×Int)) (f:List (List UInt8×ze)) (i:List (List UInt8)) (c:List UInt8) (b:Int):(List (List UInt8×Int)) :=
  cond ((decide (b < 0))||(decide (3 < b))) (a) (cond (Option.isSome (zw c a)) ((zat c b a)) (a))
theorem zde (i:List za) (m:List (List UInt8×Int)) (f:List (List UInt8×Int)) (n:List (List UInt8×ze)) (a:List (List UInt8)) (o:List UInt8) (p:Int) {r:(List (List UInt8×Int))} (h:zd i m f n a o p=r):SC Tryz.prog 24 [.mpt 0 0 0,sA o,iA p] [.one 4 [.ipt 2 [[.isl 6 (List.map zb i),.imp (List.map (rKV (fun x=>iA x)) m)]] 0 0,.mmp 1,.mmp 2,.msl 3 0 (List.length a)],.many 2 (List.map (rKV (fun x=>iA x)) f),.many 2 (List.map (rKV (fun x=>.agg (zf x))) n),.many 1 (List.map zz a)] (.tup []) [.one 4 [.ipt 2 [[.isl 6 (List.map zb i),.imp (List.map (rKV (fun x=>iA x)) m)]] 0 0,.mmp 1,.mmp 2,.msl 3 0 (List.length a)],.many 2 (List.map (rKV (fun x=>iA x)) r),.many 2 (List.map (rKV (fun x=>.agg (zf x))) n),.many 1 (List.map zz a)]:=by
 refine ⟨⟨j5,ze9 (sz:=2) (fun _=>j0),ze9 (sz:=2) (fun _=>j0),ze9 (sz:=1) (fun _=>j0),j5⟩,za2 Tryz.func24 j0 (by kernel_rfl) j0 ?_⟩
 unfold zd at h
 refine zl ?_
 refine rg j0<|u<|mv j0<|u<|eqp zr2 j0 j0 j0 j0 j0 j0<|u<|mv j0<|g j0 j0<|mv j0<|g j0 j0<|lss ti3 j0 j0<|u<|pk (b:=false) j0 j0<|u<|mv j0<|zdf (j:=6) 2 j0 j0 j0 j0 j0 gpn (fun c=>g j0 c<|mv j0<|g j0 c<|gtr ti3 j0 j0<|zc (egO [15,16] 2 c j0 j0 j0 j0)) orT<|zc ?_
 refine zk j0 (fun d=>?_) (fun d=>?_)
 ·
  replace h:=bT d h
  refine zp ?_
  obtain rfl:=h
  exact ⟨_,j0,[.old 0,.old 1,.old 2,.old 3],zer j5,j0,⟨⟨_,j0,zn ⟨ci j0,.mmp j0,.mmp j0,.msl j0,j5⟩⟩,⟨_,j0,zg (fun _=>j0)⟩,⟨_,j0,zg (fun _=>j0)⟩,⟨_,j0,zg (fun _=>j0)⟩,j5⟩,j0,j1⟩
 ·
  replace h:=bF d h
  refine zm ?_
  refine rg j0<|u<|mv j0<|u<|nc j0 j0<|u<|fa zb6 j0 j0 j0<|u<|ld zjg j0 j0<|u<|mv j0<|u<|zt5 (g:=(fun x=>iA x)) (z:=0) (l:=f) j0 ti3 j0 j0 j0 j0<|u<|mv j0<|u<|ex j0 j0<|u<|ex j0 j0<|u<|asg j0<|u<|asg j0<|zc ?_
  refine rg j0<|u<|mv j0<|zc ?_
  refine zk j0 (fun e=>?_) (fun e=>?_)
  ·
   replace h:=bT e h
   refine rl j0<|u<|mv j0<|u<|nc j0 j0<|u<|fa zb6 j0 j0 j0<|u<|ld zjg j0 j0<|u<|mv j0<|u<|mv j0<|u<|mup (v:=p) (g:=(fun x=>iA x)) (l:=f) (s:=o) j0 j0 j0 j0 j0 j0<|zc ?_
   obtain rfl:=h
   exact ⟨_,j0,[.old 0,.old 1,.old 2,.old 3],zer j5,j0,⟨⟨_,j0,zn ⟨ci j0,.mmp j0,.mmp j0,.msl j0,j5⟩⟩,⟨_,j0,zg (fun _=>j0)⟩,⟨_,j0,zg (fun _=>j0)⟩,⟨_,j0,zg (fun _=>j0)⟩,j5⟩,j0,j1⟩
  ·
   replace h:=bF e h
   refine zm ?_
   obtain rfl:=h
   exact ⟨_,j0,[.old 0,.old 1,.old 2,.old 3],zer j5,j0,⟨⟨_,j0,zn ⟨ci j0,.mmp j0,.mmp j0,.msl j0,j5⟩⟩,⟨_,j0,zg (fun _=>j0)⟩,⟨_,j0,zg (fun _=>j0)⟩,⟨_,j0,zg (fun _=>j0)⟩,j5⟩,j0,j1⟩
def zbD (e:List za) (f:List (List UInt8×Int)) (i:List (List UInt8×Int)) (a:List (List UInt8×ze)) (j:List (List UInt8)) (c:List UInt8) (d:List UInt8):Option (ze×Bool) :=
  (zeF c d).bind fun b=>some ((Option.getD (zw b a) (ze.mk false 0)),(Option.isSome (zw b a)))
theorem zdc (f:List za) (i:List (List UInt8×Int)) (j:List (List UInt8×Int)) (a:List (List UInt8×ze)) (c:List (List UInt8)) (d:List UInt8) (e:List UInt8) {r:ze×Bool} (h:zbD f i j a c d e=some r):SC Tryz.prog 94 [.mpt 0 0 0,sA d,sA e] [.one 4 [.ipt 2 [[.isl 6 (List.map zb f),.imp (List.map (rKV (fun x=>iA x)) i)]] 0 0,.mmp 1,.mmp 2,.msl 3 0 (List.length c)],.many 2 (List.map (rKV (fun x=>iA x)) j),.many 2 (List.map (rKV (fun x=>.agg (zf x))) a),.many 1 (List.map zz c)] (.tup [.agg (zf r.1),bA r.2]) [.one 4 [.ipt 2 [[.isl 6 (List.map zb f),.imp (List.map (rKV (fun x=>iA x)) i)]] 0 0,.mmp 1,.mmp 2,.msl 3 0 (List.length c)],.many 2 (List.map (rKV (fun x=>iA x)) j),.many 2 (List.map (rKV (fun x=>.agg (zf x))) a),.many 1 (List.map zz c)]:=by
 refine ⟨⟨j5,ze9 (sz:=2) (fun _=>j0),ze9 (sz:=2) (fun _=>j0),ze9 (sz:=1) (fun _=>j0),j5⟩,za2 Tryz.func94 j0 (by kernel_rfl) j0 ?_⟩
 unfold zbD at h
 refine rg j0<|u<|al 4 zdO j0<|u<|asg j0<|zc ?_
 refine zl ?_
 refine rg j0<|u<|mv j0<|u<|eqp zr2 j0 j0 j0 j0 j0 j0<|zc ?_
 refine zk j0 (fun hx=>by cases hx) (fun _=>?_)
 refine zm ?_
 obtain ⟨b,m,h⟩:=bs h
 refine rd [(6,.mpt 4 0 0),(8,.mpt 5 0 0),(9,bA (Option.isSome (zw b a)))] [some (4,[[.ipt 2 [[.isl 6 (List.map zb f),.imp (List.map (rKV (fun x=>iA x)) i)]] 0 0,.mmp 1,.mmp 2,.msl 3 0 (List.length c)]]),some (2,List.map (rKV (fun x=>iA x)) j),some (2,List.map (rKV (fun x=>.agg (zf x))) a),some (1,List.map zz c),some (2,[[bA false,.lit (.int .i32 0)]]),some (2,[[bA ((Option.getD (zw b a) (ze.mk false 0)).Ref),.lit (.int .i32 ((Option.getD (zw b a) (ze.mk false 0)).N))]])] [11,12] [10,9,8,7,6,5,4,3,2,1,0] [(23,bA (Option.isSome (zw b a))),(22,.agg [bA ((Option.getD (zw b a) (ze.mk false 0)).Ref),.lit (.int .i32 ((Option.getD (zw b a) (ze.mk false 0)).N))]),(13,.tup [.agg [bA ((Option.getD (zw b a) (ze.mk false 0)).Ref),.lit (.int .i32 ((Option.getD (zw b a) (ze.mk false 0)).N))],bA (Option.isSome (zw b a))]),(21,.tup [.agg [bA ((Option.getD (zw b a) (ze.mk false 0)).Ref),.lit (.int .i32 ((Option.getD (zw b a) (ze.mk false 0)).N))],bA (Option.isSome (zw b a))]),(20,sA b),(19,sA e),(18,sA d),(17,.mmp 2),(16,.mpt 0 0 2),(15,.mpt 0 0 0),(14,.mpt 0 0 0)] 2 (by kernel_rfl) (by kernel_rfl) j0 (by kernel_rfl) (dtS ⟨(fun _=>pa j0 j0 j0 j0 (ex j0 j0<|j4)),(fun _=>pa j0 j0 j0 j0 (ex j0 j0<|j4)),(fun _=>pa j0 j0 j0 j0 (mv j0<|j4)),(fun _=>pa j0 j0 j0 j0 (zt5 (g:=(fun x=>.agg (zf x))) (z:=(ze.mk false 0)) (l:=a) j0 zdO j0 j0 j0 j0<|j4)),(fun _=>pa j0 j0 j0 j0 (pc (zdC d e m) j0 j0 j0<|j4)),(fun _=>pa j0 j0 j0 j0 (mv j0<|j4)),(fun _=>pa j0 j0 j0 j0 (mv j0<|j4)),(fun _=>pa j0 j0 j0 j0 (ld zjK j0 j0<|j4)),(fun _=>pa j0 j0 j0 j0 (fa zb6 j0 j0 j0<|j4)),(fun _=>pa j0 j0 j0 j0 (nc j0 j0<|j4)),(fun _=>pa j0 j0 j0 j0 (mv j0<|j4)),j5⟩ (by kernel_rfl) j0 ⟨(fun _ _=>⟨_,j0,j0,al 5 zdO j0<|⟨(.mpt 5 0 0),[],[(8,.mpt 5 0 0)],j0,j0,by kernel_rfl,j0,dtS ⟨(fun _=>pa j0 j0 j0 j0 (ex j0 j0<|j4)),(fun _=>pa j0 j0 j0 j0 (ex j0 j0<|j4)),(fun _=>pa j0 j0 j0 j0 (mv j0<|j4)),(fun _=>pa j0 j0 j0 j0 (zt5 (g:=(fun x=>.agg (zf x))) (z:=(ze.mk false 0)) (l:=a) j0 zdO j0 j0 j0 j0<|j4)),(fun _=>pa j0 j0 j0 j0 (pc (zdC d e m) j0 j0 j0<|j4)),(fun _=>pa j0 j0 j0 j0 (mv j0<|j4)),(fun _=>pa j0 j0 j0 j0 (mv j0<|j4)),(fun _=>pa j0 j0 j0 j0 (ld zjK j0 j0<|j4)),(fun _=>pa j0 j0 j0 j0 (fa zb6 j0 j0 j0<|j4)),(fun _=>pa j0 j0 j0 j0 (nc j0 j0<|j4)),(fun _=>pa j0 j0 j0 j0 (mv j0<|j4)),j5⟩ (by kernel_rfl) j0 ⟨(fun h=>by cases h),(fun _ _=>⟨_,j0,j0,sto zdO j0 j0 j0<|⟨.any,[13],[(9,bA (Option.isSome (zw b a)))],j0,j0,by kernel_rfl,j5,dt0 ⟨(fun _=>pa j0 j0 j0 j0 (asg j0<|j4)),(fun _=>pa j0 j0 j0 j0 (ex j0 j0<|j4)),(fun h=>by cases h),(fun h=>by cases h),(fun h=>by cases h),(fun h=>by cases h),(fun h=>by cases h),(fun h=>by cases h),(fun h=>by cases h),(fun h=>by cases h),(fun h=>by cases h),(fun h=>by cases h),j5⟩ (by kernel_rfl) j0 ⟨[.old 0,.old 1,.old 2,.old 3,.old 4,.old 5],cv j0 (.mpt j0)<|cv j0 (.mpt j0)<|ce j0 j0<|cn,j0,⟨⟨_,j0,zn ⟨ci j0,.mmp j0,.mmp j0,.msl j0,j5⟩⟩,⟨_,j0,zg (fun _=>j0)⟩,⟨_,j0,zg (fun _=>j0)⟩,⟨_,j0,zg (fun _=>j0)⟩,⟨_,j0,zn (ciL j0)⟩,⟨_,j0,zn (ciL j0)⟩,j5⟩,j0,j1⟩⟩⟩),j5⟩⟩⟩),(fun _ h=>by cases h),j5⟩) ?_
 refine rg j0<|u<|ld zdO j0 j0<|u<|mv j0<|u<|sto zdO j0 j0 j0<|u<|asg j0<|zc ?_
 refine zp ?_
 obtain rfl:=sm h
 exact ⟨_,j0,[.old 0,.old 1,.old 2,.old 3],zer ⟨(ci j0),(ci j0),j5⟩,j0,⟨⟨_,j0,zn ⟨ci j0,.mmp j0,.mmp j0,.msl j0,j5⟩⟩,⟨_,j0,zg (fun _=>j0)⟩,⟨_,j0,zg (fun _=>j0)⟩,⟨_,j0,zg (fun _=>j0)⟩,j5⟩,j0,j1⟩
def zbE (i:List za) (j:List (List UInt8×Int)) (l:List (List UInt8×Int)) (a:List (List UInt8×ze)) (m:List (List UInt8)) (b:List UInt8) (c:List UInt8) (d:ze):Option (Bool×(List (List UInt8×ze))) :=
  (zbD i j l a m b c).bind fun e=>cond ((!e.2)||(!(e.1.Ref == d.Ref))) (some (false,a)) ((zeF b c).bind fun f=>some (true,(zat f d a)))
theorem zdd (c:List za) (d:List (List UInt8×Int)) (e:List (List UInt8×Int)) (f:List (List UInt8×ze)) (a:List (List UInt8)) (i:List UInt8) (m:List UInt8) (n:ze) {r:Bool×(List (List UInt8×ze))} (h:zbE c d e f a i m n=some r):SC Tryz.prog 29 [.mpt 0 0 0,sA i,sA m,.agg (zf n)] [.one 4 [.ipt 2 [[.isl 6 (List.map zb c),.imp (List.map (rKV (fun x=>iA x)) d)]] 0 0,.mmp 1,.mmp 2,.msl 3 0 (List.length a)],.many 2 (List.map (rKV (fun x=>iA x)) e),.many 2 (List.map (rKV (fun x=>.agg (zf x))) f),.many 1 (List.map zz a)] (bA r.1) [.one 4 [.ipt 2 [[.isl 6 (List.map zb c),.imp (List.map (rKV (fun x=>iA x)) d)]] 0 0,.mmp 1,.mmp 2,.msl 3 0 (List.length a)],.many 2 (List.map (rKV (fun x=>iA x)) e),.many 2 (List.map (rKV (fun x=>.agg (zf x))) r.2),.many 1 (List.map zz a)]:=by
 refine ⟨⟨j5,ze9 (sz:=2) (fun _=>j0),ze9 (sz:=2) (fun _=>j0),ze9 (sz:=1) (fun _=>j0),j5⟩,za2 Tryz.func29 j0 (by kernel_rfl) j0 ?_⟩
 unfold zbE at h
 refine rg j0<|u<|bx 4 2 j0 j0 j0 j0<|u<|asg j0<|zc ?_
 refine zl ?_
 obtain ⟨q,B,h⟩:=bs h
 refine rg j0<|u<|mv j0<|u<|mv j0<|u<|mv j0<|u<|sc [0,1,2,3] (zdc c d e f a i m B) j0 j0 j0 j0 ⟨(.mpt j0),(rnI j0),(rnI j0),j5⟩ ⟨⟨_,j0,⟨(rnI j0),(.mmp j0),(.mmp j0),(.msl j0),j5⟩⟩,⟨j0,mkI (fun _=>j0)⟩,⟨j0,mkI (fun _=>j0)⟩,⟨j0,mkI (fun _=>j0)⟩,j5⟩<|zcj (env0:=[(0,.mpt 0 0 0),(1,sA i),(2,sA m),(7,.mpt 4 0 0),(15,.tup [.agg (zf q.1),bA q.2])]) (st0:=[some (4,[[.ipt 2 [[.isl 6 (List.map zb c),.imp (List.map (rKV (fun x=>iA x)) d)]] 0 0,.mmp 1,.mmp 2,.msl 3 0 (List.length a)]]),some (2,List.map (rKV (fun x=>iA x)) e),some (2,List.map (rKV (fun x=>.agg (zf x))) f),some (1,List.map zz a),some (2,[(zf n)])]) ⟨[.old 0,.old 1,.old 2,.old 3,.old 4],cv j0 (.mpt j0)<|ce j0 j0<|ce j0 j0<|cv j0 (.mpt j0)<|ce j0 j0<|cn,j0,⟨⟨_,j0,zn ⟨ci j0,.mmp j0,.mmp j0,.msl j0,j5⟩⟩,⟨_,j0,zg (fun _=>j0)⟩,⟨_,j0,zg (fun _=>j0)⟩,⟨_,j0,zg (fun _=>j0)⟩,⟨_,j0,zn (ciL j0)⟩,j5⟩,j0,j1⟩<|u<|mv j0<|u<|ex j0 j0<|u<|ex j0 j0<|u<|al 5 zdO j0<|u<|sto zdO j0 j0 j0<|u<|asg j0<|zc ?_
 refine rg j0<|u<|mv j0<|u<|nt j0<|u<|mv j0<|zdf (j:=2) 5 j0 j0 j0 j0 j0 gpn (fun b=>g j0 b<|fa zdO j0 j0 j0<|g j0 b<|ld ti4 j0 j0<|g j0 b<|fa zdO j0 j0 j0<|g j0 b<|ld ti4 j0 j0<|g j0 b<|bne ti4 j0 j0 j0<|zc (egO [21,22,23,24,25] 5 b j0 j0 j0 j0)) orT<|zc ?_
 refine zk j0 (fun o=>?_) (fun o=>?_)
 ·
  replace h:=bT o h
  refine rg j0<|u<|asg j0<|zc ?_
  refine zp ?_
  obtain rfl:=sm h
  exact ⟨_,j0,[.old 0,.old 1,.old 2,.old 3],ci j0,j0,⟨⟨_,j0,zn ⟨ci j0,.mmp j0,.mmp j0,.msl j0,j5⟩⟩,⟨_,j0,zg (fun _=>j0)⟩,⟨_,j0,zg (fun _=>j0)⟩,⟨_,j0,zg (fun _=>j0)⟩,j5⟩,j0,j1⟩
 ·
  replace h:=bF o h
  refine zm ?_
  obtain ⟨p,C,h⟩:=bs h
  refine rd [] [some (4,[[.ipt 2 [[.isl 6 (List.map zb c),.imp (List.map (rKV (fun x=>iA x)) d)]] 0 0,.mmp 1,.mmp 2,.msl 3 0 (List.length a)]]),some (2,List.map (rKV (fun x=>iA x)) e),some (2,List.map (rKV (fun x=>.agg (zf x))) (zat p n f)),some (1,List.map zz a)] [8] [7,6,5,4,3,2,1,0] [(34,.agg (zf n)),(33,sA p),(32,sA m),(31,sA i),(30,.mmp 2),(29,.mpt 0 0 2),(28,.mpt 0 0 0),(27,.mpt 0 0 0)] 1 (by kernel_rfl) (by kernel_rfl) j0 (by kernel_rfl) (dtS ⟨(fun _=>pa j0 j0 j0 j0 (ld zdO j0 j0<|j4)),(fun _=>pa j0 j0 j0 j0 (pc (zdC i m C) j0 j0 j0<|j4)),(fun _=>pa j0 j0 j0 j0 (mv j0<|j4)),(fun _=>pa j0 j0 j0 j0 (mv j0<|j4)),(fun _=>pa j0 j0 j0 j0 (ld zjK j0 j0<|j4)),(fun _=>pa j0 j0 j0 j0 (fa zb6 j0 j0 j0<|j4)),(fun _=>pa j0 j0 j0 j0 (nc j0 j0<|j4)),(fun _=>pa j0 j0 j0 j0 (mv j0<|j4)),j5⟩ (by kernel_rfl) j0 ⟨(fun _ _=>⟨_,j0,j0,mup (v:=n) (g:=(fun x=>.agg (zf x))) (l:=f) (s:=p) j0 j0 j0 j0 j0 j0<|⟨.any,[],[],j0,j0,by kernel_rfl,j5,dt0 ⟨(fun h=>by cases h),(fun h=>by cases h),(fun h=>by cases h),(fun h=>by cases h),(fun h=>by cases h),(fun h=>by cases h),(fun h=>by cases h),(fun h=>by cases h),j5⟩ (by kernel_rfl) j0 ⟨[.old 0,.old 1,.old 2,.old 3],cn,j0,⟨⟨_,j0,zn ⟨ci j0,.mmp j0,.mmp j0,.msl j0,j5⟩⟩,⟨_,j0,zg (fun _=>j0)⟩,⟨_,j0,zg (fun _=>j0)⟩,⟨_,j0,zg (fun _=>j0)⟩,j5⟩,j0,j1⟩⟩⟩),j5⟩) ?_
  refine rg j0<|u<|asg j0<|zc ?_
  refine zp ?_
  obtain rfl:=sm h
  exact ⟨_,j0,[.old 0,.old 1,.old 2,.old 3],ci j0,j0,⟨⟨_,j0,zn ⟨ci j0,.mmp j0,.mmp j0,.msl j0,j5⟩⟩,⟨_,j0,zg (fun _=>j0)⟩,⟨_,j0,zg (fun _=>j0)⟩,⟨_,j0,zg (fun _=>j0)⟩,j5⟩,j0,j1⟩
theorem zpw (a:List (List UInt8×Int)) {r:Unit} (_:()=r):SC Tryz.prog 115 [.mmp 0] [.many 2 (List.map (rKV (fun x=>iA x)) a)] (.mmp 1) [.many 2 (List.map (rKV (fun x=>iA x)) a),.many 2 (List.map (rKV (fun x=>iA x)) a)] :=
 ⟨⟨ze9 (sz:=2) (fun _=>j0),ze9 (sz:=2) (fun _=>j0),j5⟩,zwF _⟩
theorem zpx (a:List (List UInt8×ze)) {r:Unit} (_:()=r):SC Tryz.prog 116 [.mmp 0] [.many 2 (List.map (rKV (fun x=>.agg (zf x))) a)] (.mmp 1) [.many 2 (List.map (rKV (fun x=>.agg (zf x))) a),.many 2 (List.map (rKV (fun x=>.agg (zf x))) a)] :=
 ⟨⟨ze9 (sz:=2) (fun _=>j0),ze9 (sz:=2) (fun _=>j0),j5⟩,zwG _⟩
def zj (a:List za) (b:List (List UInt8×Int)) (c:List (List UInt8×Int)) (d:List (List UInt8×ze)) (e:List (List UInt8)):(List za)×(List (List UInt8×Int))×(List (List UInt8×Int))×(List (List UInt8×ze))×(List (List UInt8)) :=
  (a,b,c,d,e)
theorem zfO (b:List za) (c:List (List UInt8×Int)) (d:List (List UInt8×Int)) (e:List (List UInt8×ze)) (a:List (List UInt8)) {r:(List za)×(List (List UInt8×Int))×(List (List UInt8×Int))×(List (List UInt8×ze))×(List (List UInt8))} (h:zj b c d e a=r):SC Tryz.prog 33 [.mpt 0 0 0] [.one 4 [.ipt 2 [[.isl 6 (List.map zb b),.imp (List.map (rKV (fun x=>iA x)) c)]] 0 0,.mmp 1,.mmp 2,.msl 3 0 (List.length a)],.many 2 (List.map (rKV (fun x=>iA x)) d),.many 2 (List.map (rKV (fun x=>.agg (zf x))) e),.many 1 (List.map zz a)] (.mpt 4 0 0) [.one 4 [.ipt 2 [[.isl 6 (List.map zb b),.imp (List.map (rKV (fun x=>iA x)) c)]] 0 0,.mmp 1,.mmp 2,.msl 3 0 (List.length r.2.2.2.2)],.many 2 (List.map (rKV (fun x=>iA x)) d),.many 2 (List.map (rKV (fun x=>.agg (zf x))) e),.many 1 (List.map zz r.2.2.2.2),.one 4 [.ipt 2 [[.isl 6 (List.map zb r.1),.imp (List.map (rKV (fun x=>iA x)) r.2.1)]] 0 0,.mmp 5,.mmp 6,.msl 3 0 (List.length r.2.2.2.2)],.many 2 (List.map (rKV (fun x=>iA x)) r.2.2.1),.many 2 (List.map (rKV (fun x=>.agg (zf x))) r.2.2.2.1)]:=by
 refine ⟨⟨j5,ze9 (sz:=2) (fun _=>j0),ze9 (sz:=2) (fun _=>j0),ze9 (sz:=1) (fun _=>j0),j5,ze9 (sz:=2) (fun _=>j0),ze9 (sz:=2) (fun _=>j0),j5⟩,za2 Tryz.func33 j0 (by kernel_rfl) j0 ?_⟩
 unfold zj at h
 refine rg j0<|u<|asg j0<|zc ?_
 refine zl ?_
 refine rg j0<|u<|mv j0<|u<|eqp zr2 j0 j0 j0 j0 j0 j0<|zc ?_
 refine zk j0 (fun hx=>by cases hx) (fun _=>?_)
 refine zm ?_
 refine rd [(2,.mpt 4 0 0)] [some (4,[[.ipt 2 [[.isl 6 (List.map zb b),.imp (List.map (rKV (fun x=>iA x)) c)]] 0 0,.mmp 1,.mmp 2,.msl 3 0 (List.length a)]]),some (2,List.map (rKV (fun x=>iA x)) d),some (2,List.map (rKV (fun x=>.agg (zf x))) e),some (1,List.map zz a),some (4,[[.ipt 2 [[.isl 6 (List.map zb b),.imp (List.map (rKV (fun x=>iA x)) c)]] 0 0,.mmp 5,.mmp 6,.msl 3 0 (List.length a)]]),some (2,List.map (rKV (fun x=>iA x)) d),some (2,List.map (rKV (fun x=>.agg (zf x))) e)] [8,13,19] [17,16,15,14,12,11,10,9,7,6,5,4,3,2,1,0] [(22,.msl 3 0 (List.length a)),(21,.mpt 0 0 3),(20,.mpt 0 0 0),(19,.mpt 0 0 0),(17,.mmp 2),(16,.mpt 0 0 2),(15,.mpt 0 0 0),(14,.mpt 0 0 0),(12,.mmp 1),(11,.mpt 0 0 1),(10,.mpt 0 0 0),(9,.mpt 0 0 0),(8,.ipt 2 [[.isl 6 (List.map zb b),.imp (List.map (rKV (fun x=>iA x)) c)]] 0 0),(7,.mpt 0 0 0),(6,.mpt 0 0 0),(5,.mpt 0 0 0)] 3 (by kernel_rfl) (by kernel_rfl) j0 (by kernel_rfl) (dtS ⟨(fun _=>pa j0 j0 j0 j0 (ld zak j0 j0<|j4)),(fun _=>pa j0 j0 j0 j0 (fa zb6 j0 j0 j0<|j4)),(fun _=>pa j0 j0 j0 j0 (nc j0 j0<|j4)),(fun _=>pa j0 j0 j0 j0 (mv j0<|j4)),(fun _=>pa j0 j0 j0 j0 (ld zjK j0 j0<|j4)),(fun _=>pa j0 j0 j0 j0 (fa zb6 j0 j0 j0<|j4)),(fun _=>pa j0 j0 j0 j0 (nc j0 j0<|j4)),(fun _=>pa j0 j0 j0 j0 (mv j0<|j4)),(fun _=>pa j0 j0 j0 j0 (ld zjg j0 j0<|j4)),(fun _=>pa j0 j0 j0 j0 (fa zb6 j0 j0 j0<|j4)),(fun _=>pa j0 j0 j0 j0 (nc j0 j0<|j4)),(fun _=>pa j0 j0 j0 j0 (mv j0<|j4)),(fun _=>pa j0 j0 j0 j0 (ld zjm j0 j0<|j4)),(fun _=>pa j0 j0 j0 j0 (fa zb6 j0 j0 j0<|j4)),(fun _=>pa j0 j0 j0 j0 (nc j0 j0<|j4)),(fun _=>pa j0 j0 j0 j0 (mv j0<|j4)),j5⟩ (by kernel_rfl) j0 ⟨(fun _ _=>⟨_,j0,j0,sc [1] (zpw d j0) j0 j0 j0 j0 ⟨(.mmp j0),j5⟩ ⟨⟨j0,mkI (fun _=>j0)⟩,j5⟩<|⟨(.mmp 4),[],[(13,.mmp 4)],j0,j0,by kernel_rfl,j0,dtS ⟨(fun _=>pa j0 j0 j0 j0 (ld zak j0 j0<|j4)),(fun _=>pa j0 j0 j0 j0 (fa zb6 j0 j0 j0<|j4)),(fun _=>pa j0 j0 j0 j0 (nc j0 j0<|j4)),(fun _=>pa j0 j0 j0 j0 (mv j0<|j4)),(fun _=>pa j0 j0 j0 j0 (ld zjK j0 j0<|j4)),(fun _=>pa j0 j0 j0 j0 (fa zb6 j0 j0 j0<|j4)),(fun _=>pa j0 j0 j0 j0 (nc j0 j0<|j4)),(fun _=>pa j0 j0 j0 j0 (mv j0<|j4)),(fun h=>by cases h),(fun _=>pa j0 j0 j0 j0 (fa zb6 j0 j0 j0<|j4)),(fun _=>pa j0 j0 j0 j0 (nc j0 j0<|j4)),(fun _=>pa j0 j0 j0 j0 (mv j0<|j4)),(fun _=>pa j0 j0 j0 j0 (ld zjm j0 j0<|j4)),(fun _=>pa j0 j0 j0 j0 (fa zb6 j0 j0 j0<|j4)),(fun _=>pa j0 j0 j0 j0 (nc j0 j0<|j4)),(fun _=>pa j0 j0 j0 j0 (mv j0<|j4)),j5⟩ (by kernel_rfl) j0 ⟨(fun h=>by cases h),(fun _ _=>⟨_,j0,j0,sc [2] (zpx e j0) j0 j0 j0 j0 ⟨(.mmp j0),j5⟩ ⟨⟨j0,mkI (fun _=>j0)⟩,j5⟩<|⟨(.mmp 5),[18],[(23,.agg [.ipt 2 [[.isl 6 (List.map zb b),.imp (List.map (rKV (fun x=>iA x)) c)]] 0 0,.mmp 4,.mmp 5,.msl 3 0 (List.length a)]),(18,.mmp 5)],j0,j0,by kernel_rfl,j0,dtS ⟨(fun _=>pa j0 j0 j0 j0 (bd zb6 j0 j0 j0<|j4)),(fun _=>pa j0 j0 j0 j0 (ld zak j0 j0<|j4)),(fun _=>pa j0 j0 j0 j0 (fa zb6 j0 j0 j0<|j4)),(fun _=>pa j0 j0 j0 j0 (nc j0 j0<|j4)),(fun _=>pa j0 j0 j0 j0 (mv j0<|j4)),(fun h=>by cases h),(fun _=>pa j0 j0 j0 j0 (fa zb6 j0 j0 j0<|j4)),(fun _=>pa j0 j0 j0 j0 (nc j0 j0<|j4)),(fun _=>pa j0 j0 j0 j0 (mv j0<|j4)),(fun h=>by cases h),(fun _=>pa j0 j0 j0 j0 (fa zb6 j0 j0 j0<|j4)),(fun _=>pa j0 j0 j0 j0 (nc j0 j0<|j4)),(fun _=>pa j0 j0 j0 j0 (mv j0<|j4)),(fun _=>pa j0 j0 j0 j0 (ld zjm j0 j0<|j4)),(fun _=>pa j0 j0 j0 j0 (fa zb6 j0 j0 j0<|j4)),(fun _=>pa j0 j0 j0 j0 (nc j0 j0<|j4)),(fun _=>pa j0 j0 j0 j0 (mv j0<|j4)),j5⟩ (by kernel_rfl) j0 ⟨(fun h=>by cases h),(fun h=>by cases h),(fun _ _=>⟨_,j0,j0,bx 6 4 j0 j0 j0 j0<|⟨(.mpt 6 0 0),[20],[(2,.mpt 6 0 0),(24,.mpt 6 0 0)],j0,j0,by kernel_rfl,j0,dt0 ⟨(fun _=>pa j0 j0 j0 j0 (asg j0<|j4)),(fun h=>by cases h),(fun _=>pa j0 j0 j0 j0 (ld zak j0 j0<|j4)),(fun _=>pa j0 j0 j0 j0 (fa zb6 j0 j0 j0<|j4)),(fun _=>pa j0 j0 j0 j0 (nc j0 j0<|j4)),(fun _=>pa j0 j0 j0 j0 (mv j0<|j4)),(fun h=>by cases h),(fun _=>pa j0 j0 j0 j0 (fa zb6 j0 j0 j0<|j4)),(fun _=>pa j0 j0 j0 j0 (nc j0 j0<|j4)),(fun _=>pa j0 j0 j0 j0 (mv j0<|j4)),(fun h=>by cases h),(fun _=>pa j0 j0 j0 j0 (fa zb6 j0 j0 j0<|j4)),(fun _=>pa j0 j0 j0 j0 (nc j0 j0<|j4)),(fun _=>pa j0 j0 j0 j0 (mv j0<|j4)),(fun _=>pa j0 j0 j0 j0 (ld zjm j0 j0<|j4)),(fun _=>pa j0 j0 j0 j0 (fa zb6 j0 j0 j0<|j4)),(fun _=>pa j0 j0 j0 j0 (nc j0 j0<|j4)),(fun _=>pa j0 j0 j0 j0 (mv j0<|j4)),j5⟩ (by kernel_rfl) j0 ⟨[.old 0,.old 1,.old 2,.old 3,.old 6,.old 4,.old 5],cv j0 (.mpt j0)<|cn,j0,⟨⟨_,j0,zn ⟨ci j0,.mmp j0,.mmp j0,.msl j0,j5⟩⟩,⟨_,j0,zg (fun _=>j0)⟩,⟨_,j0,zg (fun _=>j0)⟩,⟨_,j0,zg (fun _=>j0)⟩,⟨_,j0,zn ⟨ci j0,.mmp j0,.mmp j0,.msl j0,j5⟩⟩,⟨_,j0,zg (fun _=>j0)⟩,⟨_,j0,zg (fun _=>j0)⟩,j5⟩,j0,j1⟩⟩⟩),j5⟩⟩⟩),(fun _ h=>by cases h),j5⟩⟩⟩),(fun _ h=>by cases h),(fun _ h=>by cases h),j5⟩) ?_
 refine zp ?_
 obtain rfl:=h
 exact ⟨_,j0,[.old 0,.old 1,.old 2,.old 3,.old 4,.old 5,.old 6],.mpt j0,j0,⟨⟨_,j0,zn ⟨ci j0,.mmp j0,.mmp j0,.msl j0,j5⟩⟩,⟨_,j0,zg (fun _=>j0)⟩,⟨_,j0,zg (fun _=>j0)⟩,⟨_,j0,zg (fun _=>j0)⟩,⟨_,j0,zn ⟨ci j0,.mmp j0,.mmp j0,.msl j0,j5⟩⟩,⟨_,j0,zg (fun _=>j0)⟩,⟨_,j0,zg (fun _=>j0)⟩,j5⟩,j0,j1⟩
def zjt:Bool :=
  true
theorem zl5 {r:Bool} (h:zjt=r):zF Tryz.prog 95 [] (bA r):=by
 refine zr Tryz.func95 j0 (by kernel_rfl) j0 j0 ?_
 unfold zjt at h
 refine rg j0<|u<|asg j0<|zc ?_
 refine rg j0<|u<|pc (zl6 j0) j0 j0 j0<|u<|asg j0<|zc ?_
 refine zp ?_
 obtain rfl:=h
 exact ⟨_,j0,[],ci j0,j0,j5,j0,j1⟩
def zit:Bool :=
  true
theorem zk1 {r:Bool} (h:zit=r):zF Tryz.prog 96 [] (bA r):=by
 refine zr Tryz.func96 j0 (by kernel_rfl) j0 j0 ?_
 unfold zit at h
 refine rg j0<|u<|asg j0<|zc ?_
 refine rg j0<|u<|pc (zk2 j0) j0 j0 j0<|u<|asg j0<|zc ?_
 refine zp ?_
 obtain rfl:=h
 exact ⟨_,j0,[],ci j0,j0,j5,j0,j1⟩
def ze2 (c:List za) (d:List (List UInt8×Int)) (a:List (List UInt8×Int)) (e:List (List UInt8×ze)) (f:List (List UInt8)) (b:List UInt8):Int :=
  (Option.getD (zw b a) 0)
theorem zgs (c:List za) (d:List (List UInt8×Int)) (b:List (List UInt8×Int)) (e:List (List UInt8×ze)) (a:List (List UInt8)) (f:List UInt8) {r:Int} (h:ze2 c d b e a f=r):SC Tryz.prog 97 [.mpt 0 0 0,sA f] [.one 4 [.ipt 2 [[.isl 6 (List.map zb c),.imp (List.map (rKV (fun x=>iA x)) d)]] 0 0,.mmp 1,.mmp 2,.msl 3 0 (List.length a)],.many 2 (List.map (rKV (fun x=>iA x)) b),.many 2 (List.map (rKV (fun x=>.agg (zf x))) e),.many 1 (List.map zz a)] (iA r) [.one 4 [.ipt 2 [[.isl 6 (List.map zb c),.imp (List.map (rKV (fun x=>iA x)) d)]] 0 0,.mmp 1,.mmp 2,.msl 3 0 (List.length a)],.many 2 (List.map (rKV (fun x=>iA x)) b),.many 2 (List.map (rKV (fun x=>.agg (zf x))) e),.many 1 (List.map zz a)]:=by
 refine ⟨⟨j5,ze9 (sz:=2) (fun _=>j0),ze9 (sz:=2) (fun _=>j0),ze9 (sz:=1) (fun _=>j0),j5⟩,za2 Tryz.func97 j0 (by kernel_rfl) j0 ?_⟩
 unfold ze2 at h
 refine rg j0<|u<|asg j0<|zc ?_
 refine zl ?_
 refine rg j0<|u<|mv j0<|u<|eqp zr2 j0 j0 j0 j0 j0 j0<|zc ?_
 refine zk j0 (fun hx=>by cases hx) (fun _=>?_)
 refine zm ?_
 refine rg j0<|u<|mv j0<|u<|nc j0 j0<|u<|fa zb6 j0 j0 j0<|u<|ld zjg j0 j0<|u<|mv j0<|u<|zsq (g:=(fun x=>iA x)) (z:=0) (l:=b) j0 ti3 j0 j0 j0 j0<|u<|asg j0<|zc ?_
 refine zp ?_
 obtain rfl:=h
 exact ⟨_,j0,[.old 0,.old 1,.old 2,.old 3],ci j0,j0,⟨⟨_,j0,zn ⟨ci j0,.mmp j0,.mmp j0,.msl j0,j5⟩⟩,⟨_,j0,zg (fun _=>j0)⟩,⟨_,j0,zg (fun _=>j0)⟩,⟨_,j0,zg (fun _=>j0)⟩,j5⟩,j0,j1⟩
def zgQ:Option (Bool) :=
  (zhW ([(za.mk [70,97,99,101] [79,98,106,101,99,116] true [] [] ([(zi.mk [102] [] [73] false true 0 0 [] [] [])])),(za.mk [65,97] [79,98,106,101,99,116] false ([[70,97,99,101]]) ([(zt.mk [120] [73] false),(zt.mk [115] [73] true)]) ([(zi.mk [102] [] [73] false false 1 1 ([(z3.mk 1 5 [] []),(z3.mk 47 0 [] [])]) [] [])])),(za.mk [66,98] [65,97] false [] ([(zt.mk [121] [91,65,97] false)]) ([(zi.mk [109,97,105,110] [] [86] true false 0 0 ([(z3.mk 46 0 [] [])]) [] [])]))])).bind fun d=>cond (!(d.2 == (0:Int))) (some false) ((zgr d.1).bind fun a=>(zcP a.1 a.2.1 a.2.2.1 a.2.2.2.1 a.2.2.2.2 [66,98]).bind fun e=>(zcP a.1 a.2.1 (zd a.1 a.2.1 a.2.2.1 a.2.2.2.1 a.2.2.2.2 [65,97] 2) a.2.2.2.1 a.2.2.2.2 [66,98]).bind fun m=>(zcP a.1 a.2.1 (zd a.1 a.2.1 (zd a.1 a.2.1 a.2.2.1 a.2.2.2.1 a.2.2.2.2 [65,97] 2) a.2.2.2.1 a.2.2.2.2 [65,97] 3) a.2.2.2.1 a.2.2.2.2 [66,98]).bind fun f=>(zbD a.1 a.2.1 (zd a.1 a.2.1 (zd a.1 a.2.1 a.2.2.1 a.2.2.2.1 a.2.2.2.2 [65,97] 2) a.2.2.2.1 a.2.2.2.2 [65,97] 3) a.2.2.2.1 a.2.2.2.2 [65,97] [115]).bind fun i=>(zbD a.1 a.2.1 (zd a.1 a.2.1 (zd a.1 a.2.1 a.2.2.1 a.2.2.2.1 a.2.2.2.2 [65,97] 2) a.2.2.2.1 a.2.2.2.2 [65,97] 3) a.2.2.2.1 a.2.2.2.2 [66,98] [115]).bind fun n=>(zbE a.1 a.2.1 (zd a.1 a.2.1 (zd a.1 a.2.1 a.2.2.1 a.2.2.2.1 a.2.2.2.2 [65,97] 2) a.2.2.2.1 a.2.2.2.2 [65,97] 3) a.2.2.2.1 a.2.2.2.2 [65,97] [115] (ze.mk false 4)).bind fun j=>(zbE a.1 a.2.1 (zd a.1 a.2.1 (zd a.1 a.2.1 a.2.2.1 a.2.2.2.1 a.2.2.2.2 [65,97] 2) a.2.2.2.1 a.2.2.2.2 [65,97] 3) j.2 a.2.2.2.2 [65,97] [115] (ze.mk true 0)).bind fun b=>(zbE a.1 a.2.1 (zd a.1 a.2.1 (zd a.1 a.2.1 a.2.2.1 a.2.2.2.1 a.2.2.2.2 [65,97] 2) a.2.2.2.1 a.2.2.2.2 [65,97] 3) b.2 ((zj a.1 a.2.1 (zd a.1 a.2.1 (zd a.1 a.2.1 a.2.2.1 a.2.2.2.1 a.2.2.2.2 [65,97] 2) a.2.2.2.1 a.2.2.2.2 [65,97] 3) b.2 a.2.2.2.2).2.2.2.2) [65,97] [115] (ze.mk false 5)).bind fun c=>(zbD ((zj a.1 a.2.1 (zd a.1 a.2.1 (zd a.1 a.2.1 a.2.2.1 a.2.2.2.1 a.2.2.2.2 [65,97] 2) a.2.2.2.1 a.2.2.2.2 [65,97] 3) b.2 a.2.2.2.2).1) ((zj a.1 a.2.1 (zd a.1 a.2.1 (zd a.1 a.2.1 a.2.2.1 a.2.2.2.1 a.2.2.2.2 [65,97] 2) a.2.2.2.1 a.2.2.2.2 [65,97] 3) b.2 a.2.2.2.2).2.1) ((zj a.1 a.2.1 (zd a.1 a.2.1 (zd a.1 a.2.1 a.2.2.1 a.2.2.2.1 a.2.2.2.2 [65,97] 2) a.2.2.2.1 a.2.2.2.2 [65,97] 3) b.2 a.2.2.2.2).2.2.1) ((zj a.1 a.2.1 (zd a.1 a.2.1 (zd a.1 a.2.1 a.2.2.1 a.2.2.2.1 a.2.2.2.2 [65,97] 2) a.2.2.2.1 a.2.2.2.2 [65,97] 3) b.2 a.2.2.2.2).2.2.2.1) ((zj a.1 a.2.1 (zd a.1 a.2.1 (zd a.1 a.2.1 a.2.2.1 a.2.2.2.1 a.2.2.2.2 [65,97] 2) a.2.2.2.1 a.2.2.2.2 [65,97] 3) b.2 a.2.2.2.2).2.2.2.2) [65,97] [115]).bind fun l=>some (((((((((((((((zjt)&&(zit))&&(e.1 == [65,97]))&&(e.2 == (0:Int)))&&(m.1 == [66,98]))&&(f.1 == [65,97]))&&(f.2 == (3:Int)))&&i.2)&&(i.1.N == (0:Int)))&&(!n.2))&&j.1)&&(!b.1))&&(l.1.N == (4:Int)))&&((ze2 a.1 a.2.1 (zd a.1 a.2.1 (zd a.1 a.2.1 a.2.2.1 a.2.2.2.1 a.2.2.2.2 [65,97] 2) a.2.2.2.1 a.2.2.2.2 [65,97] 3) c.2 ((zj a.1 a.2.1 (zd a.1 a.2.1 (zd a.1 a.2.1 a.2.2.1 a.2.2.2.1 a.2.2.2.2 [65,97] 2) a.2.2.2.1 a.2.2.2.2 [65,97] 3) b.2 a.2.2.2.2).2.2.2.2) [79,98,106,101,99,116]) == (2:Int)))&&((ze2 a.1 a.2.1 (zd a.1 a.2.1 (zd a.1 a.2.1 a.2.2.1 a.2.2.2.1 a.2.2.2.2 [65,97] 2) a.2.2.2.1 a.2.2.2.2 [65,97] 3) c.2 ((zj a.1 a.2.1 (zd a.1 a.2.1 (zd a.1 a.2.1 a.2.2.1 a.2.2.2.1 a.2.2.2.2 [65,97] 2) a.2.2.2.1 a.2.2.2.2 [65,97] 3) b.2 a.2.2.2.2).2.2.2.2) [90,122]) == (0:Int))))
theorem zk4 {r:Bool} (h:zgQ=some r):zF Tryz.prog 20 [] (bA r):=by
 refine zr Tryz.func20 j0 (by kernel_rfl) j0 j0 ?_
 unfold zgQ at h
 refine rg j0<|u<|asg j0<|zc ?_
 obtain ⟨O,P,h⟩:=bs h
 refine rg j0<|u<|sc [] (zoa j0) j0 j0 j0 j0 j5 j5<|zcj (env0:=[(20,.isl 6 (List.map zb ([(za.mk [70,97,99,101] [79,98,106,101,99,116] true [] [] ([(zi.mk [102] [] [73] false true 0 0 [] [] [])])),(za.mk [65,97] [79,98,106,101,99,116] false ([[70,97,99,101]]) ([(zt.mk [120] [73] false),(zt.mk [115] [73] true)]) ([(zi.mk [102] [] [73] false false 1 1 ([(z3.mk 1 5 [] []),(z3.mk 47 0 [] [])]) [] [])])),(za.mk [66,98] [65,97] false [] ([(zt.mk [121] [91,65,97] false)]) ([(zi.mk [109,97,105,110] [] [86] true false 0 0 ([(z3.mk 46 0 [] [])]) [] [])]))])))]) (st0:=[]) ⟨[],cv j0 (zg5 j0 j0 ⟨⟨⟨ci j0,ci j0,ci j0,.nil,.nil,zg5 j0 j0 ⟨⟨⟨ci j0,.nil,ci j0,ci j0,ci j0,ci j0,ci j0,.nil,.nil,.nil,j5⟩,j0⟩,j5⟩,j5⟩,j0⟩,⟨⟨ci j0,ci j0,ci j0,zg5 j0 j0 ⟨⟨⟨ci j0,j5⟩,j0⟩,j5⟩,zg5 j0 j0 ⟨⟨⟨ci j0,ci j0,ci j0,j5⟩,j0⟩,⟨⟨ci j0,ci j0,ci j0,j5⟩,j0⟩,j5⟩,zg5 j0 j0 ⟨⟨⟨ci j0,.nil,ci j0,ci j0,ci j0,ci j0,ci j0,zg5 j0 j0 ⟨⟨⟨ci j0,ci j0,ci j0,ci j0,j5⟩,j0⟩,⟨⟨ci j0,ci j0,ci j0,ci j0,j5⟩,j0⟩,j5⟩,.nil,.nil,j5⟩,j0⟩,j5⟩,j5⟩,j0⟩,⟨⟨ci j0,ci j0,ci j0,.nil,zg5 j0 j0 ⟨⟨⟨ci j0,ci j0,ci j0,j5⟩,j0⟩,j5⟩,zg5 j0 j0 ⟨⟨⟨ci j0,.nil,ci j0,ci j0,ci j0,ci j0,ci j0,zg5 j0 j0 ⟨⟨⟨ci j0,ci j0,ci j0,ci j0,j5⟩,j0⟩,j5⟩,.nil,.nil,j5⟩,j0⟩,j5⟩,j5⟩,j0⟩,j5⟩)<|cn,j0,j5,j0,j1⟩<|u<|pc (zkw ([(za.mk [70,97,99,101] [79,98,106,101,99,116] true [] [] ([(zi.mk [102] [] [73] false true 0 0 [] [] [])])),(za.mk [65,97] [79,98,106,101,99,116] false ([[70,97,99,101]]) ([(zt.mk [120] [73] false),(zt.mk [115] [73] true)]) ([(zi.mk [102] [] [73] false false 1 1 ([(z3.mk 1 5 [] []),(z3.mk 47 0 [] [])]) [] [])])),(za.mk [66,98] [65,97] false [] ([(zt.mk [121] [91,65,97] false)]) ([(zi.mk [109,97,105,110] [] [86] true false 0 0 ([(z3.mk 46 0 [] [])]) [] [])]))]) P) j0 j0 j0<|u<|mv j0<|u<|ex j0 j0<|u<|ex j0 j0<|u<|asg j0<|u<|asg j0<|zc ?_
 refine zl ?_
 refine rg j0<|u<|mv j0<|u<|neq zwx j0 j0<|zc ?_
 refine zk j0 (fun G=>?_) (fun G=>?_)
 ·
  replace h:=bT G h
  refine rg j0<|u<|asg j0<|zc ?_
  refine zp ?_
  obtain rfl:=sm h
  exact ⟨_,j0,[],ci j0,j0,j5,j0,j1⟩
 ·
  replace h:=bF G h
  refine zm ?_
  obtain ⟨a,Q,h⟩:=bs h
  refine rg j0<|u<|mv j0<|u<|sc [] (zjR O.1 Q) j0 j0 j0 j0 ⟨(rnI (zuR (fun _=>j0))),j5⟩ j5<|zcj (env0:=[(27,.mpt 0 0 0)]) (st0:=[some (4,[[.ipt 2 [[.isl 6 (List.map zb a.1),.imp (List.map (rKV (fun x=>iA x)) a.2.1)]] 0 0,.mmp 1,.mmp 2,.msl 3 0 (List.length a.2.2.2.2)]]),some (2,List.map (rKV (fun x=>iA x)) a.2.2.1),some (2,List.map (rKV (fun x=>.agg (zf x))) a.2.2.2.1),some (1,List.map zz a.2.2.2.2)]) ⟨[.old 0,.old 1,.old 2,.old 3],cv j0 (.mpt j0)<|cn,j0,⟨⟨_,j0,zn ⟨ci j0,.mmp j0,.mmp j0,.msl j0,j5⟩⟩,⟨_,j0,zg (fun _=>j0)⟩,⟨_,j0,zg (fun _=>j0)⟩,⟨_,j0,zg (fun _=>j0)⟩,j5⟩,j0,j1⟩<|u<|asg j0<|zc ?_
  obtain ⟨c,R,h⟩:=bs h
  refine rg j0<|u<|mv j0<|u<|sc [0,1,2,3] (zed a.1 a.2.1 a.2.2.1 a.2.2.2.1 a.2.2.2.2 [66,98] R) j0 j0 j0 j0 ⟨(.mpt j0),(rnI j0),j5⟩ ⟨⟨_,j0,⟨(rnI j0),(.mmp j0),(.mmp j0),(.msl j0),j5⟩⟩,⟨j0,mkI (fun _=>j0)⟩,⟨j0,mkI (fun _=>j0)⟩,⟨j0,mkI (fun _=>j0)⟩,j5⟩<|zcj (env0:=[(3,.mpt 0 0 0),(30,.tup [sA c.1,iA c.2])]) (st0:=[some (4,[[.ipt 2 [[.isl 6 (List.map zb a.1),.imp (List.map (rKV (fun x=>iA x)) a.2.1)]] 0 0,.mmp 1,.mmp 2,.msl 3 0 (List.length a.2.2.2.2)]]),some (2,List.map (rKV (fun x=>iA x)) a.2.2.1),some (2,List.map (rKV (fun x=>.agg (zf x))) a.2.2.2.1),some (1,List.map zz a.2.2.2.2)]) ⟨[.old 0,.old 1,.old 2,.old 3],cv j0 (.mpt j0)<|ce j0 j0<|cn,j0,⟨⟨_,j0,zn ⟨ci j0,.mmp j0,.mmp j0,.msl j0,j5⟩⟩,⟨_,j0,zg (fun _=>j0)⟩,⟨_,j0,zg (fun _=>j0)⟩,⟨_,j0,zg (fun _=>j0)⟩,j5⟩,j0,j1⟩<|u<|mv j0<|u<|ex j0 j0<|u<|ex j0 j0<|u<|asg j0<|u<|asg j0<|zc ?_
  refine rg j0<|u<|mv j0<|u<|sc [0,1,2,3] (zde a.1 a.2.1 a.2.2.1 a.2.2.2.1 a.2.2.2.2 [65,97] 2 j0) j0 j0 j0 j0 ⟨(.mpt j0),(rnI j0),(rnI j0),j5⟩ ⟨⟨_,j0,⟨(rnI j0),(.mmp j0),(.mmp j0),(.msl j0),j5⟩⟩,⟨j0,mkI (fun _=>j0)⟩,⟨j0,mkI (fun _=>j0)⟩,⟨j0,mkI (fun _=>j0)⟩,j5⟩<|zcj (env0:=[(3,.mpt 0 0 0),(4,sA c.1),(5,iA c.2)]) (st0:=[some (4,[[.ipt 2 [[.isl 6 (List.map zb a.1),.imp (List.map (rKV (fun x=>iA x)) a.2.1)]] 0 0,.mmp 1,.mmp 2,.msl 3 0 (List.length a.2.2.2.2)]]),some (2,List.map (rKV (fun x=>iA x)) (zd a.1 a.2.1 a.2.2.1 a.2.2.2.1 a.2.2.2.2 [65,97] 2)),some (2,List.map (rKV (fun x=>.agg (zf x))) a.2.2.2.1),some (1,List.map zz a.2.2.2.2)]) ⟨[.old 0,.old 1,.old 2,.old 3],cv j0 (.mpt j0)<|ce j0 j0<|ce j0 j0<|cn,j0,⟨⟨_,j0,zn ⟨ci j0,.mmp j0,.mmp j0,.msl j0,j5⟩⟩,⟨_,j0,zg (fun _=>j0)⟩,⟨_,j0,zg (fun _=>j0)⟩,⟨_,j0,zg (fun _=>j0)⟩,j5⟩,j0,j1⟩<|zc ?_
  obtain ⟨f,S,h⟩:=bs h
  refine rg j0<|u<|mv j0<|u<|sc [0,1,2,3] (zed a.1 a.2.1 (zd a.1 a.2.1 a.2.2.1 a.2.2.2.1 a.2.2.2.2 [65,97] 2) a.2.2.2.1 a.2.2.2.2 [66,98] S) j0 j0 j0 j0 ⟨(.mpt j0),(rnI j0),j5⟩ ⟨⟨_,j0,⟨(rnI j0),(.mmp j0),(.mmp j0),(.msl j0),j5⟩⟩,⟨j0,mkI (fun _=>j0)⟩,⟨j0,mkI (fun _=>j0)⟩,⟨j0,mkI (fun _=>j0)⟩,j5⟩<|zcj (env0:=[(3,.mpt 0 0 0),(4,sA c.1),(5,iA c.2),(37,.tup [sA f.1,iA f.2])]) (st0:=[some (4,[[.ipt 2 [[.isl 6 (List.map zb a.1),.imp (List.map (rKV (fun x=>iA x)) a.2.1)]] 0 0,.mmp 1,.mmp 2,.msl 3 0 (List.length a.2.2.2.2)]]),some (2,List.map (rKV (fun x=>iA x)) (zd a.1 a.2.1 a.2.2.1 a.2.2.2.1 a.2.2.2.2 [65,97] 2)),some (2,List.map (rKV (fun x=>.agg (zf x))) a.2.2.2.1),some (1,List.map zz a.2.2.2.2)]) ⟨[.old 0,.old 1,.old 2,.old 3],cv j0 (.mpt j0)<|ce j0 j0<|ce j0 j0<|ce j0 j0<|cn,j0,⟨⟨_,j0,zn ⟨ci j0,.mmp j0,.mmp j0,.msl j0,j5⟩⟩,⟨_,j0,zg (fun _=>j0)⟩,⟨_,j0,zg (fun _=>j0)⟩,⟨_,j0,zg (fun _=>j0)⟩,j5⟩,j0,j1⟩<|u<|mv j0<|u<|ex j0 j0<|u<|ex j0 j0<|u<|asg j0<|u<|asg j0<|zc ?_
  refine rg j0<|u<|mv j0<|u<|sc [0,1,2,3] (zde a.1 a.2.1 (zd a.1 a.2.1 a.2.2.1 a.2.2.2.1 a.2.2.2.2 [65,97] 2) a.2.2.2.1 a.2.2.2.2 [65,97] 3 j0) j0 j0 j0 j0 ⟨(.mpt j0),(rnI j0),(rnI j0),j5⟩ ⟨⟨_,j0,⟨(rnI j0),(.mmp j0),(.mmp j0),(.msl j0),j5⟩⟩,⟨j0,mkI (fun _=>j0)⟩,⟨j0,mkI (fun _=>j0)⟩,⟨j0,mkI (fun _=>j0)⟩,j5⟩<|zcj (env0:=[(3,.mpt 0 0 0),(4,sA c.1),(5,iA c.2),(6,sA f.1)]) (st0:=[some (4,[[.ipt 2 [[.isl 6 (List.map zb a.1),.imp (List.map (rKV (fun x=>iA x)) a.2.1)]] 0 0,.mmp 1,.mmp 2,.msl 3 0 (List.length a.2.2.2.2)]]),some (2,List.map (rKV (fun x=>iA x)) (zd a.1 a.2.1 (zd a.1 a.2.1 a.2.2.1 a.2.2.2.1 a.2.2.2.2 [65,97] 2) a.2.2.2.1 a.2.2.2.2 [65,97] 3)),some (2,List.map (rKV (fun x=>.agg (zf x))) a.2.2.2.1),some (1,List.map zz a.2.2.2.2)]) ⟨[.old 0,.old 1,.old 2,.old 3],cv j0 (.mpt j0)<|ce j0 j0<|ce j0 j0<|ce j0 j0<|cn,j0,⟨⟨_,j0,zn ⟨ci j0,.mmp j0,.mmp j0,.msl j0,j5⟩⟩,⟨_,j0,zg (fun _=>j0)⟩,⟨_,j0,zg (fun _=>j0)⟩,⟨_,j0,zg (fun _=>j0)⟩,j5⟩,j0,j1⟩<|zc ?_
  obtain ⟨d,T,h⟩:=bs h
  refine rg j0<|u<|mv j0<|u<|sc [0,1,2,3] (zed a.1 a.2.1 (zd a.1 a.2.1 (zd a.1 a.2.1 a.2.2.1 a.2.2.2.1 a.2.2.2.2 [65,97] 2) a.2.2.2.1 a.2.2.2.2 [65,97] 3) a.2.2.2.1 a.2.2.2.2 [66,98] T) j0 j0 j0 j0 ⟨(.mpt j0),(rnI j0),j5⟩ ⟨⟨_,j0,⟨(rnI j0),(.mmp j0),(.mmp j0),(.msl j0),j5⟩⟩,⟨j0,mkI (fun _=>j0)⟩,⟨j0,mkI (fun _=>j0)⟩,⟨j0,mkI (fun _=>j0)⟩,j5⟩<|zcj (env0:=[(3,.mpt 0 0 0),(4,sA c.1),(5,iA c.2),(6,sA f.1),(44,.tup [sA d.1,iA d.2])]) (st0:=[some (4,[[.ipt 2 [[.isl 6 (List.map zb a.1),.imp (List.map (rKV (fun x=>iA x)) a.2.1)]] 0 0,.mmp 1,.mmp 2,.msl 3 0 (List.length a.2.2.2.2)]]),some (2,List.map (rKV (fun x=>iA x)) (zd a.1 a.2.1 (zd a.1 a.2.1 a.2.2.1 a.2.2.2.1 a.2.2.2.2 [65,97] 2) a.2.2.2.1 a.2.2.2.2 [65,97] 3)),some (2,List.map (rKV (fun x=>.agg (zf x))) a.2.2.2.1),some (1,List.map zz a.2.2.2.2)]) ⟨[.old 0,.old 1,.old 2,.old 3],cv j0 (.mpt j0)<|ce j0 j0<|ce j0 j0<|ce j0 j0<|ce j0 j0<|cn,j0,⟨⟨_,j0,zn ⟨ci j0,.mmp j0,.mmp j0,.msl j0,j5⟩⟩,⟨_,j0,zg (fun _=>j0)⟩,⟨_,j0,zg (fun _=>j0)⟩,⟨_,j0,zg (fun _=>j0)⟩,j5⟩,j0,j1⟩<|u<|mv j0<|u<|ex j0 j0<|u<|ex j0 j0<|u<|asg j0<|u<|asg j0<|zc ?_
  obtain ⟨e,U,h⟩:=bs h
  refine rg j0<|u<|mv j0<|u<|sc [0,1,2,3] (zdc a.1 a.2.1 (zd a.1 a.2.1 (zd a.1 a.2.1 a.2.2.1 a.2.2.2.1 a.2.2.2.2 [65,97] 2) a.2.2.2.1 a.2.2.2.2 [65,97] 3) a.2.2.2.1 a.2.2.2.2 [65,97] [115] U) j0 j0 j0 j0 ⟨(.mpt j0),(rnI j0),(rnI j0),j5⟩ ⟨⟨_,j0,⟨(rnI j0),(.mmp j0),(.mmp j0),(.msl j0),j5⟩⟩,⟨j0,mkI (fun _=>j0)⟩,⟨j0,mkI (fun _=>j0)⟩,⟨j0,mkI (fun _=>j0)⟩,j5⟩<|zcj (env0:=[(3,.mpt 0 0 0),(4,sA c.1),(5,iA c.2),(6,sA f.1),(8,sA d.1),(9,iA d.2),(49,.tup [.agg (zf e.1),bA e.2])]) (st0:=[some (4,[[.ipt 2 [[.isl 6 (List.map zb a.1),.imp (List.map (rKV (fun x=>iA x)) a.2.1)]] 0 0,.mmp 1,.mmp 2,.msl 3 0 (List.length a.2.2.2.2)]]),some (2,List.map (rKV (fun x=>iA x)) (zd a.1 a.2.1 (zd a.1 a.2.1 a.2.2.1 a.2.2.2.1 a.2.2.2.2 [65,97] 2) a.2.2.2.1 a.2.2.2.2 [65,97] 3)),some (2,List.map (rKV (fun x=>.agg (zf x))) a.2.2.2.1),some (1,List.map zz a.2.2.2.2)]) ⟨[.old 0,.old 1,.old 2,.old 3],cv j0 (.mpt j0)<|ce j0 j0<|ce j0 j0<|ce j0 j0<|ce j0 j0<|ce j0 j0<|ce j0 j0<|cn,j0,⟨⟨_,j0,zn ⟨ci j0,.mmp j0,.mmp j0,.msl j0,j5⟩⟩,⟨_,j0,zg (fun _=>j0)⟩,⟨_,j0,zg (fun _=>j0)⟩,⟨_,j0,zg (fun _=>j0)⟩,j5⟩,j0,j1⟩<|u<|mv j0<|u<|ex j0 j0<|u<|ex j0 j0<|u<|al 4 zdO j0<|u<|sto zdO j0 j0 j0<|u<|asg j0<|zc ?_
  obtain ⟨o,V,h⟩:=bs h
  refine rg j0<|u<|mv j0<|u<|sc [0,1,2,3] (zdc a.1 a.2.1 (zd a.1 a.2.1 (zd a.1 a.2.1 a.2.2.1 a.2.2.2.1 a.2.2.2.2 [65,97] 2) a.2.2.2.1 a.2.2.2.2 [65,97] 3) a.2.2.2.1 a.2.2.2.2 [66,98] [115] V) j0 j0 j0 j0 ⟨(.mpt j0),(rnI j0),(rnI j0),j5⟩ ⟨⟨_,j0,⟨(rnI j0),(.mmp j0),(.mmp j0),(.msl j0),j5⟩⟩,⟨j0,mkI (fun _=>j0)⟩,⟨j0,mkI (fun _=>j0)⟩,⟨j0,mkI (fun _=>j0)⟩,j5⟩<|zcj (env0:=[(3,.mpt 0 0 0),(4,sA c.1),(5,iA c.2),(6,sA f.1),(8,sA d.1),(9,iA d.2),(10,.mpt 4 0 0),(11,bA e.2),(54,.tup [.agg (zf o.1),bA o.2])]) (st0:=[some (4,[[.ipt 2 [[.isl 6 (List.map zb a.1),.imp (List.map (rKV (fun x=>iA x)) a.2.1)]] 0 0,.mmp 1,.mmp 2,.msl 3 0 (List.length a.2.2.2.2)]]),some (2,List.map (rKV (fun x=>iA x)) (zd a.1 a.2.1 (zd a.1 a.2.1 a.2.2.1 a.2.2.2.1 a.2.2.2.2 [65,97] 2) a.2.2.2.1 a.2.2.2.2 [65,97] 3)),some (2,List.map (rKV (fun x=>.agg (zf x))) a.2.2.2.1),some (1,List.map zz a.2.2.2.2),some (2,[(zf e.1)])]) ⟨[.old 0,.old 1,.old 2,.old 3,.old 4],cv j0 (.mpt j0)<|ce j0 j0<|ce j0 j0<|ce j0 j0<|ce j0 j0<|ce j0 j0<|cv j0 (.mpt j0)<|ce j0 j0<|ce j0 j0<|cn,j0,⟨⟨_,j0,zn ⟨ci j0,.mmp j0,.mmp j0,.msl j0,j5⟩⟩,⟨_,j0,zg (fun _=>j0)⟩,⟨_,j0,zg (fun _=>j0)⟩,⟨_,j0,zg (fun _=>j0)⟩,⟨_,j0,zn (ciL j0)⟩,j5⟩,j0,j1⟩<|u<|mv j0<|u<|ex j0 j0<|u<|ex j0 j0<|u<|al 5 zdO j0<|u<|sto zdO j0 j0 j0<|u<|asg j0<|zc ?_
  obtain ⟨p,W,h⟩:=bs h
  obtain ⟨b,L,h⟩:=bs h
  refine rg j0<|u<|mv j0<|u<|bd zdO j0 j0 j0<|u<|sc [0,1,2,3] (zdd a.1 a.2.1 (zd a.1 a.2.1 (zd a.1 a.2.1 a.2.2.1 a.2.2.2.1 a.2.2.2.2 [65,97] 2) a.2.2.2.1 a.2.2.2.2 [65,97] 3) a.2.2.2.1 a.2.2.2.2 [65,97] [115] (ze.mk false 4) W) j0 j0 j0 j0 ⟨(.mpt j0),(rnI j0),(rnI j0),(rnI j0),j5⟩ ⟨⟨_,j0,⟨(rnI j0),(.mmp j0),(.mmp j0),(.msl j0),j5⟩⟩,⟨j0,mkI (fun _=>j0)⟩,⟨j0,mkI (fun _=>j0)⟩,⟨j0,mkI (fun _=>j0)⟩,j5⟩<|zcj (env0:=[(3,.mpt 0 0 0),(4,sA c.1),(5,iA c.2),(6,sA f.1),(8,sA d.1),(9,iA d.2),(10,.mpt 4 0 0),(11,bA e.2),(13,bA o.2),(59,bA p.1)]) (st0:=[some (4,[[.ipt 2 [[.isl 6 (List.map zb a.1),.imp (List.map (rKV (fun x=>iA x)) a.2.1)]] 0 0,.mmp 1,.mmp 2,.msl 3 0 (List.length a.2.2.2.2)]]),some (2,List.map (rKV (fun x=>iA x)) (zd a.1 a.2.1 (zd a.1 a.2.1 a.2.2.1 a.2.2.2.1 a.2.2.2.2 [65,97] 2) a.2.2.2.1 a.2.2.2.2 [65,97] 3)),some (2,List.map (rKV (fun x=>.agg (zf x))) p.2),some (1,List.map zz a.2.2.2.2),some (2,[(zf e.1)])]) ⟨[.old 0,.old 1,.old 2,.old 3,.old 4],cv j0 (.mpt j0)<|ce j0 j0<|ce j0 j0<|ce j0 j0<|ce j0 j0<|ce j0 j0<|cv j0 (.mpt j0)<|ce j0 j0<|ce j0 j0<|ce j0 j0<|cn,j0,⟨⟨_,j0,zn ⟨ci j0,.mmp j0,.mmp j0,.msl j0,j5⟩⟩,⟨_,j0,zg (fun _=>j0)⟩,⟨_,j0,zg (fun _=>j0)⟩,⟨_,j0,zg (fun _=>j0)⟩,⟨_,j0,zn (ciL j0)⟩,j5⟩,j0,j1⟩<|u<|mv j0<|u<|bd zdO j0 j0 j0<|u<|sc [0,1,2,3] (zdd a.1 a.2.1 (zd a.1 a.2.1 (zd a.1 a.2.1 a.2.2.1 a.2.2.2.1 a.2.2.2.2 [65,97] 2) a.2.2.2.1 a.2.2.2.2 [65,97] 3) p.2 a.2.2.2.2 [65,97] [115] (ze.mk true 0) L) j0 j0 j0 j0 ⟨(.mpt j0),(rnI j0),(rnI j0),(rnI j0),j5⟩ ⟨⟨_,j0,⟨(rnI j0),(.mmp j0),(.mmp j0),(.msl j0),j5⟩⟩,⟨j0,mkI (fun _=>j0)⟩,⟨j0,mkI (fun _=>j0)⟩,⟨j0,mkI (fun _=>j0)⟩,j5⟩<|zcj (env0:=[(3,.mpt 0 0 0),(4,sA c.1),(5,iA c.2),(6,sA f.1),(8,sA d.1),(9,iA d.2),(10,.mpt 4 0 0),(11,bA e.2),(13,bA o.2),(59,bA p.1),(62,bA b.1)]) (st0:=[some (4,[[.ipt 2 [[.isl 6 (List.map zb a.1),.imp (List.map (rKV (fun x=>iA x)) a.2.1)]] 0 0,.mmp 1,.mmp 2,.msl 3 0 (List.length a.2.2.2.2)]]),some (2,List.map (rKV (fun x=>iA x)) (zd a.1 a.2.1 (zd a.1 a.2.1 a.2.2.1 a.2.2.2.1 a.2.2.2.2 [65,97] 2) a.2.2.2.1 a.2.2.2.2 [65,97] 3)),some (2,List.map (rKV (fun x=>.agg (zf x))) b.2),some (1,List.map zz a.2.2.2.2),some (2,[(zf e.1)])]) ⟨[.old 0,.old 1,.old 2,.old 3,.old 4],cv j0 (.mpt j0)<|ce j0 j0<|ce j0 j0<|ce j0 j0<|ce j0 j0<|ce j0 j0<|cv j0 (.mpt j0)<|ce j0 j0<|ce j0 j0<|ce j0 j0<|ce j0 j0<|cn,j0,⟨⟨_,j0,zn ⟨ci j0,.mmp j0,.mmp j0,.msl j0,j5⟩⟩,⟨_,j0,zg (fun _=>j0)⟩,⟨_,j0,zg (fun _=>j0)⟩,⟨_,j0,zg (fun _=>j0)⟩,⟨_,j0,zn (ciL j0)⟩,j5⟩,j0,j1⟩<|u<|asg j0<|u<|asg j0<|zc ?_
  refine rg j0<|u<|mv j0<|u<|sc [0,1,2,3] (zfO a.1 a.2.1 (zd a.1 a.2.1 (zd a.1 a.2.1 a.2.2.1 a.2.2.2.1 a.2.2.2.2 [65,97] 2) a.2.2.2.1 a.2.2.2.2 [65,97] 3) b.2 a.2.2.2.2 j0) j0 j0 j0 j0 ⟨(.mpt j0),j5⟩ ⟨⟨_,j0,⟨(rnI j0),(.mmp j0),(.mmp j0),(.msl j0),j5⟩⟩,⟨j0,mkI (fun _=>j0)⟩,⟨j0,mkI (fun _=>j0)⟩,⟨j0,mkI (fun _=>j0)⟩,j5⟩<|zcj (env0:=[(3,.mpt 0 0 0),(4,sA c.1),(5,iA c.2),(6,sA f.1),(8,sA d.1),(9,iA d.2),(10,.mpt 4 0 0),(11,bA e.2),(13,bA o.2),(14,bA p.1),(15,bA b.1),(64,.mpt 5 0 0)]) (st0:=[some (4,[[.ipt 2 [[.isl 6 (List.map zb a.1),.imp (List.map (rKV (fun x=>iA x)) a.2.1)]] 0 0,.mmp 1,.mmp 2,.msl 3 0 (List.length ((zj a.1 a.2.1 (zd a.1 a.2.1 (zd a.1 a.2.1 a.2.2.1 a.2.2.2.1 a.2.2.2.2 [65,97] 2) a.2.2.2.1 a.2.2.2.2 [65,97] 3) b.2 a.2.2.2.2).2.2.2.2))]]),some (2,List.map (rKV (fun x=>iA x)) (zd a.1 a.2.1 (zd a.1 a.2.1 a.2.2.1 a.2.2.2.1 a.2.2.2.2 [65,97] 2) a.2.2.2.1 a.2.2.2.2 [65,97] 3)),some (2,List.map (rKV (fun x=>.agg (zf x))) b.2),some (1,List.map zz ((zj a.1 a.2.1 (zd a.1 a.2.1 (zd a.1 a.2.1 a.2.2.1 a.2.2.2.1 a.2.2.2.2 [65,97] 2) a.2.2.2.1 a.2.2.2.2 [65,97] 3) b.2 a.2.2.2.2).2.2.2.2)),some (2,[(zf e.1)]),some (4,[[.ipt 2 [[.isl 6 (List.map zb ((zj a.1 a.2.1 (zd a.1 a.2.1 (zd a.1 a.2.1 a.2.2.1 a.2.2.2.1 a.2.2.2.2 [65,97] 2) a.2.2.2.1 a.2.2.2.2 [65,97] 3) b.2 a.2.2.2.2).1)),.imp (List.map (rKV (fun x=>iA x)) ((zj a.1 a.2.1 (zd a.1 a.2.1 (zd a.1 a.2.1 a.2.2.1 a.2.2.2.1 a.2.2.2.2 [65,97] 2) a.2.2.2.1 a.2.2.2.2 [65,97] 3) b.2 a.2.2.2.2).2.1))]] 0 0,.mmp 6,.mmp 7,.msl 3 0 (List.length ((zj a.1 a.2.1 (zd a.1 a.2.1 (zd a.1 a.2.1 a.2.2.1 a.2.2.2.1 a.2.2.2.2 [65,97] 2) a.2.2.2.1 a.2.2.2.2 [65,97] 3) b.2 a.2.2.2.2).2.2.2.2))]]),some (2,List.map (rKV (fun x=>iA x)) ((zj a.1 a.2.1 (zd a.1 a.2.1 (zd a.1 a.2.1 a.2.2.1 a.2.2.2.1 a.2.2.2.2 [65,97] 2) a.2.2.2.1 a.2.2.2.2 [65,97] 3) b.2 a.2.2.2.2).2.2.1)),some (2,List.map (rKV (fun x=>.agg (zf x))) ((zj a.1 a.2.1 (zd a.1 a.2.1 (zd a.1 a.2.1 a.2.2.1 a.2.2.2.1 a.2.2.2.2 [65,97] 2) a.2.2.2.1 a.2.2.2.2 [65,97] 3) b.2 a.2.2.2.2).2.2.2.1))]) ⟨[.old 0,.old 1,.old 2,.old 3,.old 4,.old 5,.old 6,.old 7],cv j0 (.mpt j0)<|ce j0 j0<|ce j0 j0<|ce j0 j0<|ce j0 j0<|ce j0 j0<|cv j0 (.mpt j0)<|ce j0 j0<|ce j0 j0<|ce j0 j0<|ce j0 j0<|cv j0 (.mpt j0)<|cn,j0,⟨⟨_,j0,zn ⟨ci j0,.mmp j0,.mmp j0,zqd (by simp) j0,j5⟩⟩,⟨_,j0,zg (fun _=>j0)⟩,⟨_,j0,zg (fun _=>j0)⟩,⟨_,j0,zg (fun _=>j0)⟩,⟨_,j0,zn (ciL j0)⟩,⟨_,j0,zn ⟨ci j0,.mmp j0,.mmp j0,zqd (by simp) j0,j5⟩⟩,⟨_,j0,zg (fun _=>j0)⟩,⟨_,j0,zg (fun _=>j0)⟩,j5⟩,j0,j1⟩<|u<|asg j0<|zc ?_
  obtain ⟨F,M,h⟩:=bs h
  refine rg j0<|u<|mv j0<|u<|bd zdO j0 j0 j0<|u<|sc [0,1,2,3] (zdd a.1 a.2.1 (zd a.1 a.2.1 (zd a.1 a.2.1 a.2.2.1 a.2.2.2.1 a.2.2.2.2 [65,97] 2) a.2.2.2.1 a.2.2.2.2 [65,97] 3) b.2 ((zj a.1 a.2.1 (zd a.1 a.2.1 (zd a.1 a.2.1 a.2.2.1 a.2.2.2.1 a.2.2.2.2 [65,97] 2) a.2.2.2.1 a.2.2.2.2 [65,97] 3) b.2 a.2.2.2.2).2.2.2.2) [65,97] [115] (ze.mk false 5) M) j0 j0 j0 j0 ⟨(.mpt j0),(rnI j0),(rnI j0),(rnI j0),j5⟩ ⟨⟨_,j0,⟨(rnI j0),(.mmp j0),(.mmp j0),(.msl j0),j5⟩⟩,⟨j0,mkI (fun _=>j0)⟩,⟨j0,mkI (fun _=>j0)⟩,⟨j0,mkI (fun _=>j0)⟩,j5⟩<|zcj (env0:=[(3,.mpt 0 0 0),(4,sA c.1),(5,iA c.2),(6,sA f.1),(8,sA d.1),(9,iA d.2),(10,.mpt 4 0 0),(11,bA e.2),(13,bA o.2),(14,bA p.1),(15,bA b.1),(16,.mpt 5 0 0)]) (st0:=[some (4,[[.ipt 2 [[.isl 6 (List.map zb a.1),.imp (List.map (rKV (fun x=>iA x)) a.2.1)]] 0 0,.mmp 1,.mmp 2,.msl 3 0 (List.length ((zj a.1 a.2.1 (zd a.1 a.2.1 (zd a.1 a.2.1 a.2.2.1 a.2.2.2.1 a.2.2.2.2 [65,97] 2) a.2.2.2.1 a.2.2.2.2 [65,97] 3) b.2 a.2.2.2.2).2.2.2.2))]]),some (2,List.map (rKV (fun x=>iA x)) (zd a.1 a.2.1 (zd a.1 a.2.1 a.2.2.1 a.2.2.2.1 a.2.2.2.2 [65,97] 2) a.2.2.2.1 a.2.2.2.2 [65,97] 3)),some (2,List.map (rKV (fun x=>.agg (zf x))) F.2),some (1,List.map zz ((zj a.1 a.2.1 (zd a.1 a.2.1 (zd a.1 a.2.1 a.2.2.1 a.2.2.2.1 a.2.2.2.2 [65,97] 2) a.2.2.2.1 a.2.2.2.2 [65,97] 3) b.2 a.2.2.2.2).2.2.2.2)),some (2,[(zf e.1)]),some (4,[[.ipt 2 [[.isl 6 (List.map zb ((zj a.1 a.2.1 (zd a.1 a.2.1 (zd a.1 a.2.1 a.2.2.1 a.2.2.2.1 a.2.2.2.2 [65,97] 2) a.2.2.2.1 a.2.2.2.2 [65,97] 3) b.2 a.2.2.2.2).1)),.imp (List.map (rKV (fun x=>iA x)) ((zj a.1 a.2.1 (zd a.1 a.2.1 (zd a.1 a.2.1 a.2.2.1 a.2.2.2.1 a.2.2.2.2 [65,97] 2) a.2.2.2.1 a.2.2.2.2 [65,97] 3) b.2 a.2.2.2.2).2.1))]] 0 0,.mmp 6,.mmp 7,.msl 3 0 (List.length ((zj a.1 a.2.1 (zd a.1 a.2.1 (zd a.1 a.2.1 a.2.2.1 a.2.2.2.1 a.2.2.2.2 [65,97] 2) a.2.2.2.1 a.2.2.2.2 [65,97] 3) b.2 a.2.2.2.2).2.2.2.2))]]),some (2,List.map (rKV (fun x=>iA x)) ((zj a.1 a.2.1 (zd a.1 a.2.1 (zd a.1 a.2.1 a.2.2.1 a.2.2.2.1 a.2.2.2.2 [65,97] 2) a.2.2.2.1 a.2.2.2.2 [65,97] 3) b.2 a.2.2.2.2).2.2.1)),some (2,List.map (rKV (fun x=>.agg (zf x))) ((zj a.1 a.2.1 (zd a.1 a.2.1 (zd a.1 a.2.1 a.2.2.1 a.2.2.2.1 a.2.2.2.2 [65,97] 2) a.2.2.2.1 a.2.2.2.2 [65,97] 3) b.2 a.2.2.2.2).2.2.2.1))]) ⟨[.old 0,.old 1,.old 2,.old 3,.old 4,.old 5,.old 6,.old 7],cv j0 (.mpt j0)<|ce j0 j0<|ce j0 j0<|ce j0 j0<|ce j0 j0<|ce j0 j0<|cv j0 (.mpt j0)<|ce j0 j0<|ce j0 j0<|ce j0 j0<|ce j0 j0<|cv j0 (.mpt j0)<|cn,j0,⟨⟨_,j0,zn ⟨ci j0,.mmp j0,.mmp j0,.msl j0,j5⟩⟩,⟨_,j0,zg (fun _=>j0)⟩,⟨_,j0,zg (fun _=>j0)⟩,⟨_,j0,zg (fun _=>j0)⟩,⟨_,j0,zn (ciL j0)⟩,⟨_,j0,zn ⟨ci j0,.mmp j0,.mmp j0,.msl j0,j5⟩⟩,⟨_,j0,zg (fun _=>j0)⟩,⟨_,j0,zg (fun _=>j0)⟩,j5⟩,j0,j1⟩<|zc ?_
  obtain ⟨K,N,h⟩:=bs h
  refine rg j0<|u<|mv j0<|u<|sc [5,6,7,3] (zdc ((zj a.1 a.2.1 (zd a.1 a.2.1 (zd a.1 a.2.1 a.2.2.1 a.2.2.2.1 a.2.2.2.2 [65,97] 2) a.2.2.2.1 a.2.2.2.2 [65,97] 3) b.2 a.2.2.2.2).1) ((zj a.1 a.2.1 (zd a.1 a.2.1 (zd a.1 a.2.1 a.2.2.1 a.2.2.2.1 a.2.2.2.2 [65,97] 2) a.2.2.2.1 a.2.2.2.2 [65,97] 3) b.2 a.2.2.2.2).2.1) ((zj a.1 a.2.1 (zd a.1 a.2.1 (zd a.1 a.2.1 a.2.2.1 a.2.2.2.1 a.2.2.2.2 [65,97] 2) a.2.2.2.1 a.2.2.2.2 [65,97] 3) b.2 a.2.2.2.2).2.2.1) ((zj a.1 a.2.1 (zd a.1 a.2.1 (zd a.1 a.2.1 a.2.2.1 a.2.2.2.1 a.2.2.2.2 [65,97] 2) a.2.2.2.1 a.2.2.2.2 [65,97] 3) b.2 a.2.2.2.2).2.2.2.1) ((zj a.1 a.2.1 (zd a.1 a.2.1 (zd a.1 a.2.1 a.2.2.1 a.2.2.2.1 a.2.2.2.2 [65,97] 2) a.2.2.2.1 a.2.2.2.2 [65,97] 3) b.2 a.2.2.2.2).2.2.2.2) [65,97] [115] N) j0 j0 j0 j0 ⟨(.mpt j0),(rnI j0),(rnI j0),j5⟩ ⟨⟨_,j0,⟨(rnI j0),(.mmp j0),(.mmp j0),(.msl j0),j5⟩⟩,⟨j0,mkI (fun _=>j0)⟩,⟨j0,mkI (fun _=>j0)⟩,⟨j0,mkI (fun _=>j0)⟩,j5⟩<|zcj (env0:=[(3,.mpt 0 0 0),(4,sA c.1),(5,iA c.2),(6,sA f.1),(8,sA d.1),(9,iA d.2),(10,.mpt 4 0 0),(11,bA e.2),(13,bA o.2),(14,bA p.1),(15,bA b.1),(70,.tup [.agg (zf K.1),bA K.2])]) (st0:=[some (4,[[.ipt 2 [[.isl 6 (List.map zb a.1),.imp (List.map (rKV (fun x=>iA x)) a.2.1)]] 0 0,.mmp 1,.mmp 2,.msl 3 0 (List.length ((zj a.1 a.2.1 (zd a.1 a.2.1 (zd a.1 a.2.1 a.2.2.1 a.2.2.2.1 a.2.2.2.2 [65,97] 2) a.2.2.2.1 a.2.2.2.2 [65,97] 3) b.2 a.2.2.2.2).2.2.2.2))]]),some (2,List.map (rKV (fun x=>iA x)) (zd a.1 a.2.1 (zd a.1 a.2.1 a.2.2.1 a.2.2.2.1 a.2.2.2.2 [65,97] 2) a.2.2.2.1 a.2.2.2.2 [65,97] 3)),some (2,List.map (rKV (fun x=>.agg (zf x))) F.2),some (1,List.map zz ((zj a.1 a.2.1 (zd a.1 a.2.1 (zd a.1 a.2.1 a.2.2.1 a.2.2.2.1 a.2.2.2.2 [65,97] 2) a.2.2.2.1 a.2.2.2.2 [65,97] 3) b.2 a.2.2.2.2).2.2.2.2)),some (2,[(zf e.1)])]) ⟨[.old 0,.old 1,.old 2,.old 3,.old 4],cv j0 (.mpt j0)<|ce j0 j0<|ce j0 j0<|ce j0 j0<|ce j0 j0<|ce j0 j0<|cv j0 (.mpt j0)<|ce j0 j0<|ce j0 j0<|ce j0 j0<|ce j0 j0<|ce j0 j0<|cn,j0,⟨⟨_,j0,zn ⟨ci j0,.mmp j0,.mmp j0,.msl j0,j5⟩⟩,⟨_,j0,zg (fun _=>j0)⟩,⟨_,j0,zg (fun _=>j0)⟩,⟨_,j0,zg (fun _=>j0)⟩,⟨_,j0,zn (ciL j0)⟩,j5⟩,j0,j1⟩<|u<|mv j0<|u<|ex j0 j0<|u<|ex j0 j0<|u<|al 5 zdO j0<|u<|sto zdO j0 j0 j0<|u<|asg j0<|zc ?_
  refine rg j0<|u<|pc (zl5 j0) j0 j0 j0<|u<|mv j0<|z2 (j:=1) 1 j0 j0 j0 j0 j0 gpn (fun H=>g j0 H<|pc (zk1 j0) j0 j0 j0<|zc (egA [75] 1 H j0 j0 j0 j0)) zdb<|u<|mv j0<|z2 (j:=4) 2 j0 j0 j0 j0 j0 gpn (fun q=>g j0 q<|mv j0<|g j0 q<|seq ti9 j0 j0<|zc (egA [78,79] 2 q j0 j0 j0 j0)) zdb<|u<|mv j0<|z2 (j:=8) 2 j0 j0 j0 j0 j0 gpn (fun s=>g j0 s<|mv j0<|g j0 s<|eql ti3 j0 j0<|zc (egA [82,83] 2 s j0 j0 j0 j0)) zdb<|u<|mv j0<|z2 (j:=12) 2 j0 j0 j0 j0 j0 gpn (fun v=>g j0 v<|mv j0<|g j0 v<|seq ti9 j0 j0<|zc (egA [86,87] 2 v j0 j0 j0 j0)) zdb<|u<|mv j0<|z2 (j:=16) 2 j0 j0 j0 j0 j0 gpn (fun B=>g j0 B<|mv j0<|g j0 B<|seq ti9 j0 j0<|zc (egA [90,91] 2 B j0 j0 j0 j0)) zdb<|u<|mv j0<|z2 (j:=20) 2 j0 j0 j0 j0 j0 gpn (fun C=>g j0 C<|mv j0<|g j0 C<|eql ti3 j0 j0<|zc (egA [94,95] 2 C j0 j0 j0 j0)) zdb<|u<|mv j0<|z2 (j:=24) 1 j0 j0 j0 j0 j0 gpn (fun I=>g j0 I<|mv j0<|zc (egA [98] 1 I j0 j0 j0 j0)) zdb<|u<|mv j0<|z2 (j:=27) 3 j0 j0 j0 j0 j0 gpn (fun i=>g j0 i<|fa zdO j0 j0 j0<|g j0 i<|ld znI j0 j0<|g j0 i<|eql znI j0 j0<|zc (egA [101,102,103] 3 i j0 j0 j0 j0)) zdb<|u<|mv j0<|z2 (j:=32) 2 j0 j0 j0 j0 j0 gpn (fun D=>g j0 D<|mv j0<|g j0 D<|nt j0<|zc (egA [106,107] 2 D j0 j0 j0 j0)) zdb<|u<|mv j0<|z2 (j:=36) 1 j0 j0 j0 j0 j0 gpn (fun J=>g j0 J<|mv j0<|zc (egA [110] 1 J j0 j0 j0 j0)) zdb<|u<|mv j0<|z2 (j:=39) 2 j0 j0 j0 j0 j0 gpn (fun E=>g j0 E<|mv j0<|g j0 E<|nt j0<|zc (egA [113,114] 2 E j0 j0 j0 j0)) zdb<|u<|mv j0<|z2 (j:=43) 3 j0 j0 j0 j0 j0 gpn (fun l=>g j0 l<|fa zdO j0 j0 j0<|g j0 l<|ld znI j0 j0<|g j0 l<|eql znI j0 j0<|zc (egA [117,118,119] 3 l j0 j0 j0 j0)) zdb<|u<|mv j0<|z2 (j:=48) 3 j0 j0 j0 j0 j0 gpn (fun m=>g j0 m<|mv j0<|g j0 m<|sc [0,1,2,3] (zgs a.1 a.2.1 (zd a.1 a.2.1 (zd a.1 a.2.1 a.2.2.1 a.2.2.2.1 a.2.2.2.2 [65,97] 2) a.2.2.2.1 a.2.2.2.2 [65,97] 3) F.2 ((zj a.1 a.2.1 (zd a.1 a.2.1 (zd a.1 a.2.1 a.2.2.1 a.2.2.2.1 a.2.2.2.2 [65,97] 2) a.2.2.2.1 a.2.2.2.2 [65,97] 3) b.2 a.2.2.2.2).2.2.2.2) [79,98,106,101,99,116] j0) j0 j0 j0 j0 ⟨(.mpt j0),(rnI j0),j5⟩ ⟨⟨_,j0,⟨(rnI j0),(.mmp j0),(.mmp j0),(.msl j0),j5⟩⟩,⟨j0,mkI (fun _=>j0)⟩,⟨j0,mkI (fun _=>j0)⟩,⟨j0,mkI (fun _=>j0)⟩,j5⟩<|g j0 m<|eql ti3 j0 j0<|zc (egA [122,123,124] 3 m j0 j0 j0 j0)) zdb<|u<|mv j0<|z2 (j:=53) 3 j0 j0 j0 j0 j0 gpn (fun n=>g j0 n<|mv j0<|g j0 n<|sc [0,1,2,3] (zgs a.1 a.2.1 (zd a.1 a.2.1 (zd a.1 a.2.1 a.2.2.1 a.2.2.2.1 a.2.2.2.2 [65,97] 2) a.2.2.2.1 a.2.2.2.2 [65,97] 3) F.2 ((zj a.1 a.2.1 (zd a.1 a.2.1 (zd a.1 a.2.1 a.2.2.1 a.2.2.2.1 a.2.2.2.2 [65,97] 2) a.2.2.2.1 a.2.2.2.2 [65,97] 3) b.2 a.2.2.2.2).2.2.2.2) [90,122] j0) j0 j0 j0 j0 ⟨(.mpt j0),(rnI j0),j5⟩ ⟨⟨_,j0,⟨(rnI j0),(.mmp j0),(.mmp j0),(.msl j0),j5⟩⟩,⟨j0,mkI (fun _=>j0)⟩,⟨j0,mkI (fun _=>j0)⟩,⟨j0,mkI (fun _=>j0)⟩,j5⟩<|g j0 n<|eql ti3 j0 j0<|zc (egA [127,128,129] 3 n j0 j0 j0 j0)) zdb<|u<|asg j0<|zc ?_
  refine zp ?_
  obtain rfl:=sm h
  exact ⟨_,j0,[],ci j0,j0,j5,j0,j1⟩
end
end Go.Proofs.YthmnlfenkhmmhaaGreat
namespace Go.Proofs.YthmnlfenkhmmhaaGreat
noncomputable section
set_option linter.unusedSimpArgs false
set_option linter.unusedVariables false
set_option maxRecDepth 100000
set_option maxHeartbeats 4000000
structure zfs where
  Kind:Int
  C:Int
  At:Int
  F:Int
  V:ze
def zae (x:zfs):List AV:=[iA x.Kind,iA x.C,iA x.At,iA x.F,bA x.V.Ref,.lit (.int .i32 x.V.N)]
def zgP:Option (Bool) :=
  some true
def zbx (b:List ze) (a:Int):Option (Sum (Int) (Sum (Unit) (Bool))) :=
  cond (decide (a < (List.length b:Int))) ((idx b a).bind fun c=>(cond c.Ref ((idx b a).bind fun d=>some (decide (d.N < 0))) (some false)).bind fun e=>cond e (some (.inr (.inr false))) (some (.inl (IntKind.i64.wrap (a+1))))) (some (.inr (.inl ())))
def zgg (a:List ze):Option (Bool) :=
  (zu (fun z=>zbx a z) 0).bind fun o=>zQ o (fun b=>zgP) some
theorem zl3 (f:List ze) {r:Bool} (h:zgg f=some r):zF Tryz.prog 28 [.isl 2 (List.map zf f)] (bA r):=by
 refine zr Tryz.func28 j0 (by kernel_rfl) j0 j0 ?_
 unfold zgg at h
 refine rg j0<|u<|asg j0<|zc ?_
 refine zl ?_
 refine rg j0<|u<|asg j0<|zc ?_
 obtain ⟨o,ho,h⟩:=bs h
 refine zU (X:=Int) (B:=Unit) (R:=Bool) (fun z=>[(0,.isl 2 (List.map zf f)),(3,iA z)]) (fun z=>[]) (fun b=>[]) (fun b=>[]) (fun r env st=>zaD Tryz.prog Tryz.f28 0 (bA r) [] env st) ho ⟨[],ce j0 j0<|ce j0 j0<|cn,j0,j5,j0,j1⟩ ?_ ?_ ?_
 ·
  rintro m r h
  replace h:zbx f m=some r:=h
  unfold zbx at h
  refine zl ?_
  refine rg j0<|u<|mv j0<|u<|mv j0<|u<|lnI zf7 j0 j0<|u<|lss ti3 j0 j0<|zc ?_
  refine zk j0 (fun e=>?_) (fun e=>?_)
  ·
   replace h:=bT e h
   refine zm ?_
   refine zl ?_
   refine zs ?_
   obtain ⟨p,l,h⟩:=bs h
   obtain ⟨n,c,h⟩:=bs h
   refine rg j0<|u<|mv j0<|u<|mv j0<|u<|ixI zf7 j0 zdO j0 j0 j0 l<|u<|fa zdO j0 j0 j0<|u<|ldI ti4 j0 (zo l).2.2 j0<|u<|mv j0<|z2 (x:=n) (j:=5) 6 j0 j0 j0 j0 j0 gpn (fun a=>by replace c:=bT a c; obtain ⟨q,i,c⟩:=bs c; obtain rfl:=sm c; exact g j0 a<|mv j0<|g j0 a<|mv j0<|g j0 a<|ixI zf7 j0 zdO j0 j0 j0 i<|g j0 a<|fa zdO j0 j0 j0<|g j0 a<|ldI znI j0 (zo i).2.2 j0<|g j0 a<|lss znI j0 j0<|zc (eg [16,17,18,19,20,21] 6 j0 j0 j0 j0)) (fun hb=>(sm (bF hb c)).symm)<|zc ?_
   refine zk j0 (fun d=>?_) (fun d=>?_)
   ·
    replace h:=bT d h
    refine rg j0<|u<|asg j0<|zc ?_
    refine zp ?_
    obtain rfl:=sm h
    exact ⟨_,j0,_,j0,[],ci j0,j0,j5,j0,j1⟩
   ·
    replace h:=bF d h
    refine zm ?_
    refine rl j0<|u<|mv j0<|u<|add ti3 j0 j0<|u<|asg j0<|zc ?_
    obtain rfl:=sm h
    exact ⟨_,j0,[],ce j0 j0<|ce j0 j0<|cn,j0,j5,j0,j1⟩
  ·
   replace h:=bF e h
   refine zB ?_
   obtain rfl:=sm h
   exact ⟨j0,_,j0,[],cn,j0,j5,j0,j1⟩
 ·
  rintro ⟨⟩ rfl
  replace h:zgP=some r:=h
  unfold zgP at h
  refine zx ?_
  refine rg j0<|u<|asg j0<|zc ?_
  refine zp ?_
  obtain rfl:=sm h
  exact ⟨_,j0,[],ci j0,j0,j5,j0,j1⟩
 ·
  rintro r' rfl env st hp
  obtain rfl:=sm h
  exact hp
def zef (a:List (List UInt8)):Option ((List (List UInt8))) :=
  some a
def zbu (a:Int) (b:List (List UInt8)):Option (Sum ((List (List UInt8))×Int) (Sum ((List (List UInt8))) ((List (List UInt8))))) :=
  some (.inl (b,(IntKind.i64.wrap (a+1))))
def zaV (f:List (List UInt8×ze)) (d:List (List UInt8)) (b:List (List UInt8)) (a:Int):Option (Sum ((List (List UInt8))×Int) (Sum ((List (List UInt8))) ((List (List UInt8))))) :=
  cond (decide (a < ((List.length d):Int))) ((idx d a).bind fun c=>cond ((Option.getD (zw c f) (ze.mk false 0)).Ref) ((zhp 16 b [c]).bind fun e=>zbu a e) (zbu a b)) (some (.inr (.inl b)))
def zb9 (d:List za) (e:List (List UInt8×Int)) (f:List (List UInt8×Int)) (a:List (List UInt8×ze)) (c:List (List UInt8)):Option ((List (List UInt8))) :=
  (zu (fun z=>zaV a c z.1 z.2) ([],0)).bind fun o=>zQ o (fun b=>zef b) some
theorem zfP (d:List za) (e:List (List UInt8×Int)) (i:List (List UInt8×Int)) (c:List (List UInt8×ze)) (a:List (List UInt8)) {r:(List (List UInt8))} (h:zb9 d e i c a=some r):SC Tryz.prog 113 [.mpt 0 0 0] [.one 4 [.ipt 2 [[.isl 6 (List.map zb d),.imp (List.map (rKV (fun x=>iA x)) e)]] 0 0,.mmp 1,.mmp 2,.msl 3 0 (List.length a)],.many 2 (List.map (rKV (fun x=>iA x)) i),.many 2 (List.map (rKV (fun x=>.agg (zf x))) c),.many 1 (List.map zz a)] (.msl 4 0 (List.length r)) [.one 4 [.ipt 2 [[.isl 6 (List.map zb d),.imp (List.map (rKV (fun x=>iA x)) e)]] 0 0,.mmp 1,.mmp 2,.msl 3 0 (List.length a)],.many 2 (List.map (rKV (fun x=>iA x)) i),.many 2 (List.map (rKV (fun x=>.agg (zf x))) c),.many 1 (List.map zz a),.many 1 (List.map zz r)]:=by
 refine ⟨⟨j5,ze9 (sz:=2) (fun _=>j0),ze9 (sz:=2) (fun _=>j0),ze9 (sz:=1) (fun _=>j0),ze9 (sz:=1) (fun _=>j0),j5⟩,za2 Tryz.func113 j0 (by kernel_rfl) j0 ?_⟩
 unfold zb9 at h
 refine rg j0<|u<|asg j0<|zc ?_
 refine rg j0<|u<|asg j0<|zc ?_
 refine zl ?_
 refine rg j0<|u<|mv j0<|u<|eqp zr2 j0 j0 j0 j0 j0 j0<|zc ?_
 refine zk j0 (fun hx=>by cases hx) (fun _=>?_)
 refine zm ?_
 refine zl ?_
 refine rg j0<|u<|mv j0<|u<|nc j0 j0<|u<|fa zb6 j0 j0 j0<|u<|ld zak j0 j0<|u<|lnM zak j0 j0 j0<|u<|mv j0<|zc ?_
 obtain ⟨o,ho,h⟩:=bs h
 refine zU (X:=(List (List UInt8))×Int) (B:=(List (List UInt8))) (R:=(List (List UInt8))) (fun z=>[(0,.mpt 0 0 0),(3,.msl 4 0 (List.length z.1)),(11,.msl 3 0 (List.length a)),(12,iA ((List.length a):Int)),(13,iA z.2)]) (fun z=>[some (4,[[.ipt 2 [[.isl 6 (List.map zb d),.imp (List.map (rKV (fun x=>iA x)) e)]] 0 0,.mmp 1,.mmp 2,.msl 3 0 (List.length a)]]),some (2,List.map (rKV (fun x=>iA x)) i),some (2,List.map (rKV (fun x=>.agg (zf x))) c),some (1,List.map zz a),some (1,List.map zz z.1)]) (fun b=>[(3,.msl 4 0 (List.length b))]) (fun b=>[some (4,[[.ipt 2 [[.isl 6 (List.map zb d),.imp (List.map (rKV (fun x=>iA x)) e)]] 0 0,.mmp 1,.mmp 2,.msl 3 0 (List.length a)]]),some (2,List.map (rKV (fun x=>iA x)) i),some (2,List.map (rKV (fun x=>.agg (zf x))) c),some (1,List.map zz a),some (1,List.map zz b)]) (fun r env st=>zaD Tryz.prog Tryz.f113 4 (.msl 4 0 (List.length r)) [some (4,[[.ipt 2 [[.isl 6 (List.map zb d),.imp (List.map (rKV (fun x=>iA x)) e)]] 0 0,.mmp 1,.mmp 2,.msl 3 0 (List.length a)]]),some (2,List.map (rKV (fun x=>iA x)) i),some (2,List.map (rKV (fun x=>.agg (zf x))) c),some (1,List.map zz a),some (1,List.map zz r)] env st) ho ⟨[.old 0,.old 1,.old 2,.old 3,.fresh 1],cv j0 (.mpt j0)<|cv j0 (.nilown j0)<|cv j0 (.msl j0)<|ce j0 j0<|ce j0 j0<|cn,j0,⟨⟨_,j0,zn ⟨ci j0,.mmp j0,.mmp j0,.msl j0,j5⟩⟩,⟨_,j0,zg (fun _=>j0)⟩,⟨_,j0,zg (fun _=>j0)⟩,⟨_,j0,zg (fun _=>j0)⟩,j4,j5⟩,j0,j1⟩ ?_ ?_ ?_
 ·
  rintro ⟨p,j⟩ r h
  replace h:zaV c a p j=some r:=h
  unfold zaV at h
  refine rg j0<|u<|lss ti3 j0 j0<|zc ?_
  refine zl ?_
  refine zk j0 (fun m=>?_) (fun m=>?_)
  ·
   replace h:=bT m h
   refine zm ?_
   refine zb3 (X:=(List (List UInt8))) (fun z=>[(0,.mpt 0 0 0),(3,.msl 4 0 (List.length z)),(11,.msl 3 0 (List.length a)),(12,iA ((List.length a):Int)),(13,iA j)]) (fun z=>[some (4,[[.ipt 2 [[.isl 6 (List.map zb d),.imp (List.map (rKV (fun x=>iA x)) e)]] 0 0,.mmp 1,.mmp 2,.msl 3 0 (List.length a)]]),some (2,List.map (rKV (fun x=>iA x)) i),some (2,List.map (rKV (fun x=>.agg (zf x))) c),some (1,List.map zz a),some (1,List.map zz z)]) (fun z=>zbu j z=some r) ?_ ?_
   ·
    refine zs ?_
    obtain ⟨q,s,h⟩:=bs h
    refine rg j0<|u<|ixM zak j0 ti9 j0 j0 j0 j0 s<|u<|ldM ti9 j0 j0 (zo s).2.2 j0<|u<|asg j0<|zc ?_
    refine rg j0<|u<|mv j0<|u<|nc j0 j0<|u<|fa zb6 j0 j0 j0<|u<|ld zjK j0 j0<|u<|mv j0<|u<|zsq (g:=(fun x=>.agg (zf x))) (z:=(ze.mk false 0)) (l:=c) j0 zdO j0 j0 j0 j0<|u<|fdV j0 j0<|zc ?_
    refine zk j0 (fun n=>?_) (fun n=>?_)
    ·
     replace h:=bT n h
     obtain ⟨v,E,h⟩:=bs h
     exact rl j0<|u<|mv j0<|u<|mv j0<|u<|bl 5 zak j0 ti9 j0 (by decide) (by decide) j0 j0 j0<|u<|apM 6 zak j0 ti9 j0 j0 (by decide) zak j0 j0 j0 j0 (roX (f:=zz) (z:=[q]) j0 j0) (fun _=>j0) j0 E<|u<|asg j0<|zc (⟨v,h,[.old 0,.old 1,.old 2,.old 3,.old 6],cv j0 (.mpt j0)<|cv j0 (.msl j0)<|cv j0 (.msl j0)<|ce j0 j0<|ce j0 j0<|cn,j0,⟨⟨_,j0,zn ⟨ci j0,.mmp j0,.mmp j0,.msl j0,j5⟩⟩,⟨_,j0,zg (fun _=>j0)⟩,⟨_,j0,zg (fun _=>j0)⟩,⟨_,j0,zg (fun _=>j0)⟩,⟨_,j0,zg (fun _=>j0)⟩,j5⟩,j0,j1⟩)
    ·
     replace h:=bF n h
     refine zm ?_
     exact ⟨p,h,[.old 0,.old 1,.old 2,.old 3,.old 4],cv j0 (.mpt j0)<|cv j0 (.msl j0)<|cv j0 (.msl j0)<|ce j0 j0<|ce j0 j0<|cn,j0,⟨⟨_,j0,zn ⟨ci j0,.mmp j0,.mmp j0,.msl j0,j5⟩⟩,⟨_,j0,zg (fun _=>j0)⟩,⟨_,j0,zg (fun _=>j0)⟩,⟨_,j0,zg (fun _=>j0)⟩,⟨_,j0,zg (fun _=>j0)⟩,j5⟩,j0,j1⟩
   ·
    rintro C h
    replace h:zbu j C=some r:=h
    unfold zbu at h
    refine rl j0<|u<|add ti3 j0 j0<|u<|mv j0<|zc ?_
    obtain rfl:=sm h
    exact ⟨_,j0,[.old 0,.old 1,.old 2,.old 3,.old 4],cv j0 (.mpt j0)<|cv j0 (.msl j0)<|cv j0 (.msl j0)<|ce j0 j0<|ce j0 j0<|cn,j0,⟨⟨_,j0,zn ⟨ci j0,.mmp j0,.mmp j0,.msl j0,j5⟩⟩,⟨_,j0,zg (fun _=>j0)⟩,⟨_,j0,zg (fun _=>j0)⟩,⟨_,j0,zg (fun _=>j0)⟩,⟨_,j0,zg (fun _=>j0)⟩,j5⟩,j0,j1⟩
  ·
   replace h:=bF m h
   refine zB ?_
   obtain rfl:=sm h
   exact ⟨j0,_,j0,[.old 0,.old 1,.old 2,.old 3,.old 4],cv j0 (.msl j0)<|cn,j0,⟨⟨_,j0,zn ⟨ci j0,.mmp j0,.mmp j0,.msl j0,j5⟩⟩,⟨_,j0,zg (fun _=>j0)⟩,⟨_,j0,zg (fun _=>j0)⟩,⟨_,j0,zg (fun _=>j0)⟩,⟨_,j0,zg (fun _=>j0)⟩,j5⟩,j0,j1⟩
 ·
  rintro D rfl
  replace h:zef D=some r:=h
  unfold zef at h
  refine zx ?_
  refine rg j0<|u<|mv j0<|u<|asg j0<|zc ?_
  refine zp ?_
  obtain rfl:=sm h
  exact ⟨_,j0,[.old 0,.old 1,.old 2,.old 3,.old 4],.msl j0,j0,⟨⟨_,j0,zn ⟨ci j0,.mmp j0,.mmp j0,.msl j0,j5⟩⟩,⟨_,j0,zg (fun _=>j0)⟩,⟨_,j0,zg (fun _=>j0)⟩,⟨_,j0,zg (fun _=>j0)⟩,⟨_,j0,zg (fun _=>j0)⟩,j5⟩,j0,j1⟩
 ·
  rintro r' rfl env st hp
  obtain rfl:=sm h
  exact hp
def zee (a:List Int):Option ((List Int)) :=
  some a
def zaU (f:List (List UInt8×ze)) (c:(List (List UInt8))) (b:List Int) (a:Int):Option (Sum ((List Int)×Int) (Sum ((List Int)) ((List Int)))) :=
  cond (decide (a < ((List.length c):Int))) ((idx c a).bind fun d=>(zhp 8 b [(IntKind.i64.wrap ((IntKind.i64.wrap ((Option.getD (zw d f) (ze.mk false 0)).N)) - 1))]).bind fun e=>some (.inl (e,(IntKind.i64.wrap (a+1))))) (some (.inr (.inl b)))
def zcQ (c:List za) (d:List (List UInt8×Int)) (e:List (List UInt8×Int)) (a:List (List UInt8×ze)) (f:List (List UInt8)):Option ((List Int)) :=
  (zb9 c d e a f).bind fun i=>(zu (fun z=>zaU a i z.1 z.2) ([],0)).bind fun o=>zQ o (fun b=>zee b) some
theorem ziB (d:List za) (e:List (List UInt8×Int)) (i:List (List UInt8×Int)) (c:List (List UInt8×ze)) (a:List (List UInt8)) {r:(List Int)} (h:zcQ d e i c a=some r):SC Tryz.prog 30 [.mpt 0 0 0] [.one 4 [.ipt 2 [[.isl 6 (List.map zb d),.imp (List.map (rKV (fun x=>iA x)) e)]] 0 0,.mmp 1,.mmp 2,.msl 3 0 (List.length a)],.many 2 (List.map (rKV (fun x=>iA x)) i),.many 2 (List.map (rKV (fun x=>.agg (zf x))) c),.many 1 (List.map zz a)] (.msl 4 0 (List.length r)) [.one 4 [.ipt 2 [[.isl 6 (List.map zb d),.imp (List.map (rKV (fun x=>iA x)) e)]] 0 0,.mmp 1,.mmp 2,.msl 3 0 (List.length a)],.many 2 (List.map (rKV (fun x=>iA x)) i),.many 2 (List.map (rKV (fun x=>.agg (zf x))) c),.many 1 (List.map zz a),.many 1 (List.map (rI .i64) r)]:=by
 refine ⟨⟨j5,ze9 (sz:=2) (fun _=>j0),ze9 (sz:=2) (fun _=>j0),ze9 (sz:=1) (fun _=>j0),ze9 (sz:=1) (fun _=>j0),j5⟩,za2 Tryz.func30 j0 (by kernel_rfl) j0 ?_⟩
 unfold zcQ at h
 refine rg j0<|u<|asg j0<|zc ?_
 refine rg j0<|u<|asg j0<|zc ?_
 refine zl ?_
 obtain ⟨j,C,h⟩:=bs h
 refine rg j0<|u<|mv j0<|u<|sc [0,1,2,3] (zfP d e i c a C) j0 j0 j0 j0 ⟨(.mpt j0),j5⟩ ⟨⟨_,j0,⟨(rnI j0),(.mmp j0),(.mmp j0),(.msl j0),j5⟩⟩,⟨j0,mkI (fun _=>j0)⟩,⟨j0,mkI (fun _=>j0)⟩,⟨j0,mkI (fun _=>j0)⟩,j5⟩<|zcj (env0:=[(0,.mpt 0 0 0),(3,.lit (.slice none 0 0)),(7,.msl 4 0 (List.length j))]) (st0:=[some (4,[[.ipt 2 [[.isl 6 (List.map zb d),.imp (List.map (rKV (fun x=>iA x)) e)]] 0 0,.mmp 1,.mmp 2,.msl 3 0 (List.length a)]]),some (2,List.map (rKV (fun x=>iA x)) i),some (2,List.map (rKV (fun x=>.agg (zf x))) c),some (1,List.map zz a),some (1,List.map zz j)]) ⟨[.old 0,.old 1,.old 2,.old 3,.old 4],cv j0 (.mpt j0)<|ce j0 j0<|cv j0 (.msl j0)<|cn,j0,⟨⟨_,j0,zn ⟨ci j0,.mmp j0,.mmp j0,.msl j0,j5⟩⟩,⟨_,j0,zg (fun _=>j0)⟩,⟨_,j0,zg (fun _=>j0)⟩,⟨_,j0,zg (fun _=>j0)⟩,⟨_,j0,zg (fun _=>j0)⟩,j5⟩,j0,j1⟩<|u<|lnM zak j0 j0 j0<|u<|mv j0<|zc ?_
 obtain ⟨o,ho,h⟩:=bs h
 refine zU (X:=(List Int)×Int) (B:=(List Int)) (R:=(List Int)) (fun z=>[(0,.mpt 0 0 0),(3,.msl 4 0 (List.length z.1)),(7,.msl 5 0 (List.length j)),(8,iA ((List.length j):Int)),(9,iA z.2)]) (fun z=>[some (4,[[.ipt 2 [[.isl 6 (List.map zb d),.imp (List.map (rKV (fun x=>iA x)) e)]] 0 0,.mmp 1,.mmp 2,.msl 3 0 (List.length a)]]),some (2,List.map (rKV (fun x=>iA x)) i),some (2,List.map (rKV (fun x=>.agg (zf x))) c),some (1,List.map zz a),some (1,List.map (rI .i64) z.1),some (1,List.map zz j)]) (fun b=>[(3,.msl 4 0 (List.length b))]) (fun b=>[some (4,[[.ipt 2 [[.isl 6 (List.map zb d),.imp (List.map (rKV (fun x=>iA x)) e)]] 0 0,.mmp 1,.mmp 2,.msl 3 0 (List.length a)]]),some (2,List.map (rKV (fun x=>iA x)) i),some (2,List.map (rKV (fun x=>.agg (zf x))) c),some (1,List.map zz a),some (1,List.map (rI .i64) b)]) (fun r env st=>zaD Tryz.prog Tryz.f30 4 (.msl 4 0 (List.length r)) [some (4,[[.ipt 2 [[.isl 6 (List.map zb d),.imp (List.map (rKV (fun x=>iA x)) e)]] 0 0,.mmp 1,.mmp 2,.msl 3 0 (List.length a)]]),some (2,List.map (rKV (fun x=>iA x)) i),some (2,List.map (rKV (fun x=>.agg (zf x))) c),some (1,List.map zz a),some (1,List.map (rI .i64) r)] env st) ho ⟨[.old 0,.old 1,.old 2,.old 3,.fresh 1,.old 4],cv j0 (.mpt j0)<|cv j0 (.nilown j0)<|cv j0 (.msl j0)<|ce j0 j0<|ce j0 j0<|cn,j0,⟨⟨_,j0,zn ⟨ci j0,.mmp j0,.mmp j0,.msl j0,j5⟩⟩,⟨_,j0,zg (fun _=>j0)⟩,⟨_,j0,zg (fun _=>j0)⟩,⟨_,j0,zg (fun _=>j0)⟩,j4,⟨_,j0,zg (fun _=>j0)⟩,j5⟩,j0,j1⟩ ?_ ?_ ?_
 ·
  rintro ⟨n,p⟩ r h
  replace h:zaU c j n p=some r:=h
  unfold zaU at h
  refine rg j0<|u<|lss ti3 j0 j0<|zc ?_
  refine zl ?_
  refine zk j0 (fun m=>?_) (fun m=>?_)
  ·
   replace h:=bT m h
   refine zm ?_
   refine zl ?_
   refine zs ?_
   obtain ⟨q,s,h⟩:=bs h
   refine rg j0<|u<|ixM zak j0 ti9 j0 j0 j0 j0 s<|u<|ldM ti9 j0 j0 (zo s).2.2 j0<|u<|asg j0<|zc ?_
   obtain ⟨E,D,h⟩:=bs h
   refine rl j0<|u<|mv j0<|u<|mv j0<|u<|nc j0 j0<|u<|fa zb6 j0 j0 j0<|u<|ld zjK j0 j0<|u<|mv j0<|u<|zsq (g:=(fun x=>.agg (zf x))) (z:=(ze.mk false 0)) (l:=c) j0 zdO j0 j0 j0 j0<|u<|fdV j0 j0<|u<|cvi znI ti3 j0 j0 j0<|u<|sub ti3 j0 j0<|u<|bl 6 zkM j0 ti3 j0 (by decide) (by decide) j0 j0 j0<|u<|apM 7 zkM j0 ti3 j0 j0 (by decide) zkM j0 j0 j0 j0 (roX (f:=(rI .i64)) (z:=[(IntKind.i64.wrap ((IntKind.i64.wrap ((Option.getD (zw q c) (ze.mk false 0)).N)) - 1))]) j0 j0) (fun _=>j0) j0 D<|u<|asg j0<|zc ?_
   refine rl j0<|u<|add ti3 j0 j0<|u<|mv j0<|zc ?_
   obtain rfl:=sm h
   exact ⟨_,j0,[.old 0,.old 1,.old 2,.old 3,.old 7,.old 5],cv j0 (.mpt j0)<|cv j0 (.msl j0)<|cv j0 (.msl j0)<|ce j0 j0<|ce j0 j0<|cn,j0,⟨⟨_,j0,zn ⟨ci j0,.mmp j0,.mmp j0,.msl j0,j5⟩⟩,⟨_,j0,zg (fun _=>j0)⟩,⟨_,j0,zg (fun _=>j0)⟩,⟨_,j0,zg (fun _=>j0)⟩,⟨_,j0,zg (fun _=>j0)⟩,⟨_,j0,zg (fun _=>j0)⟩,j5⟩,j0,j1⟩
  ·
   replace h:=bF m h
   refine zB ?_
   obtain rfl:=sm h
   exact ⟨j0,_,j0,[.old 0,.old 1,.old 2,.old 3,.old 4],cv j0 (.msl j0)<|cn,j0,⟨⟨_,j0,zn ⟨ci j0,.mmp j0,.mmp j0,.msl j0,j5⟩⟩,⟨_,j0,zg (fun _=>j0)⟩,⟨_,j0,zg (fun _=>j0)⟩,⟨_,j0,zg (fun _=>j0)⟩,⟨_,j0,zg (fun _=>j0)⟩,j5⟩,j0,j1⟩
 ·
  rintro v rfl
  replace h:zee v=some r:=h
  unfold zee at h
  refine zx ?_
  refine rg j0<|u<|mv j0<|u<|asg j0<|zc ?_
  refine zp ?_
  obtain rfl:=sm h
  exact ⟨_,j0,[.old 0,.old 1,.old 2,.old 3,.old 4],.msl j0,j0,⟨⟨_,j0,zn ⟨ci j0,.mmp j0,.mmp j0,.msl j0,j5⟩⟩,⟨_,j0,zg (fun _=>j0)⟩,⟨_,j0,zg (fun _=>j0)⟩,⟨_,j0,zg (fun _=>j0)⟩,⟨_,j0,zg (fun _=>j0)⟩,j5⟩,j0,j1⟩
 ·
  rintro r' rfl env st hp
  obtain rfl:=sm h
  exact hp
def zc8 (a:List (List UInt8×ze)):Option ((List (List UInt8×ze))) :=
  some a
def zao (c:List Int) (f:(List (List UInt8))) (b:List (List UInt8×ze)) (a:Int):Option (Sum ((List (List UInt8×ze))×Int) (Sum ((List (List UInt8×ze))) ((List (List UInt8×ze))))) :=
  cond (decide (a < ((List.length c):Int))) ((idx c a).bind fun d=>(idx f a).bind fun e=>some (.inl ((zat e (ze.mk true (IntKind.i32.wrap (IntKind.i64.wrap (d+1)))) b),(IntKind.i64.wrap (a+1))))) (some (.inr (.inl b)))
def zb1 (e:List za) (f:List (List UInt8×Int)) (i:List (List UInt8×Int)) (a:List (List UInt8×ze)) (j:List (List UInt8)) (c:List Int):Option ((List (List UInt8×ze))) :=
  (zb9 e f i a j).bind fun d=>cond (!(((List.length d):Int) == ((List.length c):Int))) (some a) ((zu (fun z=>zao c d z.1 z.2) (a,0)).bind fun o=>zQ o (fun b=>zc8 b) some)
theorem zhn (e:List za) (f:List (List UInt8×Int)) (i:List (List UInt8×Int)) (D:List (List UInt8×ze)) (a:List (List UInt8)) (c:List Int) {r:(List (List UInt8×ze))} (h:zb1 e f i D a c=some r):SC Tryz.prog 31 [.mpt 0 0 0,.msl 4 0 (List.length c)] [.one 4 [.ipt 2 [[.isl 6 (List.map zb e),.imp (List.map (rKV (fun x=>iA x)) f)]] 0 0,.mmp 1,.mmp 2,.msl 3 0 (List.length a)],.many 2 (List.map (rKV (fun x=>iA x)) i),.many 2 (List.map (rKV (fun x=>.agg (zf x))) D),.many 1 (List.map zz a),.many 1 (List.map (rI .i64) c)] (.tup []) [.one 4 [.ipt 2 [[.isl 6 (List.map zb e),.imp (List.map (rKV (fun x=>iA x)) f)]] 0 0,.mmp 1,.mmp 2,.msl 3 0 (List.length a)],.many 2 (List.map (rKV (fun x=>iA x)) i),.many 2 (List.map (rKV (fun x=>.agg (zf x))) r),.many 1 (List.map zz a),.many 1 (List.map (rI .i64) c)]:=by
 refine ⟨⟨j5,ze9 (sz:=2) (fun _=>j0),ze9 (sz:=2) (fun _=>j0),ze9 (sz:=1) (fun _=>j0),ze9 (sz:=1) (fun _=>j0),j5⟩,za2 Tryz.func31 j0 (by kernel_rfl) j0 ?_⟩
 unfold zb1 at h
 obtain ⟨j,H,h⟩:=bs h
 refine rg j0<|u<|mv j0<|u<|sc [0,1,2,3] (zfP e f i D a H) j0 j0 j0 j0 ⟨(.mpt j0),j5⟩ ⟨⟨_,j0,⟨(rnI j0),(.mmp j0),(.mmp j0),(.msl j0),j5⟩⟩,⟨j0,mkI (fun _=>j0)⟩,⟨j0,mkI (fun _=>j0)⟩,⟨j0,mkI (fun _=>j0)⟩,j5⟩<|zcj (env0:=[(0,.mpt 0 0 0),(1,.msl 4 0 (List.length c)),(8,.msl 5 0 (List.length j))]) (st0:=[some (4,[[.ipt 2 [[.isl 6 (List.map zb e),.imp (List.map (rKV (fun x=>iA x)) f)]] 0 0,.mmp 1,.mmp 2,.msl 3 0 (List.length a)]]),some (2,List.map (rKV (fun x=>iA x)) i),some (2,List.map (rKV (fun x=>.agg (zf x))) D),some (1,List.map zz a),some (1,List.map (rI .i64) c),some (1,List.map zz j)]) ⟨[.old 0,.old 1,.old 2,.old 3,.old 4,.old 5],cv j0 (.mpt j0)<|cv j0 (.msl j0)<|cv j0 (.msl j0)<|cn,j0,⟨⟨_,j0,zn ⟨ci j0,.mmp j0,.mmp j0,.msl j0,j5⟩⟩,⟨_,j0,zg (fun _=>j0)⟩,⟨_,j0,zg (fun _=>j0)⟩,⟨_,j0,zg (fun _=>j0)⟩,⟨_,j0,zg (fun _=>j0)⟩,⟨_,j0,zg (fun _=>j0)⟩,j5⟩,j0,j1⟩<|u<|asg j0<|zc ?_
 refine zl ?_
 refine rg j0<|u<|mv j0<|u<|lnM zak j0 j0 j0<|u<|mv j0<|u<|lnM zkM j0 j0 j0<|u<|neq ti3 j0 j0<|zc ?_
 refine zk j0 (fun n=>?_) (fun n=>?_)
 ·
  replace h:=bT n h
  refine zp ?_
  obtain rfl:=sm h
  exact ⟨_,j0,[.old 0,.old 1,.old 2,.old 3,.old 4],zer j5,j0,⟨⟨_,j0,zn ⟨ci j0,.mmp j0,.mmp j0,.msl j0,j5⟩⟩,⟨_,j0,zg (fun _=>j0)⟩,⟨_,j0,zg (fun _=>j0)⟩,⟨_,j0,zg (fun _=>j0)⟩,⟨_,j0,zg (fun _=>j0)⟩,j5⟩,j0,j1⟩
 ·
  replace h:=bF n h
  refine zm ?_
  refine rg j0<|u<|mv j0<|u<|lnM zkM j0 j0 j0<|u<|mv j0<|zc ?_
  obtain ⟨o,ho,h⟩:=bs h
  refine zU (X:=(List (List UInt8×ze))×Int) (B:=(List (List UInt8×ze))) (R:=(List (List UInt8×ze))) (fun z=>[(0,.mpt 0 0 0),(4,.msl 5 0 (List.length j)),(14,.msl 4 0 (List.length c)),(15,iA ((List.length c):Int)),(16,iA z.2)]) (fun z=>[some (4,[[.ipt 2 [[.isl 6 (List.map zb e),.imp (List.map (rKV (fun x=>iA x)) f)]] 0 0,.mmp 1,.mmp 2,.msl 3 0 (List.length a)]]),some (2,List.map (rKV (fun x=>iA x)) i),some (2,List.map (rKV (fun x=>.agg (zf x))) z.1),some (1,List.map zz a),some (1,List.map (rI .i64) c),some (1,List.map zz j)]) (fun b=>[]) (fun b=>[some (4,[[.ipt 2 [[.isl 6 (List.map zb e),.imp (List.map (rKV (fun x=>iA x)) f)]] 0 0,.mmp 1,.mmp 2,.msl 3 0 (List.length a)]]),some (2,List.map (rKV (fun x=>iA x)) i),some (2,List.map (rKV (fun x=>.agg (zf x))) b),some (1,List.map zz a),some (1,List.map (rI .i64) c)]) (fun r env st=>zaD Tryz.prog Tryz.f31 5 (.tup []) [some (4,[[.ipt 2 [[.isl 6 (List.map zb e),.imp (List.map (rKV (fun x=>iA x)) f)]] 0 0,.mmp 1,.mmp 2,.msl 3 0 (List.length a)]]),some (2,List.map (rKV (fun x=>iA x)) i),some (2,List.map (rKV (fun x=>.agg (zf x))) r),some (1,List.map zz a),some (1,List.map (rI .i64) c)] env st) ho ⟨[.old 0,.old 1,.old 2,.old 3,.old 4,.old 5],cv j0 (.mpt j0)<|cv j0 (.msl j0)<|cv j0 (.msl j0)<|ce j0 j0<|ce j0 j0<|cn,j0,⟨⟨_,j0,zn ⟨ci j0,.mmp j0,.mmp j0,.msl j0,j5⟩⟩,⟨_,j0,zg (fun _=>j0)⟩,⟨_,j0,zg (fun _=>j0)⟩,⟨_,j0,zg (fun _=>j0)⟩,⟨_,j0,zg (fun _=>j0)⟩,⟨_,j0,zg (fun _=>j0)⟩,j5⟩,j0,j1⟩ ?_ ?_ ?_
  ·
   rintro ⟨p,m⟩ r h
   replace h:zao c j p m=some r:=h
   unfold zao at h
   refine rg j0<|u<|lss ti3 j0 j0<|zc ?_
   refine zl ?_
   refine zk j0 (fun q=>?_) (fun q=>?_)
   ·
    replace h:=bT q h
    refine zm ?_
    refine zl ?_
    refine zs ?_
    obtain ⟨d,E,h⟩:=bs h
    refine rg j0<|u<|mv j0<|u<|ixM zkM j0 ti3 j0 j0 j0 j0 E<|u<|ldM ti3 j0 j0 (zo E).2.2 j0<|u<|asg j0<|u<|asg j0<|zc ?_
    obtain ⟨C,F,h⟩:=bs h
    refine rdL [(0,.mpt 0 0 0),(4,.msl 5 0 (List.length j)),(14,.msl 4 0 (List.length c)),(15,iA ((List.length c):Int)),(16,iA m)] [some (4,[[.ipt 2 [[.isl 6 (List.map zb e),.imp (List.map (rKV (fun x=>iA x)) f)]] 0 0,.mmp 1,.mmp 2,.msl 3 0 (List.length a)]]),some (2,List.map (rKV (fun x=>iA x)) i),some (2,List.map (rKV (fun x=>.agg (zf x))) (zat C (ze.mk true (IntKind.i32.wrap (IntKind.i64.wrap (d+1)))) p)),some (1,List.map zz a),some (1,List.map (rI .i64) c),some (1,List.map zz j)] [12] [11,10,9,8,7,6,5,4,3,2,1,0] [(32,.agg [bA true,.lit (.int .i32 (IntKind.i32.wrap (IntKind.i64.wrap (d+1))))]),(31,.lit (.int .i32 (IntKind.i32.wrap (IntKind.i64.wrap (d+1))))),(30,iA (IntKind.i64.wrap (d+1))),(29,iA d),(28,sA C),(27,.mpt 5 (Int.toNat m) 0),(26,iA m),(25,.msl 5 0 (List.length j)),(24,.mmp 2),(23,.mpt 0 0 2),(22,.mpt 0 0 0),(21,.mpt 0 0 0)] 1 (by kernel_rfl) (by kernel_rfl) j0 (by kernel_rfl) (dtS ⟨(fun _=>pa j0 j0 j0 j0 (bd zdO j0 j0 j0<|j4)),(fun _=>pa j0 j0 j0 j0 (cvi ti3 znI j0 j0 j0<|j4)),(fun _=>pa j0 j0 j0 j0 (add ti3 j0 j0<|j4)),(fun _=>pa j0 j0 j0 j0 (mv j0<|j4)),(fun _=>pa j0 j0 j0 j0 (ldM ti9 j0 j0 (zo F).2.2 j0<|j4)),(fun _=>pa j0 j0 j0 j0 (ixM zak j0 ti9 j0 j0 j0 j0 F<|j4)),(fun _=>pa j0 j0 j0 j0 (mv j0<|j4)),(fun _=>pa j0 j0 j0 j0 (mv j0<|j4)),(fun _=>pa j0 j0 j0 j0 (ld zjK j0 j0<|j4)),(fun _=>pa j0 j0 j0 j0 (fa zb6 j0 j0 j0<|j4)),(fun _=>pa j0 j0 j0 j0 (nc j0 j0<|j4)),(fun _=>pa j0 j0 j0 j0 (mv j0<|j4)),j5⟩ (by kernel_rfl) j0 ⟨(fun _ _=>⟨_,j0,j0,mup (v:=(ze.mk true (IntKind.i32.wrap (IntKind.i64.wrap (d+1))))) (g:=(fun x=>.agg (zf x))) (l:=p) (s:=C) j0 j0 j0 j0 j0 j0<|⟨.any,[],[],j0,j0,by kernel_rfl,j5,dt0 ⟨(fun h=>by cases h),(fun h=>by cases h),(fun h=>by cases h),(fun h=>by cases h),(fun h=>by cases h),(fun h=>by cases h),(fun h=>by cases h),(fun h=>by cases h),(fun h=>by cases h),(fun h=>by cases h),(fun h=>by cases h),(fun h=>by cases h),j5⟩ (by kernel_rfl) j0 ⟨[.old 0,.old 1,.old 2,.old 3,.old 4,.old 5],cv j0 (.mpt j0)<|cv j0 (.msl j0)<|cv j0 (.msl j0)<|ce j0 j0<|ce j0 j0<|cn,j0,⟨⟨_,j0,zn ⟨ci j0,.mmp j0,.mmp j0,.msl j0,j5⟩⟩,⟨_,j0,zg (fun _=>j0)⟩,⟨_,j0,zg (fun _=>j0)⟩,⟨_,j0,zg (fun _=>j0)⟩,⟨_,j0,zg (fun _=>j0)⟩,⟨_,j0,zg (fun _=>j0)⟩,j5⟩,j0,j1⟩⟩⟩),j5⟩) ?_
    refine rl j0<|u<|add ti3 j0 j0<|u<|mv j0<|zc ?_
    obtain rfl:=sm h
    exact ⟨_,j0,[.old 0,.old 1,.old 2,.old 3,.old 4,.old 5],cv j0 (.mpt j0)<|cv j0 (.msl j0)<|cv j0 (.msl j0)<|ce j0 j0<|ce j0 j0<|cn,j0,⟨⟨_,j0,zn ⟨ci j0,.mmp j0,.mmp j0,.msl j0,j5⟩⟩,⟨_,j0,zg (fun _=>j0)⟩,⟨_,j0,zg (fun _=>j0)⟩,⟨_,j0,zg (fun _=>j0)⟩,⟨_,j0,zg (fun _=>j0)⟩,⟨_,j0,zg (fun _=>j0)⟩,j5⟩,j0,j1⟩
   ·
    replace h:=bF q h
    refine zB ?_
    obtain rfl:=sm h
    exact ⟨j0,_,j0,[.old 0,.old 1,.old 2,.old 3,.old 4],cn,j0,⟨⟨_,j0,zn ⟨ci j0,.mmp j0,.mmp j0,.msl j0,j5⟩⟩,⟨_,j0,zg (fun _=>j0)⟩,⟨_,j0,zg (fun _=>j0)⟩,⟨_,j0,zg (fun _=>j0)⟩,⟨_,j0,zg (fun _=>j0)⟩,j5⟩,j0,j1⟩
  ·
   rintro G rfl
   replace h:zc8 G=some r:=h
   unfold zc8 at h
   refine zx ?_
   obtain rfl:=sm h
   exact ⟨_,j0,[.old 0,.old 1,.old 2,.old 3,.old 4],zer j5,j0,⟨⟨_,j0,zn ⟨ci j0,.mmp j0,.mmp j0,.msl j0,j5⟩⟩,⟨_,j0,zg (fun _=>j0)⟩,⟨_,j0,zg (fun _=>j0)⟩,⟨_,j0,zg (fun _=>j0)⟩,⟨_,j0,zg (fun _=>j0)⟩,j5⟩,j0,j1⟩
  ·
   rintro r' rfl env st hp
   obtain rfl:=sm h
   exact hp
def zc9 (a:List (List UInt8)):Option ((List (List UInt8))) :=
  some a
def za4 (a:Int) (b:List (List UInt8)):Option (Sum ((List (List UInt8))×Int) (Sum ((List (List UInt8))) ((List (List UInt8))))) :=
  some (.inl (b,(IntKind.i64.wrap (a+1))))
def zap (f:List (List UInt8×ze)) (d:List (List UInt8)) (b:List (List UInt8)) (a:Int):Option (Sum ((List (List UInt8))×Int) (Sum ((List (List UInt8))) ((List (List UInt8))))) :=
  cond (decide (a < (List.length d:Int))) ((idx d a).bind fun c=>cond ((Option.getD (zw c f) (ze.mk false 0)).Ref) ((zhp 16 b [c]).bind fun e=>za4 a e) (za4 a b)) (some (.inr (.inl b)))
def zb2 (d:List za) (e:List (List UInt8×Int)) (f:List (List UInt8×Int)) (a:List (List UInt8×ze)) (c:List (List UInt8)):Option ((List (List UInt8))) :=
  (zu (fun z=>zap a c z.1 z.2) ([],0)).bind fun o=>zQ o (fun b=>zc9 b) some
theorem zho (j:List za) (m:List (List UInt8×Int)) (n:List (List UInt8×Int)) (d:List (List UInt8×ze)) (a:List (List UInt8)) {r:(List (List UInt8))} (h:zb2 j m n d a=some r):SC Tryz.prog 113 [.ipt 4 [[.ipt 2 [[.isl 6 (List.map zb j),.imp (List.map (rKV (fun x=>iA x)) m)]] 0 0,.imp (List.map (rKV (fun x=>iA x)) n),.imp (List.map (rKV (fun x=>.agg (zf x))) d),.isl 1 (List.map zz a)]] 0 0] [] (.msl 0 0 (List.length r)) [.many 1 (List.map zz r)]:=by
 refine ⟨⟨ze9 (sz:=1) (fun _=>j0),j5⟩,za2 Tryz.func113 j0 (by kernel_rfl) j0 ?_⟩
 unfold zb2 at h
 refine rg j0<|u<|asg j0<|zc ?_
 refine rg j0<|u<|asg j0<|zc ?_
 refine zl ?_
 refine rg j0<|u<|mv j0<|u<|eqp zr2 j0 j0 j0 j0 j0 j0<|zc ?_
 refine zk j0 (fun hx=>by cases hx) (fun _=>?_)
 refine zm ?_
 refine zl ?_
 refine rg j0<|u<|mv j0<|u<|nc j0 j0<|u<|fa zb6 j0 j0 j0<|u<|ld zak j0 j0<|u<|lnI zak j0 j0<|u<|mv j0<|zc ?_
 obtain ⟨o,ho,h⟩:=bs h
 refine zU (X:=(List (List UInt8))×Int) (B:=(List (List UInt8))) (R:=(List (List UInt8))) (fun z=>[(0,.ipt 4 [[.ipt 2 [[.isl 6 (List.map zb j),.imp (List.map (rKV (fun x=>iA x)) m)]] 0 0,.imp (List.map (rKV (fun x=>iA x)) n),.imp (List.map (rKV (fun x=>.agg (zf x))) d),.isl 1 (List.map zz a)]] 0 0),(3,.msl 0 0 (List.length z.1)),(11,.isl 1 (List.map zz a)),(12,iA (List.length a:Int)),(13,iA z.2)]) (fun z=>[some (1,List.map zz z.1)]) (fun b=>[(3,.msl 0 0 (List.length b))]) (fun b=>[some (1,List.map zz b)]) (fun r env st=>zaD Tryz.prog Tryz.f113 0 (.msl 0 0 (List.length r)) [some (1,List.map zz r)] env st) ho ⟨[.fresh 1],ce j0 j0<|cv j0 (.nilown j0)<|ce j0 j0<|ce j0 j0<|ce j0 j0<|cn,j0,⟨j4,j5⟩,j0,j1⟩ ?_ ?_ ?_
 ·
  rintro ⟨p,c⟩ r h
  replace h:zap d a p c=some r:=h
  unfold zap at h
  refine rg j0<|u<|lss ti3 j0 j0<|zc ?_
  refine zl ?_
  refine zk j0 (fun e=>?_) (fun e=>?_)
  ·
   replace h:=bT e h
   refine zm ?_
   refine zb3 (X:=(List (List UInt8))) (fun z=>[(0,.ipt 4 [[.ipt 2 [[.isl 6 (List.map zb j),.imp (List.map (rKV (fun x=>iA x)) m)]] 0 0,.imp (List.map (rKV (fun x=>iA x)) n),.imp (List.map (rKV (fun x=>.agg (zf x))) d),.isl 1 (List.map zz a)]] 0 0),(3,.msl 0 0 (List.length z)),(11,.isl 1 (List.map zz a)),(12,iA (List.length a:Int)),(13,iA c)]) (fun z=>[some (1,List.map zz z)]) (fun z=>za4 c z=some r) ?_ ?_
   ·
    refine zs ?_
    obtain ⟨q,s,h⟩:=bs h
    refine rg j0<|u<|ixI zak j0 ti9 j0 j0 j0 s<|u<|ldI ti9 j0 (zo s).2.2 j0<|u<|asg j0<|zc ?_
    refine rg j0<|u<|mv j0<|u<|nc j0 j0<|u<|fa zb6 j0 j0 j0<|u<|ld zjK j0 j0<|u<|mv j0<|u<|zsq (g:=(fun x=>.agg (zf x))) (z:=(ze.mk false 0)) (l:=d) j0 zdO j0 j0 j0 j0<|u<|fdV j0 j0<|zc ?_
    refine zk j0 (fun i=>?_) (fun i=>?_)
    ·
     replace h:=bT i h
     obtain ⟨v,E,h⟩:=bs h
     exact rl j0<|u<|mv j0<|u<|mv j0<|u<|bl 1 zak j0 ti9 j0 (by decide) (by decide) j0 j0 j0<|u<|apM 2 zak j0 ti9 j0 j0 (by decide) zak j0 j0 j0 j0 (roX (f:=zz) (z:=[q]) j0 j0) (fun _=>j0) j0 E<|u<|asg j0<|zc (⟨v,h,[.old 2],ce j0 j0<|cv j0 (.msl j0)<|ce j0 j0<|ce j0 j0<|ce j0 j0<|cn,j0,⟨⟨_,j0,zg (fun _=>j0)⟩,j5⟩,j0,j1⟩)
    ·
     replace h:=bF i h
     refine zm ?_
     exact ⟨p,h,[.old 0],ce j0 j0<|cv j0 (.msl j0)<|ce j0 j0<|ce j0 j0<|ce j0 j0<|cn,j0,⟨⟨_,j0,zg (fun _=>j0)⟩,j5⟩,j0,j1⟩
   ·
    rintro C h
    replace h:za4 c C=some r:=h
    unfold za4 at h
    refine rl j0<|u<|add ti3 j0 j0<|u<|mv j0<|zc ?_
    obtain rfl:=sm h
    exact ⟨_,j0,[.old 0],ce j0 j0<|cv j0 (.msl j0)<|ce j0 j0<|ce j0 j0<|ce j0 j0<|cn,j0,⟨⟨_,j0,zg (fun _=>j0)⟩,j5⟩,j0,j1⟩
  ·
   replace h:=bF e h
   refine zB ?_
   obtain rfl:=sm h
   exact ⟨j0,_,j0,[.old 0],cv j0 (.msl j0)<|cn,j0,⟨⟨_,j0,zg (fun _=>j0)⟩,j5⟩,j0,j1⟩
 ·
  rintro D rfl
  replace h:zc9 D=some r:=h
  unfold zc9 at h
  refine zx ?_
  refine rg j0<|u<|mv j0<|u<|asg j0<|zc ?_
  refine zp ?_
  obtain rfl:=sm h
  exact ⟨_,j0,[.old 0],.msl j0,j0,⟨⟨_,j0,zg (fun _=>j0)⟩,j5⟩,j0,j1⟩
 ·
  rintro r' rfl env st hp
  obtain rfl:=sm h
  exact hp
def zc7 (a:List Int):Option ((List Int)) :=
  some a
def zan (f:List (List UInt8×ze)) (c:(List (List UInt8))) (b:List Int) (a:Int):Option (Sum ((List Int)×Int) (Sum ((List Int)) ((List Int)))) :=
  cond (decide (a < ((List.length c):Int))) ((idx c a).bind fun d=>(zhp 8 b [(IntKind.i64.wrap ((IntKind.i64.wrap ((Option.getD (zw d f) (ze.mk false 0)).N)) - 1))]).bind fun e=>some (.inl (e,(IntKind.i64.wrap (a+1))))) (some (.inr (.inl b)))
def zb0 (c:List za) (d:List (List UInt8×Int)) (e:List (List UInt8×Int)) (a:List (List UInt8×ze)) (f:List (List UInt8)):Option ((List Int)) :=
  (zb2 c d e a f).bind fun i=>(zu (fun z=>zan a i z.1 z.2) ([],0)).bind fun o=>zQ o (fun b=>zc7 b) some
theorem zhm (d:List za) (e:List (List UInt8×Int)) (i:List (List UInt8×Int)) (a:List (List UInt8×ze)) (j:List (List UInt8)) {r:(List Int)} (h:zb0 d e i a j=some r):SC Tryz.prog 30 [.ipt 4 [[.ipt 2 [[.isl 6 (List.map zb d),.imp (List.map (rKV (fun x=>iA x)) e)]] 0 0,.imp (List.map (rKV (fun x=>iA x)) i),.imp (List.map (rKV (fun x=>.agg (zf x))) a),.isl 1 (List.map zz j)]] 0 0] [] (.msl 0 0 (List.length r)) [.many 1 (List.map (rI .i64) r)]:=by
 refine ⟨⟨ze9 (sz:=1) (fun _=>j0),j5⟩,za2 Tryz.func30 j0 (by kernel_rfl) j0 ?_⟩
 unfold zb0 at h
 refine rg j0<|u<|asg j0<|zc ?_
 refine rg j0<|u<|asg j0<|zc ?_
 refine zl ?_
 obtain ⟨c,C,h⟩:=bs h
 refine rg j0<|u<|mv j0<|u<|sc [] (zho d e i a j C) j0 j0 j0 j0 ⟨(rnI j0),j5⟩ j5<|zcj (env0:=[(0,.ipt 4 [[.ipt 2 [[.isl 6 (List.map zb d),.imp (List.map (rKV (fun x=>iA x)) e)]] 0 0,.imp (List.map (rKV (fun x=>iA x)) i),.imp (List.map (rKV (fun x=>.agg (zf x))) a),.isl 1 (List.map zz j)]] 0 0),(3,.lit (.slice none 0 0)),(7,.msl 0 0 (List.length c))]) (st0:=[some (1,List.map zz c)]) ⟨[.old 0],ce j0 j0<|ce j0 j0<|cv j0 (.msl j0)<|cn,j0,⟨⟨_,j0,zg (fun _=>j0)⟩,j5⟩,j0,j1⟩<|u<|lnM zak j0 j0 j0<|u<|mv j0<|zc ?_
 obtain ⟨o,ho,h⟩:=bs h
 refine zU (X:=(List Int)×Int) (B:=(List Int)) (R:=(List Int)) (fun z=>[(0,.ipt 4 [[.ipt 2 [[.isl 6 (List.map zb d),.imp (List.map (rKV (fun x=>iA x)) e)]] 0 0,.imp (List.map (rKV (fun x=>iA x)) i),.imp (List.map (rKV (fun x=>.agg (zf x))) a),.isl 1 (List.map zz j)]] 0 0),(3,.msl 0 0 (List.length z.1)),(7,.msl 1 0 (List.length c)),(8,iA ((List.length c):Int)),(9,iA z.2)]) (fun z=>[some (1,List.map (rI .i64) z.1),some (1,List.map zz c)]) (fun b=>[(3,.msl 0 0 (List.length b))]) (fun b=>[some (1,List.map (rI .i64) b)]) (fun r env st=>zaD Tryz.prog Tryz.f30 0 (.msl 0 0 (List.length r)) [some (1,List.map (rI .i64) r)] env st) ho ⟨[.fresh 1,.old 0],ce j0 j0<|cv j0 (.nilown j0)<|cv j0 (.msl j0)<|ce j0 j0<|ce j0 j0<|cn,j0,⟨j4,⟨_,j0,zg (fun _=>j0)⟩,j5⟩,j0,j1⟩ ?_ ?_ ?_
 ·
  rintro ⟨n,p⟩ r h
  replace h:zan a c n p=some r:=h
  unfold zan at h
  refine rg j0<|u<|lss ti3 j0 j0<|zc ?_
  refine zl ?_
  refine zk j0 (fun m=>?_) (fun m=>?_)
  ·
   replace h:=bT m h
   refine zm ?_
   refine zl ?_
   refine zs ?_
   obtain ⟨q,s,h⟩:=bs h
   refine rg j0<|u<|ixM zak j0 ti9 j0 j0 j0 j0 s<|u<|ldM ti9 j0 j0 (zo s).2.2 j0<|u<|asg j0<|zc ?_
   obtain ⟨E,D,h⟩:=bs h
   refine rl j0<|u<|mv j0<|u<|mv j0<|u<|nc j0 j0<|u<|fa zb6 j0 j0 j0<|u<|ld zjK j0 j0<|u<|mv j0<|u<|zsq (g:=(fun x=>.agg (zf x))) (z:=(ze.mk false 0)) (l:=a) j0 zdO j0 j0 j0 j0<|u<|fdV j0 j0<|u<|cvi znI ti3 j0 j0 j0<|u<|sub ti3 j0 j0<|u<|bl 2 zkM j0 ti3 j0 (by decide) (by decide) j0 j0 j0<|u<|apM 3 zkM j0 ti3 j0 j0 (by decide) zkM j0 j0 j0 j0 (roX (f:=(rI .i64)) (z:=[(IntKind.i64.wrap ((IntKind.i64.wrap ((Option.getD (zw q a) (ze.mk false 0)).N)) - 1))]) j0 j0) (fun _=>j0) j0 D<|u<|asg j0<|zc ?_
   refine rl j0<|u<|add ti3 j0 j0<|u<|mv j0<|zc ?_
   obtain rfl:=sm h
   exact ⟨_,j0,[.old 3,.old 1],ce j0 j0<|cv j0 (.msl j0)<|cv j0 (.msl j0)<|ce j0 j0<|ce j0 j0<|cn,j0,⟨⟨_,j0,zg (fun _=>j0)⟩,⟨_,j0,zg (fun _=>j0)⟩,j5⟩,j0,j1⟩
  ·
   replace h:=bF m h
   refine zB ?_
   obtain rfl:=sm h
   exact ⟨j0,_,j0,[.old 0],cv j0 (.msl j0)<|cn,j0,⟨⟨_,j0,zg (fun _=>j0)⟩,j5⟩,j0,j1⟩
 ·
  rintro v rfl
  replace h:zc7 v=some r:=h
  unfold zc7 at h
  refine zx ?_
  refine rg j0<|u<|mv j0<|u<|asg j0<|zc ?_
  refine zp ?_
  obtain rfl:=sm h
  exact ⟨_,j0,[.old 0],.msl j0,j0,⟨⟨_,j0,zg (fun _=>j0)⟩,j5⟩,j0,j1⟩
 ·
  rintro r' rfl env st hp
  obtain rfl:=sm h
  exact hp
def zv (c:List za) (d:List (List UInt8×Int)) (a:List (List UInt8×Int)) (e:List (List UInt8×ze)) (f:List (List UInt8)) (b:List UInt8):Int :=
  (Option.getD (zw b a) 0)
theorem zfh (b:List za) (c:List (List UInt8×Int)) (a:List (List UInt8×Int)) (d:List (List UInt8×ze)) (e:List (List UInt8)) (f:List UInt8) {r:Int} (h:zv b c a d e f=r):zF Tryz.prog 97 [.ipt 4 [[.ipt 2 [[.isl 6 (List.map zb b),.imp (List.map (rKV (fun x=>iA x)) c)]] 0 0,.imp (List.map (rKV (fun x=>iA x)) a),.imp (List.map (rKV (fun x=>.agg (zf x))) d),.isl 1 (List.map zz e)]] 0 0,sA f] (iA r):=by
 refine zr Tryz.func97 j0 (by kernel_rfl) j0 j0 ?_
 unfold zv at h
 refine rg j0<|u<|asg j0<|zc ?_
 refine zl ?_
 refine rg j0<|u<|mv j0<|u<|eqp zr2 j0 j0 j0 j0 j0 j0<|zc ?_
 refine zk j0 (fun hx=>by cases hx) (fun _=>?_)
 refine zm ?_
 refine rg j0<|u<|mv j0<|u<|nc j0 j0<|u<|fa zb6 j0 j0 j0<|u<|ld zjg j0 j0<|u<|mv j0<|u<|zsq (g:=(fun x=>iA x)) (z:=0) (l:=a) j0 ti3 j0 j0 j0 j0<|u<|asg j0<|zc ?_
 refine zp ?_
 obtain rfl:=h
 exact ⟨_,j0,[],ci j0,j0,j5,j0,j1⟩
def zb5:Option ((List UInt8)×Int) :=
  some ([],2)
def zam (c:List (List UInt8×Int)) (d:(List (List UInt8))) (a:Int):Option (Sum (Int) (Sum (Unit) ((List UInt8)×Int))) :=
  cond (decide (0≤a)) ((idx d a).bind fun b=>cond (((Option.getD (zw b c) 0) == (0:Int))||((Option.getD (zw b c) 0) == (3:Int))) ((idx d a).bind fun e=>some (.inr (.inr (e,(Option.getD (zw b c) 0))))) (some (.inl (IntKind.i64.wrap (a - 1))))) (some (.inr (.inl ())))
def zcL (c:List za) (d:List (List UInt8×Int)) (e:List (List UInt8×Int)) (i:List (List UInt8×ze)) (j:List (List UInt8)) (f:List UInt8):Option ((List UInt8)×Int) :=
  (zbp c d f).bind fun a=>(zu (fun z=>zam e a z) (IntKind.i64.wrap (((List.length a):Int) - 1))).bind fun o=>zQ o (fun b=>zb5) some
theorem zhl (c:List za) (d:List (List UInt8×Int)) (a:List (List UInt8×Int)) (e:List (List UInt8×ze)) (f:List (List UInt8)) (C:List UInt8) {r:(List UInt8)×Int} (h:zcL c d a e f C=some r):zF Tryz.prog 25 [.ipt 4 [[.ipt 2 [[.isl 6 (List.map zb c),.imp (List.map (rKV (fun x=>iA x)) d)]] 0 0,.imp (List.map (rKV (fun x=>iA x)) a),.imp (List.map (rKV (fun x=>.agg (zf x))) e),.isl 1 (List.map zz f)]] 0 0,sA C] (.tup [sA r.1,iA r.2]):=by
 refine zr Tryz.func25 j0 (by kernel_rfl) j0 j0 ?_
 unfold zcL at h
 refine rg j0<|u<|asg j0<|u<|asg j0<|zc ?_
 refine zl ?_
 refine rg j0<|u<|mv j0<|u<|eqp zr2 j0 j0 j0 j0 j0 j0<|zc ?_
 refine zk j0 (fun hx=>by cases hx) (fun _=>?_)
 refine zm ?_
 obtain ⟨i,E,h⟩:=bs h
 refine rg j0<|u<|mv j0<|u<|nc j0 j0<|u<|fa zb6 j0 j0 j0<|u<|ld zjm j0 j0<|u<|mv j0<|u<|sc [] (zeH c d C E) j0 j0 j0 j0 ⟨(rnI j0),(rnI j0),j5⟩ j5<|zcj (env0:=[(0,.ipt 4 [[.ipt 2 [[.isl 6 (List.map zb c),.imp (List.map (rKV (fun x=>iA x)) d)]] 0 0,.imp (List.map (rKV (fun x=>iA x)) a),.imp (List.map (rKV (fun x=>.agg (zf x))) e),.isl 1 (List.map zz f)]] 0 0),(16,.msl 0 0 (List.length i))]) (st0:=[some (1,List.map zz i)]) ⟨[.old 0],ce j0 j0<|cv j0 (.msl j0)<|cn,j0,⟨⟨_,j0,zg (fun _=>j0)⟩,j5⟩,j0,j1⟩<|u<|asg j0<|zc ?_
 refine zl ?_
 refine rg j0<|u<|mv j0<|u<|lnM zak j0 j0 j0<|u<|sub ti3 j0 j0<|u<|asg j0<|zc ?_
 obtain ⟨o,ho,h⟩:=bs h
 refine zU (X:=Int) (B:=Unit) (R:=(List UInt8)×Int) (fun z=>[(0,.ipt 4 [[.ipt 2 [[.isl 6 (List.map zb c),.imp (List.map (rKV (fun x=>iA x)) d)]] 0 0,.imp (List.map (rKV (fun x=>iA x)) a),.imp (List.map (rKV (fun x=>.agg (zf x))) e),.isl 1 (List.map zz f)]] 0 0),(6,.msl 0 0 (List.length i)),(7,iA z)]) (fun z=>[some (1,List.map zz i)]) (fun b=>[]) (fun b=>[]) (fun r env st=>zaD Tryz.prog Tryz.f25 0 (.tup [sA r.1,iA r.2]) [] env st) ho ⟨[.old 0],ce j0 j0<|cv j0 (.msl j0)<|ce j0 j0<|cn,j0,⟨⟨_,j0,zg (fun _=>j0)⟩,j5⟩,j0,j1⟩ ?_ ?_ ?_
 ·
  rintro n r h
  replace h:zam a i n=some r:=h
  unfold zam at h
  refine zl ?_
  refine rg j0<|u<|mv j0<|u<|geq ti3 j0 j0<|zc ?_
  refine zk j0 (fun q=>?_) (fun q=>?_)
  ·
   replace h:=bT q h
   refine zm ?_
   refine zl ?_
   refine zs ?_
   obtain ⟨p,D,h⟩:=bs h
   refine rd [(0,.ipt 4 [[.ipt 2 [[.isl 6 (List.map zb c),.imp (List.map (rKV (fun x=>iA x)) d)]] 0 0,.imp (List.map (rKV (fun x=>iA x)) a),.imp (List.map (rKV (fun x=>.agg (zf x))) e),.isl 1 (List.map zz f)]] 0 0),(6,.msl 0 0 (List.length i)),(7,iA n),(8,iA (Option.getD (zw p a) 0))] [some (1,List.map zz i)] [] [9,8,7,6,5,4,3,2,1,0] [(8,iA (Option.getD (zw p a) 0)),(32,iA (Option.getD (zw p a) 0)),(31,sA p),(30,.mpt 0 (Int.toNat n) 0),(29,iA n),(28,.msl 0 0 (List.length i)),(27,.imp (List.map (rKV (fun x=>iA x)) a)),(26,.ipt 4 [[.ipt 2 [[.isl 6 (List.map zb c),.imp (List.map (rKV (fun x=>iA x)) d)]] 0 0,.imp (List.map (rKV (fun x=>iA x)) a),.imp (List.map (rKV (fun x=>.agg (zf x))) e),.isl 1 (List.map zz f)]] 0 1),(25,.ipt 4 [[.ipt 2 [[.isl 6 (List.map zb c),.imp (List.map (rKV (fun x=>iA x)) d)]] 0 0,.imp (List.map (rKV (fun x=>iA x)) a),.imp (List.map (rKV (fun x=>.agg (zf x))) e),.isl 1 (List.map zz f)]] 0 0),(24,.ipt 4 [[.ipt 2 [[.isl 6 (List.map zb c),.imp (List.map (rKV (fun x=>iA x)) d)]] 0 0,.imp (List.map (rKV (fun x=>iA x)) a),.imp (List.map (rKV (fun x=>.agg (zf x))) e),.isl 1 (List.map zz f)]] 0 0)] 0 (by kernel_rfl) (by kernel_rfl) j0 (by kernel_rfl) (dt0 ⟨(fun _=>pa j0 j0 j0 j0 (asg j0<|j4)),(fun _=>pa j0 j0 j0 j0 (zsq (g:=(fun x=>iA x)) (z:=0) (l:=a) j0 ti3 j0 j0 j0 j0<|j4)),(fun _=>pa j0 j0 j0 j0 (ldM ti9 j0 j0 (zo D).2.2 j0<|j4)),(fun _=>pa j0 j0 j0 j0 (ixM zak j0 ti9 j0 j0 j0 j0 D<|j4)),(fun _=>pa j0 j0 j0 j0 (mv j0<|j4)),(fun _=>pa j0 j0 j0 j0 (mv j0<|j4)),(fun _=>pa j0 j0 j0 j0 (ld zjg j0 j0<|j4)),(fun _=>pa j0 j0 j0 j0 (fa zb6 j0 j0 j0<|j4)),(fun _=>pa j0 j0 j0 j0 (nc j0 j0<|j4)),(fun _=>pa j0 j0 j0 j0 (mv j0<|j4)),j5⟩ (by kernel_rfl) j0 ⟨[.old 0],ce j0 j0<|cv j0 (.msl j0)<|ce j0 j0<|ce j0 j0<|cn,j0,⟨⟨_,j0,zg (fun _=>j0)⟩,j5⟩,j0,j1⟩) ?_
   refine rg j0<|u<|mv j0<|u<|eql ti3 j0 j0<|u<|mv j0<|zdf (j:=2) 2 j0 j0 j0 j0 j0 gpn (fun s=>g j0 s<|mv j0<|g j0 s<|eql ti3 j0 j0<|zc (egO [36,37] 2 s j0 j0 j0 j0)) orT<|zc ?_
   refine zk j0 (fun m=>?_) (fun m=>?_)
   ·
    replace h:=bT m h
    obtain ⟨F,v,h⟩:=bs h
    refine rg j0<|u<|mv j0<|u<|mv j0<|u<|ixM zak j0 ti9 j0 j0 j0 j0 v<|u<|ldM ti9 j0 j0 (zo v).2.2 j0<|u<|mv j0<|u<|asg j0<|u<|asg j0<|zc ?_
    refine zp ?_
    obtain rfl:=sm h
    exact ⟨_,j0,_,j0,[],zer ⟨(ci j0),(ci j0),j5⟩,j0,j5,j0,j1⟩
   ·
    replace h:=bF m h
    refine zm ?_
    refine rl j0<|u<|mv j0<|u<|sub ti3 j0 j0<|u<|asg j0<|zc ?_
    obtain rfl:=sm h
    exact ⟨_,j0,[.old 0],ce j0 j0<|cv j0 (.msl j0)<|ce j0 j0<|cn,j0,⟨⟨_,j0,zg (fun _=>j0)⟩,j5⟩,j0,j1⟩
  ·
   replace h:=bF q h
   refine zB ?_
   obtain rfl:=sm h
   exact ⟨j0,_,j0,[],cn,j0,j5,j0,j1⟩
 ·
  rintro ⟨⟩ rfl
  replace h:zb5=some r:=h
  unfold zb5 at h
  refine zx ?_
  refine rg j0<|u<|asg j0<|u<|asg j0<|zc ?_
  refine zp ?_
  obtain rfl:=sm h
  exact ⟨_,j0,[],zer ⟨(ci j0),(ci j0),j5⟩,j0,j5,j0,j1⟩
 ·
  rintro r' rfl env st hp
  obtain rfl:=sm h
  exact hp
def zgR (a:(List UInt8)×Int):Option (Bool) :=
  some ((a.1 == [])&&(a.2 == (2:Int)))
def zcg (j:List za) (l:List Int) (d:(List (List UInt8))) (c:(List UInt8)×Int) (a:Int):Option (Sum (Int) (Sum (Unit) (Bool))) :=
  cond (decide (0≤a)) ((idx d a).bind fun e=>(zba j e).bind fun f=>(idx l f).bind fun b=>cond ((b == (0:Int))||(b == (3:Int))) ((idx d a).bind fun i=>some (.inr (.inr ((c.1 == i)&&(c.2 == b))))) (some (.inl (IntKind.i64.wrap (a - 1))))) (some (.inr (.inl ())))
def zgh (f:List za) (i:List (List UInt8×Int)) (j:List (List UInt8×Int)) (l:List (List UInt8×ze)) (m:List (List UInt8)) (c:List za) (n:List Int) (d:List UInt8):Option (Bool) :=
  (zbY c d).bind fun e=>(zcL f i j l m d).bind fun a=>(zu (fun z=>zcg c n e a z) (IntKind.i64.wrap (((List.length e):Int) - 1))).bind fun o=>zQ o (fun b=>zgR a) some
theorem zl4 (q:List za) (s:List (List UInt8×Int)) (v:List (List UInt8×Int)) (C:List (List UInt8×ze)) (D:List (List UInt8)) (d:List za) (m:List Int) (n:List UInt8) {r:Bool} (h:zgh q s v C D d m n=some r):zF Tryz.prog 114 [.ipt 4 [[.ipt 2 [[.isl 6 (List.map zb q),.imp (List.map (rKV (fun x=>iA x)) s)]] 0 0,.imp (List.map (rKV (fun x=>iA x)) v),.imp (List.map (rKV (fun x=>.agg (zf x))) C),.isl 1 (List.map zz D)]] 0 0,.ipt 1 [[.isl 6 (List.map zb d)]] 0 0,.isl 1 (List.map (rI .i64) m),sA n] (bA r):=by
 refine zr Tryz.func114 j0 (by kernel_rfl) j0 j0 ?_
 unfold zgh at h
 refine rg j0<|u<|asg j0<|zc ?_
 obtain ⟨p,K,h⟩:=bs h
 refine rg j0<|u<|mv j0<|u<|mv j0<|u<|sc [] (zhk d n K) j0 j0 j0 j0 ⟨(rnI j0),(rnI j0),j5⟩ j5<|zcj (env0:=[(0,.ipt 4 [[.ipt 2 [[.isl 6 (List.map zb q),.imp (List.map (rKV (fun x=>iA x)) s)]] 0 0,.imp (List.map (rKV (fun x=>iA x)) v),.imp (List.map (rKV (fun x=>.agg (zf x))) C),.isl 1 (List.map zz D)]] 0 0),(1,.ipt 1 [[.isl 6 (List.map zb d)]] 0 0),(2,.isl 1 (List.map (rI .i64) m)),(3,sA n),(16,.msl 0 0 (List.length p))]) (st0:=[some (1,List.map zz p)]) ⟨[.old 0],ce j0 j0<|ce j0 j0<|ce j0 j0<|ce j0 j0<|cv j0 (.msl j0)<|cn,j0,⟨⟨_,j0,zg (fun _=>j0)⟩,j5⟩,j0,j1⟩<|u<|asg j0<|zc ?_
 obtain ⟨a,L,h⟩:=bs h
 refine rg j0<|u<|mv j0<|u<|mv j0<|u<|pc (zhl q s v C D n L) j0 j0 j0<|u<|mv j0<|u<|ex j0 j0<|u<|ex j0 j0<|u<|asg j0<|u<|asg j0<|zc ?_
 refine zl ?_
 refine rg j0<|u<|mv j0<|u<|lnM zak j0 j0 j0<|u<|sub ti3 j0 j0<|u<|asg j0<|zc ?_
 obtain ⟨o,ho,h⟩:=bs h
 refine zU (X:=Int) (B:=Unit) (R:=Bool) (fun z=>[(1,.ipt 1 [[.isl 6 (List.map zb d)]] 0 0),(2,.isl 1 (List.map (rI .i64) m)),(9,.msl 0 0 (List.length p)),(10,sA a.1),(11,iA a.2),(12,iA z)]) (fun z=>[some (1,List.map zz p)]) (fun b=>[(10,sA a.1),(11,iA a.2)]) (fun b=>[]) (fun r env st=>zaD Tryz.prog Tryz.f114 0 (bA r) [] env st) ho ⟨[.old 0],ce j0 j0<|ce j0 j0<|cv j0 (.msl j0)<|ce j0 j0<|ce j0 j0<|ce j0 j0<|cn,j0,⟨⟨_,j0,zg (fun _=>j0)⟩,j5⟩,j0,j1⟩ ?_ ?_ ?_
 ·
  rintro H r h
  replace h:zcg d m p a H=some r:=h
  unfold zcg at h
  refine zl ?_
  refine rg j0<|u<|mv j0<|u<|geq ti3 j0 j0<|zc ?_
  refine zk j0 (fun e=>?_) (fun e=>?_)
  ·
   replace h:=bT e h
   refine zm ?_
   refine zl ?_
   refine zs ?_
   obtain ⟨I,E,h⟩:=bs h
   obtain ⟨M,J,h⟩:=bs h
   obtain ⟨N,F,h⟩:=bs h
   refine rg j0<|u<|mv j0<|u<|mv j0<|u<|mv j0<|u<|mv j0<|u<|ixM zak j0 ti9 j0 j0 j0 j0 E<|u<|ldM ti9 j0 j0 (zo E).2.2 j0<|u<|pc (za5 d I J) j0 j0 j0<|u<|ixI zkM j0 ti3 j0 j0 j0 F<|u<|ldI ti3 j0 (zo F).2.2 j0<|u<|asg j0<|zc ?_
   refine rg j0<|u<|mv j0<|u<|eql ti3 j0 j0<|u<|mv j0<|zdf (j:=2) 2 j0 j0 j0 j0 j0 gpn (fun f=>g j0 f<|mv j0<|g j0 f<|eql ti3 j0 j0<|zc (egO [42,43] 2 f j0 j0 j0 j0)) orT<|zc ?_
   refine zk j0 (fun i=>?_) (fun i=>?_)
   ·
    replace h:=bT i h
    obtain ⟨O,G,h⟩:=bs h
    refine rg j0<|u<|mv j0<|u<|mv j0<|u<|mv j0<|u<|ixM zak j0 ti9 j0 j0 j0 j0 G<|u<|ldM ti9 j0 j0 (zo G).2.2 j0<|u<|seq ti9 j0 j0<|u<|mv j0<|z2 (j:=6) 3 j0 j0 j0 j0 j0 gpn (fun c=>g j0 c<|mv j0<|g j0 c<|mv j0<|g j0 c<|eql ti3 j0 j0<|zc (egA [52,53,54] 3 c j0 j0 j0 j0)) zdb<|u<|asg j0<|zc ?_
    refine zp ?_
    obtain rfl:=sm h
    exact ⟨_,j0,_,j0,[],ci j0,j0,j5,j0,j1⟩
   ·
    replace h:=bF i h
    refine zm ?_
    refine rl j0<|u<|mv j0<|u<|sub ti3 j0 j0<|u<|asg j0<|zc ?_
    obtain rfl:=sm h
    exact ⟨_,j0,[.old 0],ce j0 j0<|ce j0 j0<|cv j0 (.msl j0)<|ce j0 j0<|ce j0 j0<|ce j0 j0<|cn,j0,⟨⟨_,j0,zg (fun _=>j0)⟩,j5⟩,j0,j1⟩
  ·
   replace h:=bF e h
   refine zB ?_
   obtain rfl:=sm h
   exact ⟨j0,_,j0,[],ce j0 j0<|ce j0 j0<|cn,j0,j5,j0,j1⟩
 ·
  rintro ⟨⟩ rfl
  replace h:zgR a=some r:=h
  unfold zgR at h
  refine zx ?_
  refine rg j0<|u<|mv j0<|u<|seq ti9 j0 j0<|u<|mv j0<|z2 (j:=2) 2 j0 j0 j0 j0 j0 gpn (fun l=>g j0 l<|mv j0<|g j0 l<|eql ti3 j0 j0<|zc (egA [59,60] 2 l j0 j0 j0 j0)) zdb<|u<|asg j0<|zc ?_
  refine zp ?_
  obtain rfl:=sm h
  exact ⟨_,j0,[],ci j0,j0,j5,j0,j1⟩
 ·
  rintro r' rfl env st hp
  obtain rfl:=sm h
  exact hp
def zcq (e:List za) (f:List (List UInt8×Int)) (i:List (List UInt8×Int)) (a:List (List UInt8×ze)) (j:List (List UInt8)) (c:List UInt8) (d:List UInt8):Option (ze×Bool) :=
  (zeF c d).bind fun b=>some ((Option.getD (zw b a) (ze.mk false 0)),(Option.isSome (zw b a)))
theorem ze7 (c:List za) (d:List (List UInt8×Int)) (e:List (List UInt8×Int)) (a:List (List UInt8×ze)) (f:List (List UInt8)) (i:List UInt8) (j:List UInt8) {r:ze×Bool} (h:zcq c d e a f i j=some r):zF Tryz.prog 94 [.ipt 4 [[.ipt 2 [[.isl 6 (List.map zb c),.imp (List.map (rKV (fun x=>iA x)) d)]] 0 0,.imp (List.map (rKV (fun x=>iA x)) e),.imp (List.map (rKV (fun x=>.agg (zf x))) a),.isl 1 (List.map zz f)]] 0 0,sA i,sA j] (.tup [.agg (zf r.1),bA r.2]):=by
 refine zr Tryz.func94 j0 (by kernel_rfl) j0 j0 ?_
 unfold zcq at h
 refine rg j0<|u<|al 0 zdO j0<|u<|asg j0<|zc ?_
 refine zl ?_
 refine rg j0<|u<|mv j0<|u<|eqp zr2 j0 j0 j0 j0 j0 j0<|zc ?_
 refine zk j0 (fun hx=>by cases hx) (fun _=>?_)
 refine zm ?_
 obtain ⟨b,m,h⟩:=bs h
 refine rd [(6,.mpt 0 0 0),(8,.mpt 1 0 0),(9,bA (Option.isSome (zw b a)))] [some (2,[[bA false,.lit (.int .i32 0)]]),some (2,[[bA ((Option.getD (zw b a) (ze.mk false 0)).Ref),.lit (.int .i32 ((Option.getD (zw b a) (ze.mk false 0)).N))]])] [11,12] [10,9,8,7,6,5,4,3,2,1,0] [(23,bA (Option.isSome (zw b a))),(22,.agg [bA ((Option.getD (zw b a) (ze.mk false 0)).Ref),.lit (.int .i32 ((Option.getD (zw b a) (ze.mk false 0)).N))]),(13,.tup [.agg [bA ((Option.getD (zw b a) (ze.mk false 0)).Ref),.lit (.int .i32 ((Option.getD (zw b a) (ze.mk false 0)).N))],bA (Option.isSome (zw b a))]),(21,.tup [.agg [bA ((Option.getD (zw b a) (ze.mk false 0)).Ref),.lit (.int .i32 ((Option.getD (zw b a) (ze.mk false 0)).N))],bA (Option.isSome (zw b a))]),(20,sA b),(19,sA j),(18,sA i),(17,.imp (List.map (rKV (fun x=>.agg (zf x))) a)),(16,.ipt 4 [[.ipt 2 [[.isl 6 (List.map zb c),.imp (List.map (rKV (fun x=>iA x)) d)]] 0 0,.imp (List.map (rKV (fun x=>iA x)) e),.imp (List.map (rKV (fun x=>.agg (zf x))) a),.isl 1 (List.map zz f)]] 0 2),(15,.ipt 4 [[.ipt 2 [[.isl 6 (List.map zb c),.imp (List.map (rKV (fun x=>iA x)) d)]] 0 0,.imp (List.map (rKV (fun x=>iA x)) e),.imp (List.map (rKV (fun x=>.agg (zf x))) a),.isl 1 (List.map zz f)]] 0 0),(14,.ipt 4 [[.ipt 2 [[.isl 6 (List.map zb c),.imp (List.map (rKV (fun x=>iA x)) d)]] 0 0,.imp (List.map (rKV (fun x=>iA x)) e),.imp (List.map (rKV (fun x=>.agg (zf x))) a),.isl 1 (List.map zz f)]] 0 0)] 2 (by kernel_rfl) (by kernel_rfl) j0 (by kernel_rfl) (dtS ⟨(fun _=>pa j0 j0 j0 j0 (ex j0 j0<|j4)),(fun _=>pa j0 j0 j0 j0 (ex j0 j0<|j4)),(fun _=>pa j0 j0 j0 j0 (mv j0<|j4)),(fun _=>pa j0 j0 j0 j0 (zt5 (g:=(fun x=>.agg (zf x))) (z:=(ze.mk false 0)) (l:=a) j0 zdO j0 j0 j0 j0<|j4)),(fun _=>pa j0 j0 j0 j0 (pc (zdC i j m) j0 j0 j0<|j4)),(fun _=>pa j0 j0 j0 j0 (mv j0<|j4)),(fun _=>pa j0 j0 j0 j0 (mv j0<|j4)),(fun _=>pa j0 j0 j0 j0 (ld zjK j0 j0<|j4)),(fun _=>pa j0 j0 j0 j0 (fa zb6 j0 j0 j0<|j4)),(fun _=>pa j0 j0 j0 j0 (nc j0 j0<|j4)),(fun _=>pa j0 j0 j0 j0 (mv j0<|j4)),j5⟩ (by kernel_rfl) j0 ⟨(fun _ _=>⟨_,j0,j0,al 1 zdO j0<|⟨(.mpt 1 0 0),[],[(8,.mpt 1 0 0)],j0,j0,by kernel_rfl,j0,dtS ⟨(fun _=>pa j0 j0 j0 j0 (ex j0 j0<|j4)),(fun _=>pa j0 j0 j0 j0 (ex j0 j0<|j4)),(fun _=>pa j0 j0 j0 j0 (mv j0<|j4)),(fun _=>pa j0 j0 j0 j0 (zt5 (g:=(fun x=>.agg (zf x))) (z:=(ze.mk false 0)) (l:=a) j0 zdO j0 j0 j0 j0<|j4)),(fun _=>pa j0 j0 j0 j0 (pc (zdC i j m) j0 j0 j0<|j4)),(fun _=>pa j0 j0 j0 j0 (mv j0<|j4)),(fun _=>pa j0 j0 j0 j0 (mv j0<|j4)),(fun _=>pa j0 j0 j0 j0 (ld zjK j0 j0<|j4)),(fun _=>pa j0 j0 j0 j0 (fa zb6 j0 j0 j0<|j4)),(fun _=>pa j0 j0 j0 j0 (nc j0 j0<|j4)),(fun _=>pa j0 j0 j0 j0 (mv j0<|j4)),j5⟩ (by kernel_rfl) j0 ⟨(fun h=>by cases h),(fun _ _=>⟨_,j0,j0,sto zdO j0 j0 j0<|⟨.any,[13],[(9,bA (Option.isSome (zw b a)))],j0,j0,by kernel_rfl,j5,dt0 ⟨(fun _=>pa j0 j0 j0 j0 (asg j0<|j4)),(fun _=>pa j0 j0 j0 j0 (ex j0 j0<|j4)),(fun h=>by cases h),(fun h=>by cases h),(fun h=>by cases h),(fun h=>by cases h),(fun h=>by cases h),(fun h=>by cases h),(fun h=>by cases h),(fun h=>by cases h),(fun h=>by cases h),(fun h=>by cases h),j5⟩ (by kernel_rfl) j0 ⟨[.old 0,.old 1],cv j0 (.mpt j0)<|cv j0 (.mpt j0)<|ce j0 j0<|cn,j0,⟨⟨_,j0,zn (ciL j0)⟩,⟨_,j0,zn (ciL j0)⟩,j5⟩,j0,j1⟩⟩⟩),j5⟩⟩⟩),(fun _ h=>by cases h),j5⟩) ?_
 refine rg j0<|u<|ld zdO j0 j0<|u<|mv j0<|u<|sto zdO j0 j0 j0<|u<|asg j0<|zc ?_
 refine zp ?_
 obtain rfl:=sm h
 exact ⟨_,j0,[],zer ⟨(ci j0),(ci j0),j5⟩,j0,j5,j0,j1⟩
def zeZ (b:(List Int)) (a:Int):Option (Bool) :=
  some (a == ((List.length b):Int))
def zeY (a:Int) (b:Int):Option (Sum (Int×Int) (Sum (Int) (Bool))) :=
  some (.inl (b,(IntKind.i64.wrap (a+1))))
def zcs (a:Int) (b:Int):Option (Sum (Int×Int) (Sum (Int) (Bool))) :=
  some (.inl (b,(IntKind.i64.wrap (a+1))))
def zcW (a:Int) (b:Int) (c:Bool):Option (Sum (Int×Int) (Sum (Int) (Bool))) :=
  cond c (some (.inr (.inr false))) (zcs b (IntKind.i64.wrap (a+1)))
def zcV (d:(List Int)) (a:Int) (b:Int) (c:ze×Bool) (e:Bool):Option (Sum (Int×Int) (Sum (Int) (Bool))) :=
  cond e (some (.inr (.inr false))) (cond c.1.Ref (cond (decide (((List.length d):Int)≤a)) (zcW a b true) ((idx d a).bind fun f=>zcW a b (!(f == (IntKind.i64.wrap ((IntKind.i64.wrap c.1.N) - 1)))))) (zcs b a))
def zby (q:List za) (s:List (List UInt8×Int)) (v:List (List UInt8×Int)) (x:List (List UInt8×ze)) (B:List (List UInt8)) (f:List (List ze)) (i:(List Int)) (e:Int) (c:za) (d:Int) (a:Int):Option (Sum (Int×Int) (Sum (Int) (Bool))) :=
  cond (decide (a < (List.length c.Fields:Int))) ((idx c.Fields a).bind fun j=>(zcq q s v x B c.Name j.Name).bind fun b=>(idx c.Fields a).bind fun l=>cond (!(b.2 == l.Static)) (some (.inr (.inr false))) (cond (!b.2) (zcs a d) ((idx f e).bind fun m=>(idx m a).bind fun n=>cond (!(b.1.Ref == n.Ref)) (zcV i d a b true) ((idx f e).bind fun o=>(idx o a).bind fun p=>zcV i d a b (!(b.1.N == p.N)))))) (some (.inr (.inl d)))
def zcU (f:List za) (i:List (List UInt8×Int)) (j:List (List UInt8×Int)) (l:List (List UInt8×ze)) (m:List (List UInt8)) (n:List (List ze)) (p:(List Int)) (c:Int) (a:Int) (d:za) (e:Bool):Option (Sum (Int×Int) (Sum (Int) (Bool))) :=
  cond e (some (.inr (.inr false))) ((zu (fun z=>zby f i j l m n p a d z.1 z.2) (c,0)).bind fun o=>zQ o (fun b=>zeY a b) (fun r=>some (.inr (.inr r))))
def zbN (d:List za) (e:List (List UInt8×Int)) (f:List (List UInt8×Int)) (i:List (List UInt8×ze)) (j:List (List UInt8)) (l:List za) (m:List Int) (n:List (List ze)) (o:(List Int)) (c:Int) (a:Int):Option (Sum (Int×Int) (Sum (Int) (Bool))) :=
  cond (decide (a < (List.length l:Int))) ((idx l a).bind fun b=>(idx m a).bind fun p=>cond (!((zv d e f i j b.Name) == p)) (zcU d e f i j n o c a b true) ((zgh d e f i j l m b.Name).bind fun q=>zcU d e f i j n o c a b (!q))) (some (.inr (.inl c)))
def zeM (a:List za) (c:List (List UInt8×Int)) (d:List (List UInt8×Int)) (e:List (List UInt8×ze)) (f:List (List UInt8)) (j:List za) (l:List Int) (m:List (List ze)):Option (Bool) :=
  (zb0 a c d e f).bind fun i=>(zu (fun z=>zbN a c d e f j l m i z.1 z.2) (0,0)).bind fun o=>zQ o (fun b=>zeZ i b) some
theorem ziT (i:List za) (j:List (List UInt8×Int)) (l:List (List UInt8×Int)) (m:List (List UInt8×ze)) (n:List (List UInt8)) (G:List za) (F:List Int) (E:List (List ze)) {r:Bool} (h:zeM i j l m n G F E=some r):zF Tryz.prog 32 [.ipt 4 [[.ipt 2 [[.isl 6 (List.map zb i),.imp (List.map (rKV (fun x=>iA x)) j)]] 0 0,.imp (List.map (rKV (fun x=>iA x)) l),.imp (List.map (rKV (fun x=>.agg (zf x))) m),.isl 1 (List.map zz n)]] 0 0,.ipt 1 [[.isl 6 (List.map zb G)]] 0 0,.isl 1 (List.map (rI .i64) F),.isl 1 (List.map (rL 2 zf) E)] (bA r):=by
 refine zr Tryz.func32 j0 (by kernel_rfl) j0 j0 ?_
 unfold zeM at h
 refine rg j0<|u<|asg j0<|zc ?_
 refine rg j0<|u<|asg j0<|zc ?_
 obtain ⟨e,q1,h⟩:=bs h
 refine rg j0<|u<|mv j0<|u<|sc [] (zhm i j l m n q1) j0 j0 j0 j0 ⟨(rnI j0),j5⟩ j5<|zcj (env0:=[(0,.ipt 4 [[.ipt 2 [[.isl 6 (List.map zb i),.imp (List.map (rKV (fun x=>iA x)) j)]] 0 0,.imp (List.map (rKV (fun x=>iA x)) l),.imp (List.map (rKV (fun x=>.agg (zf x))) m),.isl 1 (List.map zz n)]] 0 0),(1,.ipt 1 [[.isl 6 (List.map zb G)]] 0 0),(2,.isl 1 (List.map (rI .i64) F)),(3,.isl 1 (List.map (rL 2 zf) E)),(9,iA 0),(17,.msl 0 0 (List.length e))]) (st0:=[some (1,List.map (rI .i64) e)]) ⟨[.old 0],ce j0 j0<|ce j0 j0<|ce j0 j0<|ce j0 j0<|ce j0 j0<|cv j0 (.msl j0)<|cn,j0,⟨⟨_,j0,zg (fun _=>j0)⟩,j5⟩,j0,j1⟩<|u<|asg j0<|zc ?_
 refine zl ?_
 refine rg j0<|u<|asg j0<|zc ?_
 obtain ⟨o,ho,h⟩:=bs h
 refine zU (X:=Int×Int) (B:=Int) (R:=Bool) (fun z=>[(0,.ipt 4 [[.ipt 2 [[.isl 6 (List.map zb i),.imp (List.map (rKV (fun x=>iA x)) j)]] 0 0,.imp (List.map (rKV (fun x=>iA x)) l),.imp (List.map (rKV (fun x=>.agg (zf x))) m),.isl 1 (List.map zz n)]] 0 0),(1,.ipt 1 [[.isl 6 (List.map zb G)]] 0 0),(2,.isl 1 (List.map (rI .i64) F)),(3,.isl 1 (List.map (rL 2 zf) E)),(9,iA z.1),(10,.msl 0 0 (List.length e)),(11,iA z.2)]) (fun z=>[some (1,List.map (rI .i64) e)]) (fun b=>[(9,iA b),(10,.msl 0 0 (List.length e))]) (fun b=>[some (1,List.map (rI .i64) e)]) (fun r env st=>zaD Tryz.prog Tryz.f32 0 (bA r) [] env st) ho ⟨[.old 0],ce j0 j0<|ce j0 j0<|ce j0 j0<|ce j0 j0<|ce j0 j0<|cv j0 (.msl j0)<|ce j0 j0<|cn,j0,⟨⟨_,j0,zg (fun _=>j0)⟩,j5⟩,j0,j1⟩ ?_ ?_ ?_
 ·
  rintro ⟨U,C⟩ r h
  replace h:zbN i j l m n G F E e U C=some r:=h
  unfold zbN at h
  refine zl ?_
  refine rg j0<|u<|mv j0<|u<|mv j0<|u<|nc j0 j0<|u<|fa zha j0 j0 j0<|u<|ld zbl j0 j0<|u<|lnI zbl j0 j0<|u<|lss ti3 j0 j0<|zc ?_
  refine zk j0 (fun K=>?_) (fun K=>?_)
  ·
   replace h:=bT K h
   refine zm ?_
   refine zl ?_
   refine zs ?_
   obtain ⟨c,q41,h⟩:=bs h
   refine rg j0<|u<|mv j0<|u<|nc j0 j0<|u<|fa zha j0 j0 j0<|u<|ld zbl j0 j0<|u<|mv j0<|u<|ixI zbl j0 zS j0 j0 j0 q41<|u<|ldI zS j0 (zo q41).2.2 j0<|u<|al 1 zS j0<|u<|sto zS j0 j0 j0<|zc ?_
   refine zl ?_
   refine zb3 (X:=Bool) (fun z=>[(0,.ipt 4 [[.ipt 2 [[.isl 6 (List.map zb i),.imp (List.map (rKV (fun x=>iA x)) j)]] 0 0,.imp (List.map (rKV (fun x=>iA x)) l),.imp (List.map (rKV (fun x=>.agg (zf x))) m),.isl 1 (List.map zz n)]] 0 0),(1,.ipt 1 [[.isl 6 (List.map zb G)]] 0 0),(2,.isl 1 (List.map (rI .i64) F)),(3,.isl 1 (List.map (rL 2 zf) E)),(9,iA U),(10,.msl 0 0 (List.length e)),(11,iA C),(12,.mpt 1 0 0),(51,bA z)]) (fun z=>[some (1,List.map (rI .i64) e),some (6,[(zb c)])]) (fun z=>zcU i j l m n E e U C c z=some r) ?_ ?_
   ·
    obtain ⟨D,H,h⟩:=bs h
    rcases bb (!((zv i j l m n c.Name) == D)) with s | s
    ·
     replace h:=bT s h
     exact zI [3] [7,6,5,4,2,1,0] [(41,iA D),(40,.ipt 1 (List.map (rI .i64) F) (Int.toNat C) 0),(39,iA C),(38,.isl 1 (List.map (rI .i64) F)),(36,sA c.Name),(35,.mpt 1 0 0),(34,.ipt 4 [[.ipt 2 [[.isl 6 (List.map zb i),.imp (List.map (rKV (fun x=>iA x)) j)]] 0 0,.imp (List.map (rKV (fun x=>iA x)) l),.imp (List.map (rKV (fun x=>.agg (zf x))) m),.isl 1 (List.map zz n)]] 0 0)] 1 (by kernel_rfl) (by kernel_rfl) j0 (by kernel_rfl) (dtS ⟨(fun _=>pa j0 j0 j0 j0 (ldI ti3 j0 (zo H).2.2 j0<|j4)),(fun _=>pa j0 j0 j0 j0 (ixI zkM j0 ti3 j0 j0 j0 H<|j4)),(fun _=>pa j0 j0 j0 j0 (mv j0<|j4)),(fun _=>pa j0 j0 j0 j0 (mv j0<|j4)),(fun _=>pa j0 j0 j0 j0 (ld ti9 j0 j0<|j4)),(fun _=>pa j0 j0 j0 j0 (fa zS j0 j0 j0<|j4)),(fun _=>pa j0 j0 j0 j0 (mv j0<|j4)),j5⟩ (by kernel_rfl) j0 ⟨(fun _ _=>⟨_,j0,j0,pc (zfh i j l m n c.Name j0) j0 j0 j0<|⟨(iA (zv i j l m n c.Name)),[17,16,15,14,13,12,11,10,9,8],[(51,bA true),(50,.lit undef),(49,.lit undef),(48,.lit undef),(47,.lit undef),(46,.lit undef),(45,.lit undef),(44,.lit undef),(43,bA (!((zv i j l m n c.Name) == D))),(42,bA (!((zv i j l m n c.Name) == D))),(37,iA (zv i j l m n c.Name))],j0,j0,by kernel_rfl,j0,dt0 ⟨(fun _=>pa j0 j0 j0 j0 (pkb j0 s j0<|j4)),(fun _=>pas (b:=(!((zv i j l m n c.Name) == D))) j0 j0 j0 j0 s j0),(fun _=>pas (b:=(!((zv i j l m n c.Name) == D))) j0 j0 j0 j0 s j0),(fun _=>pas (b:=(!((zv i j l m n c.Name) == D))) j0 j0 j0 j0 s j0),(fun _=>pas (b:=(!((zv i j l m n c.Name) == D))) j0 j0 j0 j0 s j0),(fun _=>pas (b:=(!((zv i j l m n c.Name) == D))) j0 j0 j0 j0 s j0),(fun _=>pas (b:=(!((zv i j l m n c.Name) == D))) j0 j0 j0 j0 s j0),(fun _=>pas (b:=(!((zv i j l m n c.Name) == D))) j0 j0 j0 j0 s j0),(fun _=>pa j0 j0 j0 j0 (mv j0<|j4)),(fun _=>pa j0 j0 j0 j0 (neq ti3 j0 j0<|j4)),(fun _=>pa j0 j0 j0 j0 (ldI ti3 j0 (zo H).2.2 j0<|j4)),(fun _=>pa j0 j0 j0 j0 (ixI zkM j0 ti3 j0 j0 j0 H<|j4)),(fun _=>pa j0 j0 j0 j0 (mv j0<|j4)),(fun _=>pa j0 j0 j0 j0 (mv j0<|j4)),(fun h=>by cases h),(fun _=>pa j0 j0 j0 j0 (fa zS j0 j0 j0<|j4)),(fun h=>by cases h),j5⟩ (by kernel_rfl) j0 ⟨true,h,[.old 0,.old 1],ce j0 j0<|ce j0 j0<|ce j0 j0<|ce j0 j0<|ce j0 j0<|cv j0 (.msl j0)<|ce j0 j0<|cv j0 (.mpt j0)<|ce j0 j0<|cn,j0,⟨⟨_,j0,zg (fun _=>j0)⟩,⟨_,j0,zn (ciL j0)⟩,j5⟩,j0,j1⟩⟩⟩),j5⟩)
    ·
     replace h:=bF s h
     obtain ⟨V,q44,h⟩:=bs h
     exact zI [3] [7,6,5,4,2,1,0] [(41,iA D),(40,.ipt 1 (List.map (rI .i64) F) (Int.toNat C) 0),(39,iA C),(38,.isl 1 (List.map (rI .i64) F)),(36,sA c.Name),(35,.mpt 1 0 0),(34,.ipt 4 [[.ipt 2 [[.isl 6 (List.map zb i),.imp (List.map (rKV (fun x=>iA x)) j)]] 0 0,.imp (List.map (rKV (fun x=>iA x)) l),.imp (List.map (rKV (fun x=>.agg (zf x))) m),.isl 1 (List.map zz n)]] 0 0)] 1 (by kernel_rfl) (by kernel_rfl) j0 (by kernel_rfl) (dtS ⟨(fun _=>pa j0 j0 j0 j0 (ldI ti3 j0 (zo H).2.2 j0<|j4)),(fun _=>pa j0 j0 j0 j0 (ixI zkM j0 ti3 j0 j0 j0 H<|j4)),(fun _=>pa j0 j0 j0 j0 (mv j0<|j4)),(fun _=>pa j0 j0 j0 j0 (mv j0<|j4)),(fun _=>pa j0 j0 j0 j0 (ld ti9 j0 j0<|j4)),(fun _=>pa j0 j0 j0 j0 (fa zS j0 j0 j0<|j4)),(fun _=>pa j0 j0 j0 j0 (mv j0<|j4)),j5⟩ (by kernel_rfl) j0 ⟨(fun _ _=>⟨_,j0,j0,pc (zfh i j l m n c.Name j0) j0 j0 j0<|⟨(iA (zv i j l m n c.Name)),[17,16,15,14,13,12,11,10,9,8],[(51,bA (!V)),(50,bA (!V)),(49,bA V),(48,sA c.Name),(47,.mpt 1 0 0),(46,.isl 1 (List.map (rI .i64) F)),(45,.ipt 1 [[.isl 6 (List.map zb G)]] 0 0),(44,.ipt 4 [[.ipt 2 [[.isl 6 (List.map zb i),.imp (List.map (rKV (fun x=>iA x)) j)]] 0 0,.imp (List.map (rKV (fun x=>iA x)) l),.imp (List.map (rKV (fun x=>.agg (zf x))) m),.isl 1 (List.map zz n)]] 0 0),(43,bA (!((zv i j l m n c.Name) == D))),(42,bA (!((zv i j l m n c.Name) == D))),(37,iA (zv i j l m n c.Name))],j0,j0,by kernel_rfl,j0,dt0 ⟨(fun _=>pa j0 j0 j0 j0 (pkb j0 s j0<|j4)),(fun _=>pag (b:=(!((zv i j l m n c.Name) == D))) j0 j0 j0 j0 s j0 (nt j0<|j4)),(fun _=>pag (b:=(!((zv i j l m n c.Name) == D))) j0 j0 j0 j0 s j0 (pc (zl4 i j l m n G F c.Name q44) j0 j0 j0<|j4)),(fun _=>pag (b:=(!((zv i j l m n c.Name) == D))) j0 j0 j0 j0 s j0 (ld ti9 j0 j0<|j4)),(fun _=>pag (b:=(!((zv i j l m n c.Name) == D))) j0 j0 j0 j0 s j0 (fa zS j0 j0 j0<|j4)),(fun _=>pag (b:=(!((zv i j l m n c.Name) == D))) j0 j0 j0 j0 s j0 (mv j0<|j4)),(fun _=>pag (b:=(!((zv i j l m n c.Name) == D))) j0 j0 j0 j0 s j0 (mv j0<|j4)),(fun _=>pag (b:=(!((zv i j l m n c.Name) == D))) j0 j0 j0 j0 s j0 (mv j0<|j4)),(fun _=>pa j0 j0 j0 j0 (mv j0<|j4)),(fun _=>pa j0 j0 j0 j0 (neq ti3 j0 j0<|j4)),(fun _=>pa j0 j0 j0 j0 (ldI ti3 j0 (zo H).2.2 j0<|j4)),(fun _=>pa j0 j0 j0 j0 (ixI zkM j0 ti3 j0 j0 j0 H<|j4)),(fun _=>pa j0 j0 j0 j0 (mv j0<|j4)),(fun _=>pa j0 j0 j0 j0 (mv j0<|j4)),(fun h=>by cases h),(fun _=>pa j0 j0 j0 j0 (fa zS j0 j0 j0<|j4)),(fun h=>by cases h),j5⟩ (by kernel_rfl) j0 ⟨(!V),h,[.old 0,.old 1],ce j0 j0<|ce j0 j0<|ce j0 j0<|ce j0 j0<|ce j0 j0<|cv j0 (.msl j0)<|ce j0 j0<|cv j0 (.mpt j0)<|ce j0 j0<|cn,j0,⟨⟨_,j0,zg (fun _=>j0)⟩,⟨_,j0,zn (ciL j0)⟩,j5⟩,j0,j1⟩⟩⟩),j5⟩)
   ·
    rintro v48 h
    replace h:zcU i j l m n E e U C c v48=some r:=h
    unfold zcU at h
    refine zk j0 (fun L=>?_) (fun L=>?_)
    ·
     replace h:=bT L h
     refine rg j0<|u<|asg j0<|zc ?_
     refine zp ?_
     obtain rfl:=sm h
     exact ⟨_,j0,_,j0,[],ci j0,j0,j5,j0,j1⟩
    ·
     replace h:=bF L h
     refine zm ?_
     refine rg j0<|u<|asg j0<|zc ?_
     obtain ⟨o,ho,h⟩:=bs h
     refine zU (X:=Int×Int) (B:=Int) (R:=Bool) (fun z=>[(0,.ipt 4 [[.ipt 2 [[.isl 6 (List.map zb i),.imp (List.map (rKV (fun x=>iA x)) j)]] 0 0,.imp (List.map (rKV (fun x=>iA x)) l),.imp (List.map (rKV (fun x=>.agg (zf x))) m),.isl 1 (List.map zz n)]] 0 0),(1,.ipt 1 [[.isl 6 (List.map zb G)]] 0 0),(2,.isl 1 (List.map (rI .i64) F)),(3,.isl 1 (List.map (rL 2 zf) E)),(9,iA z.1),(10,.msl 0 0 (List.length e)),(11,iA C),(12,.mpt 1 0 0),(13,iA z.2)]) (fun z=>[some (1,List.map (rI .i64) e),some (6,[(zb c)])]) (fun b=>[(0,.ipt 4 [[.ipt 2 [[.isl 6 (List.map zb i),.imp (List.map (rKV (fun x=>iA x)) j)]] 0 0,.imp (List.map (rKV (fun x=>iA x)) l),.imp (List.map (rKV (fun x=>.agg (zf x))) m),.isl 1 (List.map zz n)]] 0 0),(1,.ipt 1 [[.isl 6 (List.map zb G)]] 0 0),(2,.isl 1 (List.map (rI .i64) F)),(3,.isl 1 (List.map (rL 2 zf) E)),(9,iA b),(10,.msl 0 0 (List.length e)),(11,iA C)]) (fun b=>[some (1,List.map (rI .i64) e)]) (fun r env st=>zaD Tryz.prog Tryz.f32 0 (bA r) [] env st) ho ⟨[.old 0,.old 1],ce j0 j0<|ce j0 j0<|ce j0 j0<|ce j0 j0<|ce j0 j0<|cv j0 (.msl j0)<|ce j0 j0<|cv j0 (.mpt j0)<|ce j0 j0<|cn,j0,⟨⟨_,j0,zg (fun _=>j0)⟩,⟨_,j0,zn (ciL j0)⟩,j5⟩,j0,j1⟩ ?_ ?_ ?_
     ·
      rintro ⟨d,v⟩ r h
      replace h:zby i j l m n E e C c d v=some r:=h
      unfold zby at h
      refine zl ?_
      refine rg j0<|u<|mv j0<|u<|fa zS j0 j0 j0<|u<|ld zes j0 j0<|u<|lnI zes j0 j0<|u<|lss ti3 j0 j0<|zc ?_
      refine zk j0 (fun M=>?_) (fun M=>?_)
      ·
       replace h:=bT M h
       refine zm ?_
       refine zb3 (X:=Int) (fun z=>[(0,.ipt 4 [[.ipt 2 [[.isl 6 (List.map zb i),.imp (List.map (rKV (fun x=>iA x)) j)]] 0 0,.imp (List.map (rKV (fun x=>iA x)) l),.imp (List.map (rKV (fun x=>.agg (zf x))) m),.isl 1 (List.map zz n)]] 0 0),(1,.ipt 1 [[.isl 6 (List.map zb G)]] 0 0),(2,.isl 1 (List.map (rI .i64) F)),(3,.isl 1 (List.map (rL 2 zf) E)),(9,iA z),(10,.msl 0 0 (List.length e)),(11,iA C),(12,.mpt 1 0 0),(13,iA v)]) (fun z=>[some (1,List.map (rI .i64) e),some (6,[(zb c)])]) (fun z=>zcs v z=some r) ?_ ?_
       ·
        refine zs ?_
        obtain ⟨v64,I,h⟩:=bs h
        obtain ⟨a,q64,h⟩:=bs h
        refine rd [(0,.ipt 4 [[.ipt 2 [[.isl 6 (List.map zb i),.imp (List.map (rKV (fun x=>iA x)) j)]] 0 0,.imp (List.map (rKV (fun x=>iA x)) l),.imp (List.map (rKV (fun x=>.agg (zf x))) m),.isl 1 (List.map zz n)]] 0 0),(1,.ipt 1 [[.isl 6 (List.map zb G)]] 0 0),(2,.isl 1 (List.map (rI .i64) F)),(3,.isl 1 (List.map (rL 2 zf) E)),(9,iA d),(10,.msl 0 0 (List.length e)),(11,iA C),(12,.mpt 1 0 0),(13,iA v),(14,.mpt 2 0 0),(15,bA a.2)] [some (1,List.map (rI .i64) e),some (6,[(zb c)]),some (2,[(zf a.1)])] [9,13,14] [8,7,6,5,4,3,2,1,0] [(68,sA v64.Name),(67,.ipt 3 (List.map zW c.Fields) (Int.toNat v) 0),(66,.ipt 3 (List.map zW c.Fields) (Int.toNat v) 0),(65,iA v),(64,.isl 3 (List.map zW c.Fields)),(63,.mpt 1 0 4),(62,sA c.Name),(61,.mpt 1 0 0),(60,.ipt 4 [[.ipt 2 [[.isl 6 (List.map zb i),.imp (List.map (rKV (fun x=>iA x)) j)]] 0 0,.imp (List.map (rKV (fun x=>iA x)) l),.imp (List.map (rKV (fun x=>.agg (zf x))) m),.isl 1 (List.map zz n)]] 0 0)] 3 (by kernel_rfl) (by kernel_rfl) j0 (by kernel_rfl) (dtS ⟨(fun _=>pa j0 j0 j0 j0 (ldI ti9 j0 (zo I).2.2 j0<|j4)),(fun _=>pa j0 j0 j0 j0 (fa zcG j0 j0 j0<|j4)),(fun _=>pa j0 j0 j0 j0 (ixI zes j0 zcG j0 j0 j0 I<|j4)),(fun _=>pa j0 j0 j0 j0 (mv j0<|j4)),(fun _=>pa j0 j0 j0 j0 (ld zes j0 j0<|j4)),(fun _=>pa j0 j0 j0 j0 (fa zS j0 j0 j0<|j4)),(fun _=>pa j0 j0 j0 j0 (ld ti9 j0 j0<|j4)),(fun _=>pa j0 j0 j0 j0 (fa zS j0 j0 j0<|j4)),(fun _=>pa j0 j0 j0 j0 (mv j0<|j4)),j5⟩ (by kernel_rfl) j0 ⟨(fun _ _=>⟨_,j0,j0,pc (ze7 i j l m n c.Name v64.Name q64) j0 j0 j0<|⟨(.tup [.agg (zf a.1),bA a.2]),[12,11,10],[(71,bA a.2),(70,.agg (zf a.1)),(59,.tup [.agg (zf a.1),bA a.2]),(69,.tup [.agg (zf a.1),bA a.2])],j0,j0,by kernel_rfl,j0,dtS ⟨(fun _=>pa j0 j0 j0 j0 (ex j0 j0<|j4)),(fun _=>pa j0 j0 j0 j0 (ex j0 j0<|j4)),(fun _=>pa j0 j0 j0 j0 (mv j0<|j4)),(fun h=>by cases h),(fun _=>pa j0 j0 j0 j0 (fa zcG j0 j0 j0<|j4)),(fun _=>pa j0 j0 j0 j0 (ixI zes j0 zcG j0 j0 j0 I<|j4)),(fun _=>pa j0 j0 j0 j0 (mv j0<|j4)),(fun _=>pa j0 j0 j0 j0 (ld zes j0 j0<|j4)),(fun _=>pa j0 j0 j0 j0 (fa zS j0 j0 j0<|j4)),(fun h=>by cases h),(fun _=>pa j0 j0 j0 j0 (fa zS j0 j0 j0<|j4)),(fun h=>by cases h),j5⟩ (by kernel_rfl) j0 ⟨(fun h=>by cases h),(fun _ _=>⟨_,j0,j0,al 2 zdO j0<|⟨(.mpt 2 0 0),[],[(14,.mpt 2 0 0)],j0,j0,by kernel_rfl,j0,dtS ⟨(fun _=>pa j0 j0 j0 j0 (ex j0 j0<|j4)),(fun _=>pa j0 j0 j0 j0 (ex j0 j0<|j4)),(fun _=>pa j0 j0 j0 j0 (mv j0<|j4)),(fun h=>by cases h),(fun _=>pa j0 j0 j0 j0 (fa zcG j0 j0 j0<|j4)),(fun _=>pa j0 j0 j0 j0 (ixI zes j0 zcG j0 j0 j0 I<|j4)),(fun _=>pa j0 j0 j0 j0 (mv j0<|j4)),(fun _=>pa j0 j0 j0 j0 (ld zes j0 j0<|j4)),(fun _=>pa j0 j0 j0 j0 (fa zS j0 j0 j0<|j4)),(fun h=>by cases h),(fun _=>pa j0 j0 j0 j0 (fa zS j0 j0 j0<|j4)),(fun h=>by cases h),j5⟩ (by kernel_rfl) j0 ⟨(fun h=>by cases h),(fun h=>by cases h),(fun _ _=>⟨_,j0,j0,sto zdO j0 j0 j0<|⟨.any,[15],[(15,bA a.2)],j0,j0,by kernel_rfl,j5,dt0 ⟨(fun _=>pa j0 j0 j0 j0 (asg j0<|j4)),(fun _=>pa j0 j0 j0 j0 (ex j0 j0<|j4)),(fun h=>by cases h),(fun h=>by cases h),(fun h=>by cases h),(fun h=>by cases h),(fun h=>by cases h),(fun h=>by cases h),(fun h=>by cases h),(fun h=>by cases h),(fun h=>by cases h),(fun h=>by cases h),(fun h=>by cases h),j5⟩ (by kernel_rfl) j0 ⟨[.old 0,.old 1,.old 2],ce j0 j0<|ce j0 j0<|ce j0 j0<|ce j0 j0<|ce j0 j0<|cv j0 (.msl j0)<|ce j0 j0<|cv j0 (.mpt j0)<|ce j0 j0<|cv j0 (.mpt j0)<|ce j0 j0<|cn,j0,⟨⟨_,j0,zg (fun _=>j0)⟩,⟨_,j0,zn (ciL j0)⟩,⟨_,j0,zn (ciL j0)⟩,j5⟩,j0,j1⟩⟩⟩),j5⟩⟩⟩),(fun _ h=>by cases h),j5⟩⟩⟩),(fun _ _=>⟨_,j0,j0,al 2 zdO j0<|⟨(.mpt 2 0 0),[],[(14,.mpt 2 0 0)],j0,j0,by kernel_rfl,j0,dtS ⟨(fun _=>pa j0 j0 j0 j0 (ldI ti9 j0 (zo I).2.2 j0<|j4)),(fun _=>pa j0 j0 j0 j0 (fa zcG j0 j0 j0<|j4)),(fun _=>pa j0 j0 j0 j0 (ixI zes j0 zcG j0 j0 j0 I<|j4)),(fun _=>pa j0 j0 j0 j0 (mv j0<|j4)),(fun _=>pa j0 j0 j0 j0 (ld zes j0 j0<|j4)),(fun _=>pa j0 j0 j0 j0 (fa zS j0 j0 j0<|j4)),(fun _=>pa j0 j0 j0 j0 (ld ti9 j0 j0<|j4)),(fun _=>pa j0 j0 j0 j0 (fa zS j0 j0 j0<|j4)),(fun _=>pa j0 j0 j0 j0 (mv j0<|j4)),j5⟩ (by kernel_rfl) j0 ⟨(fun _ _=>⟨_,j0,j0,pc (ze7 i j l m n c.Name v64.Name q64) j0 j0 j0<|⟨(.tup [.agg (zf a.1),bA a.2]),[12,11,10],[(71,bA a.2),(70,.agg (zf a.1)),(59,.tup [.agg (zf a.1),bA a.2]),(69,.tup [.agg (zf a.1),bA a.2])],j0,j0,by kernel_rfl,j0,dtS ⟨(fun _=>pa j0 j0 j0 j0 (ex j0 j0<|j4)),(fun _=>pa j0 j0 j0 j0 (ex j0 j0<|j4)),(fun _=>pa j0 j0 j0 j0 (mv j0<|j4)),(fun h=>by cases h),(fun _=>pa j0 j0 j0 j0 (fa zcG j0 j0 j0<|j4)),(fun _=>pa j0 j0 j0 j0 (ixI zes j0 zcG j0 j0 j0 I<|j4)),(fun _=>pa j0 j0 j0 j0 (mv j0<|j4)),(fun _=>pa j0 j0 j0 j0 (ld zes j0 j0<|j4)),(fun _=>pa j0 j0 j0 j0 (fa zS j0 j0 j0<|j4)),(fun h=>by cases h),(fun _=>pa j0 j0 j0 j0 (fa zS j0 j0 j0<|j4)),(fun h=>by cases h),j5⟩ (by kernel_rfl) j0 ⟨(fun h=>by cases h),(fun h=>by cases h),(fun _ _=>⟨_,j0,j0,sto zdO j0 j0 j0<|⟨.any,[15],[(15,bA a.2)],j0,j0,by kernel_rfl,j5,dt0 ⟨(fun _=>pa j0 j0 j0 j0 (asg j0<|j4)),(fun _=>pa j0 j0 j0 j0 (ex j0 j0<|j4)),(fun h=>by cases h),(fun h=>by cases h),(fun h=>by cases h),(fun h=>by cases h),(fun h=>by cases h),(fun h=>by cases h),(fun h=>by cases h),(fun h=>by cases h),(fun h=>by cases h),(fun h=>by cases h),(fun h=>by cases h),j5⟩ (by kernel_rfl) j0 ⟨[.old 0,.old 1,.old 2],ce j0 j0<|ce j0 j0<|ce j0 j0<|ce j0 j0<|ce j0 j0<|cv j0 (.msl j0)<|ce j0 j0<|cv j0 (.mpt j0)<|ce j0 j0<|cv j0 (.mpt j0)<|ce j0 j0<|cn,j0,⟨⟨_,j0,zg (fun _=>j0)⟩,⟨_,j0,zn (ciL j0)⟩,⟨_,j0,zn (ciL j0)⟩,j5⟩,j0,j1⟩⟩⟩),j5⟩⟩⟩),(fun h=>by cases h),(fun _ h=>by cases h),j5⟩⟩⟩),(fun _ h=>by cases h),j5⟩) ?_
        refine zl ?_
        obtain ⟨v66,q65,h⟩:=bs h
        refine rg j0<|u<|mv j0<|u<|fa zS j0 j0 j0<|u<|ld zes j0 j0<|u<|mv j0<|u<|ixI zes j0 zcG j0 j0 j0 q65<|u<|fa zcG j0 j0 j0<|u<|ldI ti4 j0 (zo q65).2.2 j0<|u<|bne ti4 j0 j0 j0<|zc ?_
        refine zk j0 (fun O=>?_) (fun O=>?_)
        ·
         replace h:=bT O h
         refine rg j0<|u<|asg j0<|zc ?_
         refine zp ?_
         obtain rfl:=sm h
         exact ⟨_,j0,_,j0,[],ci j0,j0,j5,j0,j1⟩
        ·
         replace h:=bF O h
         refine zm ?_
         refine zl ?_
         refine rg j0<|u<|mv j0<|u<|nt j0<|zc ?_
         refine zk j0 (fun P=>?_) (fun P=>?_)
         ·
          replace h:=bT P h
          refine zB ?_
          exact ⟨d,h,[.old 0,.old 1],ce j0 j0<|ce j0 j0<|ce j0 j0<|ce j0 j0<|ce j0 j0<|cv j0 (.msl j0)<|ce j0 j0<|cv j0 (.mpt j0)<|ce j0 j0<|cn,j0,⟨⟨_,j0,zg (fun _=>j0)⟩,⟨_,j0,zn (ciL j0)⟩,j5⟩,j0,j1⟩
         ·
          replace h:=bF P h
          refine zm ?_
          refine zl ?_
          refine zb3 (X:=Bool) (fun z=>[(0,.ipt 4 [[.ipt 2 [[.isl 6 (List.map zb i),.imp (List.map (rKV (fun x=>iA x)) j)]] 0 0,.imp (List.map (rKV (fun x=>iA x)) l),.imp (List.map (rKV (fun x=>.agg (zf x))) m),.isl 1 (List.map zz n)]] 0 0),(1,.ipt 1 [[.isl 6 (List.map zb G)]] 0 0),(2,.isl 1 (List.map (rI .i64) F)),(3,.isl 1 (List.map (rL 2 zf) E)),(9,iA d),(10,.msl 0 0 (List.length e)),(11,iA C),(12,.mpt 1 0 0),(13,iA v),(14,.mpt 2 0 0),(105,bA z)]) (fun z=>[some (1,List.map (rI .i64) e),some (6,[(zb c)]),some (2,[(zf a.1)])]) (fun z=>zcV e d v a z=some r) ?_ ?_
          ·
           obtain ⟨J,W,h⟩:=bs h
           obtain ⟨q,Y,h⟩:=bs h
           rcases bb (!(a.1.Ref == q.Ref)) with f | f
           ·
            replace h:=bT f h
            exact zI [] [23,22,21,20,19,18,17,16,15,14,13,12,11,10,9,8,7,6,5,4,3,2,1,0] [(105,bA true),(104,.lit undef),(103,.lit undef),(102,.lit undef),(101,.lit undef),(100,.lit undef),(99,.lit undef),(98,.lit undef),(97,.lit undef),(96,.lit undef),(95,.lit undef),(94,.lit undef),(93,bA (!(a.1.Ref == q.Ref))),(92,bA (!(a.1.Ref == q.Ref))),(91,bA q.Ref),(90,.ipt 2 (List.map zf J) (Int.toNat v) 0),(89,.ipt 2 (List.map zf J) (Int.toNat v) 0),(88,iA v),(87,.isl 2 (List.map zf J)),(86,.ipt 1 (List.map (rL 2 zf) E) (Int.toNat C) 0),(85,iA C),(84,.isl 1 (List.map (rL 2 zf) E)),(83,bA a.1.Ref),(82,.mpt 2 0 0)] 0 (by kernel_rfl) (by kernel_rfl) j0 (by kernel_rfl) (dt0 ⟨(fun _=>pa j0 j0 j0 j0 (pkb j0 f j0<|j4)),(fun _=>pas (b:=(!(a.1.Ref == q.Ref))) j0 j0 j0 j0 f j0),(fun _=>pas (b:=(!(a.1.Ref == q.Ref))) j0 j0 j0 j0 f j0),(fun _=>pas (b:=(!(a.1.Ref == q.Ref))) j0 j0 j0 j0 f j0),(fun _=>pas (b:=(!(a.1.Ref == q.Ref))) j0 j0 j0 j0 f j0),(fun _=>pas (b:=(!(a.1.Ref == q.Ref))) j0 j0 j0 j0 f j0),(fun _=>pas (b:=(!(a.1.Ref == q.Ref))) j0 j0 j0 j0 f j0),(fun _=>pas (b:=(!(a.1.Ref == q.Ref))) j0 j0 j0 j0 f j0),(fun _=>pas (b:=(!(a.1.Ref == q.Ref))) j0 j0 j0 j0 f j0),(fun _=>pas (b:=(!(a.1.Ref == q.Ref))) j0 j0 j0 j0 f j0),(fun _=>pas (b:=(!(a.1.Ref == q.Ref))) j0 j0 j0 j0 f j0),(fun _=>pas (b:=(!(a.1.Ref == q.Ref))) j0 j0 j0 j0 f j0),(fun _=>pa j0 j0 j0 j0 (mv j0<|j4)),(fun _=>pa j0 j0 j0 j0 (bne ti4 j0 j0 j0<|j4)),(fun _=>pa j0 j0 j0 j0 (ldI ti4 j0 (zo Y).2.2 j0<|j4)),(fun _=>pa j0 j0 j0 j0 (fa zdO j0 j0 j0<|j4)),(fun _=>pa j0 j0 j0 j0 (ixI zf7 j0 zdO j0 j0 j0 Y<|j4)),(fun _=>pa j0 j0 j0 j0 (mv j0<|j4)),(fun _=>pa j0 j0 j0 j0 (ldI zf7 j0 (zo W).2.2 j0<|j4)),(fun _=>pa j0 j0 j0 j0 (ixI zpf j0 zf7 j0 j0 j0 W<|j4)),(fun _=>pa j0 j0 j0 j0 (mv j0<|j4)),(fun _=>pa j0 j0 j0 j0 (mv j0<|j4)),(fun _=>pa j0 j0 j0 j0 (ld ti4 j0 j0<|j4)),(fun _=>pa j0 j0 j0 j0 (fa zdO j0 j0 j0<|j4)),j5⟩ (by kernel_rfl) j0 ⟨true,h,[.old 0,.old 1,.old 2],ce j0 j0<|ce j0 j0<|ce j0 j0<|ce j0 j0<|ce j0 j0<|cv j0 (.msl j0)<|ce j0 j0<|cv j0 (.mpt j0)<|ce j0 j0<|cv j0 (.mpt j0)<|ce j0 j0<|cn,j0,⟨⟨_,j0,zg (fun _=>j0)⟩,⟨_,j0,zn (ciL j0)⟩,⟨_,j0,zn (ciL j0)⟩,j5⟩,j0,j1⟩)
           ·
            replace h:=bF f h
            obtain ⟨v69,q71,h⟩:=bs h
            obtain ⟨Z,q72,h⟩:=bs h
            exact zI [] [23,22,21,20,19,18,17,16,15,14,13,12,11,10,9,8,7,6,5,4,3,2,1,0] [(105,bA (!(a.1.N == Z.N))),(104,bA (!(a.1.N == Z.N))),(103,.lit (.int .i32 Z.N)),(102,.ipt 2 (List.map zf v69) (Int.toNat v) 1),(101,.ipt 2 (List.map zf v69) (Int.toNat v) 0),(100,iA v),(99,.isl 2 (List.map zf v69)),(98,.ipt 1 (List.map (rL 2 zf) E) (Int.toNat C) 0),(97,iA C),(96,.isl 1 (List.map (rL 2 zf) E)),(95,.lit (.int .i32 a.1.N)),(94,.mpt 2 0 1),(93,bA (!(a.1.Ref == q.Ref))),(92,bA (!(a.1.Ref == q.Ref))),(91,bA q.Ref),(90,.ipt 2 (List.map zf J) (Int.toNat v) 0),(89,.ipt 2 (List.map zf J) (Int.toNat v) 0),(88,iA v),(87,.isl 2 (List.map zf J)),(86,.ipt 1 (List.map (rL 2 zf) E) (Int.toNat C) 0),(85,iA C),(84,.isl 1 (List.map (rL 2 zf) E)),(83,bA a.1.Ref),(82,.mpt 2 0 0)] 0 (by kernel_rfl) (by kernel_rfl) j0 (by kernel_rfl) (dt0 ⟨(fun _=>pa j0 j0 j0 j0 (pkb j0 f j0<|j4)),(fun _=>pag (b:=(!(a.1.Ref == q.Ref))) j0 j0 j0 j0 f j0 (neq znI j0 j0<|j4)),(fun _=>pag (b:=(!(a.1.Ref == q.Ref))) j0 j0 j0 j0 f j0 (ldI znI j0 (zo q72).2.2 j0<|j4)),(fun _=>pag (b:=(!(a.1.Ref == q.Ref))) j0 j0 j0 j0 f j0 (fa zdO j0 j0 j0<|j4)),(fun _=>pag (b:=(!(a.1.Ref == q.Ref))) j0 j0 j0 j0 f j0 (ixI zf7 j0 zdO j0 j0 j0 q72<|j4)),(fun _=>pag (b:=(!(a.1.Ref == q.Ref))) j0 j0 j0 j0 f j0 (mv j0<|j4)),(fun _=>pag (b:=(!(a.1.Ref == q.Ref))) j0 j0 j0 j0 f j0 (ldI zf7 j0 (zo q71).2.2 j0<|j4)),(fun _=>pag (b:=(!(a.1.Ref == q.Ref))) j0 j0 j0 j0 f j0 (ixI zpf j0 zf7 j0 j0 j0 q71<|j4)),(fun _=>pag (b:=(!(a.1.Ref == q.Ref))) j0 j0 j0 j0 f j0 (mv j0<|j4)),(fun _=>pag (b:=(!(a.1.Ref == q.Ref))) j0 j0 j0 j0 f j0 (mv j0<|j4)),(fun _=>pag (b:=(!(a.1.Ref == q.Ref))) j0 j0 j0 j0 f j0 (ld znI j0 j0<|j4)),(fun _=>pag (b:=(!(a.1.Ref == q.Ref))) j0 j0 j0 j0 f j0 (fa zdO j0 j0 j0<|j4)),(fun _=>pa j0 j0 j0 j0 (mv j0<|j4)),(fun _=>pa j0 j0 j0 j0 (bne ti4 j0 j0 j0<|j4)),(fun _=>pa j0 j0 j0 j0 (ldI ti4 j0 (zo Y).2.2 j0<|j4)),(fun _=>pa j0 j0 j0 j0 (fa zdO j0 j0 j0<|j4)),(fun _=>pa j0 j0 j0 j0 (ixI zf7 j0 zdO j0 j0 j0 Y<|j4)),(fun _=>pa j0 j0 j0 j0 (mv j0<|j4)),(fun _=>pa j0 j0 j0 j0 (ldI zf7 j0 (zo W).2.2 j0<|j4)),(fun _=>pa j0 j0 j0 j0 (ixI zpf j0 zf7 j0 j0 j0 W<|j4)),(fun _=>pa j0 j0 j0 j0 (mv j0<|j4)),(fun _=>pa j0 j0 j0 j0 (mv j0<|j4)),(fun _=>pa j0 j0 j0 j0 (ld ti4 j0 j0<|j4)),(fun _=>pa j0 j0 j0 j0 (fa zdO j0 j0 j0<|j4)),j5⟩ (by kernel_rfl) j0 ⟨(!(a.1.N == Z.N)),h,[.old 0,.old 1,.old 2],ce j0 j0<|ce j0 j0<|ce j0 j0<|ce j0 j0<|ce j0 j0<|cv j0 (.msl j0)<|ce j0 j0<|cv j0 (.mpt j0)<|ce j0 j0<|cv j0 (.mpt j0)<|ce j0 j0<|cn,j0,⟨⟨_,j0,zg (fun _=>j0)⟩,⟨_,j0,zn (ciL j0)⟩,⟨_,j0,zn (ciL j0)⟩,j5⟩,j0,j1⟩)
          ·
           rintro v71 h
           replace h:zcV e d v a v71=some r:=h
           unfold zcV at h
           refine zk j0 (fun Q=>?_) (fun Q=>?_)
           ·
            replace h:=bT Q h
            refine rg j0<|u<|asg j0<|zc ?_
            refine zp ?_
            obtain rfl:=sm h
            exact ⟨_,j0,_,j0,[],ci j0,j0,j5,j0,j1⟩
           ·
            replace h:=bF Q h
            refine zm ?_
            refine rg j0<|u<|fa zdO j0 j0 j0<|u<|ld ti4 j0 j0<|zc ?_
            refine zk j0 (fun S=>?_) (fun S=>?_)
            ·
             replace h:=bT S h
             refine zl ?_
             refine zb3 (X:=Bool) (fun z=>[(0,.ipt 4 [[.ipt 2 [[.isl 6 (List.map zb i),.imp (List.map (rKV (fun x=>iA x)) j)]] 0 0,.imp (List.map (rKV (fun x=>iA x)) l),.imp (List.map (rKV (fun x=>.agg (zf x))) m),.isl 1 (List.map zz n)]] 0 0),(1,.ipt 1 [[.isl 6 (List.map zb G)]] 0 0),(2,.isl 1 (List.map (rI .i64) F)),(3,.isl 1 (List.map (rL 2 zf) E)),(9,iA d),(10,.msl 0 0 (List.length e)),(11,iA C),(12,.mpt 1 0 0),(13,iA v),(122,bA z)]) (fun z=>[some (1,List.map (rI .i64) e),some (6,[(zb c)])]) (fun z=>zcW d v z=some r) ?_ ?_
             ·
              rcases bb (decide (((List.length e):Int)≤d)) with p | p
              ·
               replace h:=bT p h
               exact zI [] [14,13,12,11,10,9,8,7,6,5,4,3,2,1,0] [(122,bA true),(121,.lit undef),(120,.lit undef),(119,.lit undef),(118,.lit undef),(117,.lit undef),(116,.lit undef),(115,.lit undef),(114,.lit undef),(113,.lit undef),(112,bA (decide (((List.length e):Int)≤d))),(111,bA (decide (((List.length e):Int)≤d))),(110,iA ((List.length e):Int)),(109,.msl 0 0 (List.length e)),(108,iA d)] 0 (by kernel_rfl) (by kernel_rfl) j0 (by kernel_rfl) (dt0 ⟨(fun _=>pa j0 j0 j0 j0 (pkb j0 p j0<|j4)),(fun _=>pas (b:=(decide (((List.length e):Int)≤d))) j0 j0 j0 j0 p j0),(fun _=>pas (b:=(decide (((List.length e):Int)≤d))) j0 j0 j0 j0 p j0),(fun _=>pas (b:=(decide (((List.length e):Int)≤d))) j0 j0 j0 j0 p j0),(fun _=>pas (b:=(decide (((List.length e):Int)≤d))) j0 j0 j0 j0 p j0),(fun _=>pas (b:=(decide (((List.length e):Int)≤d))) j0 j0 j0 j0 p j0),(fun _=>pas (b:=(decide (((List.length e):Int)≤d))) j0 j0 j0 j0 p j0),(fun _=>pas (b:=(decide (((List.length e):Int)≤d))) j0 j0 j0 j0 p j0),(fun _=>pas (b:=(decide (((List.length e):Int)≤d))) j0 j0 j0 j0 p j0),(fun _=>pas (b:=(decide (((List.length e):Int)≤d))) j0 j0 j0 j0 p j0),(fun _=>pa j0 j0 j0 j0 (mv j0<|j4)),(fun _=>pa j0 j0 j0 j0 (geq ti3 j0 j0<|j4)),(fun _=>pa j0 j0 j0 j0 (lnM zkM j0 j0 j0<|j4)),(fun _=>pa j0 j0 j0 j0 (mv j0<|j4)),(fun _=>pa j0 j0 j0 j0 (mv j0<|j4)),j5⟩ (by kernel_rfl) j0 ⟨true,h,[.old 0,.old 1],ce j0 j0<|ce j0 j0<|ce j0 j0<|ce j0 j0<|ce j0 j0<|cv j0 (.msl j0)<|ce j0 j0<|cv j0 (.mpt j0)<|ce j0 j0<|ce j0 j0<|cn,j0,⟨⟨_,j0,zg (fun _=>j0)⟩,⟨_,j0,zn (ciL j0)⟩,j5⟩,j0,j1⟩)
              ·
               replace h:=bF p h
               obtain ⟨v72,q76,h⟩:=bs h
               exact zI [] [14,13,12,11,10,9,8,7,6,5,4,3,2,1,0] [(122,bA (!(v72 == (IntKind.i64.wrap ((IntKind.i64.wrap a.1.N) - 1))))),(121,bA (!(v72 == (IntKind.i64.wrap ((IntKind.i64.wrap a.1.N) - 1))))),(120,iA (IntKind.i64.wrap ((IntKind.i64.wrap a.1.N) - 1))),(119,iA (IntKind.i64.wrap a.1.N)),(118,.lit (.int .i32 a.1.N)),(117,.mpt 2 0 1),(116,iA v72),(115,.mpt 0 (Int.toNat d) 0),(114,iA d),(113,.msl 0 0 (List.length e)),(112,bA (decide (((List.length e):Int)≤d))),(111,bA (decide (((List.length e):Int)≤d))),(110,iA ((List.length e):Int)),(109,.msl 0 0 (List.length e)),(108,iA d)] 0 (by kernel_rfl) (by kernel_rfl) j0 (by kernel_rfl) (dt0 ⟨(fun _=>pa j0 j0 j0 j0 (pkb j0 p j0<|j4)),(fun _=>pag (b:=(decide (((List.length e):Int)≤d))) j0 j0 j0 j0 p j0 (neq ti3 j0 j0<|j4)),(fun _=>pag (b:=(decide (((List.length e):Int)≤d))) j0 j0 j0 j0 p j0 (sub ti3 j0 j0<|j4)),(fun _=>pag (b:=(decide (((List.length e):Int)≤d))) j0 j0 j0 j0 p j0 (cvi znI ti3 j0 j0 j0<|j4)),(fun _=>pag (b:=(decide (((List.length e):Int)≤d))) j0 j0 j0 j0 p j0 (ld znI j0 j0<|j4)),(fun _=>pag (b:=(decide (((List.length e):Int)≤d))) j0 j0 j0 j0 p j0 (fa zdO j0 j0 j0<|j4)),(fun _=>pag (b:=(decide (((List.length e):Int)≤d))) j0 j0 j0 j0 p j0 (ldM ti3 j0 j0 (zo q76).2.2 j0<|j4)),(fun _=>pag (b:=(decide (((List.length e):Int)≤d))) j0 j0 j0 j0 p j0 (ixM zkM j0 ti3 j0 j0 j0 j0 q76<|j4)),(fun _=>pag (b:=(decide (((List.length e):Int)≤d))) j0 j0 j0 j0 p j0 (mv j0<|j4)),(fun _=>pag (b:=(decide (((List.length e):Int)≤d))) j0 j0 j0 j0 p j0 (mv j0<|j4)),(fun _=>pa j0 j0 j0 j0 (mv j0<|j4)),(fun _=>pa j0 j0 j0 j0 (geq ti3 j0 j0<|j4)),(fun _=>pa j0 j0 j0 j0 (lnM zkM j0 j0 j0<|j4)),(fun _=>pa j0 j0 j0 j0 (mv j0<|j4)),(fun _=>pa j0 j0 j0 j0 (mv j0<|j4)),j5⟩ (by kernel_rfl) j0 ⟨(!(v72 == (IntKind.i64.wrap ((IntKind.i64.wrap a.1.N) - 1)))),h,[.old 0,.old 1],ce j0 j0<|ce j0 j0<|ce j0 j0<|ce j0 j0<|ce j0 j0<|cv j0 (.msl j0)<|ce j0 j0<|cv j0 (.mpt j0)<|ce j0 j0<|ce j0 j0<|cn,j0,⟨⟨_,j0,zg (fun _=>j0)⟩,⟨_,j0,zn (ciL j0)⟩,j5⟩,j0,j1⟩)
             ·
              rintro v73 h
              replace h:zcW d v v73=some r:=h
              unfold zcW at h
              refine zk j0 (fun T=>?_) (fun T=>?_)
              ·
               replace h:=bT T h
               refine rg j0<|u<|asg j0<|zc ?_
               refine zp ?_
               obtain rfl:=sm h
               exact ⟨_,j0,_,j0,[],ci j0,j0,j5,j0,j1⟩
              ·
               replace h:=bF T h
               refine zm ?_
               exact rl j0<|u<|mv j0<|u<|add ti3 j0 j0<|u<|asg j0<|zc (⟨(IntKind.i64.wrap (d+1)),h,[.old 0,.old 1],ce j0 j0<|ce j0 j0<|ce j0 j0<|ce j0 j0<|ce j0 j0<|cv j0 (.msl j0)<|ce j0 j0<|cv j0 (.mpt j0)<|ce j0 j0<|cn,j0,⟨⟨_,j0,zg (fun _=>j0)⟩,⟨_,j0,zn (ciL j0)⟩,j5⟩,j0,j1⟩)
            ·
             replace h:=bF S h
             refine zm ?_
             exact ⟨d,h,[.old 0,.old 1],ce j0 j0<|ce j0 j0<|ce j0 j0<|ce j0 j0<|ce j0 j0<|cv j0 (.msl j0)<|ce j0 j0<|cv j0 (.mpt j0)<|ce j0 j0<|cn,j0,⟨⟨_,j0,zg (fun _=>j0)⟩,⟨_,j0,zn (ciL j0)⟩,j5⟩,j0,j1⟩
       ·
        rintro v74 h
        replace h:zcs v v74=some r:=h
        unfold zcs at h
        refine rl j0<|u<|mv j0<|u<|add ti3 j0 j0<|u<|asg j0<|zc ?_
        obtain rfl:=sm h
        exact ⟨_,j0,[.old 0,.old 1],ce j0 j0<|ce j0 j0<|ce j0 j0<|ce j0 j0<|ce j0 j0<|cv j0 (.msl j0)<|ce j0 j0<|cv j0 (.mpt j0)<|ce j0 j0<|cn,j0,⟨⟨_,j0,zg (fun _=>j0)⟩,⟨_,j0,zn (ciL j0)⟩,j5⟩,j0,j1⟩
      ·
       replace h:=bF M h
       refine zB ?_
       obtain rfl:=sm h
       exact ⟨j0,_,j0,[.old 0],ce j0 j0<|ce j0 j0<|ce j0 j0<|ce j0 j0<|ce j0 j0<|cv j0 (.msl j0)<|ce j0 j0<|cn,j0,⟨⟨_,j0,zg (fun _=>j0)⟩,j5⟩,j0,j1⟩
     ·
      rintro v75 rfl
      replace h:zeY C v75=some r:=h
      unfold zeY at h
      refine zx ?_
      refine rl j0<|u<|mv j0<|u<|add ti3 j0 j0<|u<|asg j0<|zc ?_
      obtain rfl:=sm h
      exact ⟨_,j0,[.old 0],ce j0 j0<|ce j0 j0<|ce j0 j0<|ce j0 j0<|ce j0 j0<|cv j0 (.msl j0)<|ce j0 j0<|cn,j0,⟨⟨_,j0,zg (fun _=>j0)⟩,j5⟩,j0,j1⟩
     ·
      rintro r' rfl env st hp
      obtain rfl:=sm h
      exact ⟨_,j0,hp⟩
  ·
   replace h:=bF K h
   refine zB ?_
   obtain rfl:=sm h
   exact ⟨j0,_,j0,[.old 0],ce j0 j0<|cv j0 (.msl j0)<|cn,j0,⟨⟨_,j0,zg (fun _=>j0)⟩,j5⟩,j0,j1⟩
 ·
  rintro v76 rfl
  replace h:zeZ e v76=some r:=h
  unfold zeZ at h
  refine zx ?_
  refine rg j0<|u<|mv j0<|u<|mv j0<|u<|lnM zkM j0 j0 j0<|u<|eql ti3 j0 j0<|u<|asg j0<|zc ?_
  refine zp ?_
  obtain rfl:=sm h
  exact ⟨_,j0,[],ci j0,j0,j5,j0,j1⟩
 ·
  rintro r' rfl env st hp
  obtain rfl:=sm h
  exact hp
end
end Go.Proofs.YthmnlfenkhmmhaaGreat
namespace Go.Proofs.YthmnlfenkhmmhaaGreat
set_option linter.unusedVariables false
set_option maxRecDepth 100000
set_option maxHeartbeats 4000000
def znC (x:ze):Prop:=(wT) x.Ref∧(wI .i32) x.N
theorem zpG {n:Nat} {avs:List AV} (h:zjl Tryz.prog (n+2) 67 avs):∃ x:ze,avs=zf x∧znC x:=by
  obtain ⟨parts,rfl,hl,hg⟩:=gdF Tryz.underlying67 h
  match parts,hl with
  | [p0,p1],_ =>
    obtain ⟨x0,rfl,w0⟩:=gdB Tryz.underlying4 (hg 0 _ p0 rfl rfl)
    obtain ⟨x1,rfl,w1⟩:=gdI Tryz.underlying21 (hg 1 _ p1 rfl rfl)
    exact ⟨⟨x0,x1⟩,rfl,w0,w1⟩
def zpm (x:zfs):Prop:=(wI .i64) x.Kind∧(wI .i64) x.C∧(wI .i64) x.At∧(wI .i64) x.F∧(znC) x.V
theorem zqR {n:Nat} {avs:List AV} (h:zjl Tryz.prog (n+3) 69 avs):∃ x:zfs,avs=zae x∧zpm x:=by
  obtain ⟨parts,rfl,hl,hg⟩:=gdF Tryz.underlying69 h
  match parts,hl with
  | [p0,p1,p2,p3,p4],_ =>
    obtain ⟨x0,rfl,w0⟩:=gdI Tryz.underlying3 (hg 0 _ p0 rfl rfl)
    obtain ⟨x1,rfl,w1⟩:=gdI Tryz.underlying3 (hg 1 _ p1 rfl rfl)
    obtain ⟨x2,rfl,w2⟩:=gdI Tryz.underlying3 (hg 2 _ p2 rfl rfl)
    obtain ⟨x3,rfl,w3⟩:=gdI Tryz.underlying3 (hg 3 _ p3 rfl rfl)
    obtain ⟨x4,rfl,w4⟩:=zpG (hg 4 _ p4 rfl rfl)
    exact ⟨⟨x0,x1,x2,x3,x4⟩,rfl,w0,w1,w2,w3,w4⟩
end Go.Proofs.YthmnlfenkhmmhaaGreat
namespace Go.Proofs.YthmnlfenkhmmhaaGreat
set_option linter.unusedSimpArgs false
set_option linter.unusedVariables false
set_option linter.unusedSectionVars false
structure XOk (k:Nat) (w:World) (F:Nat→Prop) (v:Value) (b:Blk) (r:List (List AV)):Prop where
  k:b.k=k
  mp:b.has=true→b.mp=false
  val:∃ a cap,v=.slice a r.length cap∧r.length≤cap∧(cap=0∨(b.has=true∧a=some ⟨b.B,b.o,none⟩∧b.o+cap * b.k≤b.top))
  nil:b.has=false→r=[]
  ok:b.has=true→zh4 (fun _=>False) (fun _=>none) 0 w b r
  inF:b.has=true→F b.B
def flat (r:List (List AV)):Prop:=∀ i (h:i < r.length) j (h':j < r[i].length),∃ v,r[i][j]=.lit v
structure X {α:Type} (k:Nat) (rf:α→List AV) (w:World) (F I:Nat→Prop) (vs:List Value) (bs:List Blk) (e:List (List α)):Prop where
  len1:vs.length=e.length
  len2:bs.length=e.length
  at_:∀ (i:Nat) v b r,I i→vs[i]?=some v→bs[i]?=some b→e[i]?=some r→XOk k w F v b (r.map rf)
  inj:∀ (i j:Nat) b c,I i→I j→i≠j→bs[i]?=some b→bs[j]?=some c→b.has=true→c.has=true→b.B≠c.B
theorem zh4.flatV {A A':Nat→Prop} {m m':BM} {nb nb':Nat} {w w':World} {b:Blk} {r:List (List AV)} (hf:flat r) (h:zh4 A m nb w b r) (hs:w.heap.size≤w'.heap.size) (hb:w'.heap[b.B]?=w.heap[b.B]?):zh4 A' m' nb' w' b r :=
  ⟨Nat.lt_of_lt_of_le h.low hs,fun off ho=>by rw [zeg hb]; exact h.there off ho,fun off ho=>by rw [zlq hb]; exact h.free off ho,h.fit,h.wide,fun i hi j hj=>by
    obtain ⟨v,h1,h2⟩:=h.val i hi j hj
    obtain ⟨u,hu⟩:=hf i hi j hj
    refine ⟨v,by rw [zeg hb]; exact h1,?_⟩
    rw [hu] at h2 ⊢
    rw [h2.lit_inv]
    exact .imm (.lit _)⟩
theorem XOk.keep {k:Nat} {w w':World} {F:Nat→Prop} {v:Value} {b:Blk} {r:List (List AV)} (hf:flat r) (h:XOk k w F v b r) (hs:w.heap.size≤w'.heap.size) (hb:b.has=true→w'.heap[b.B]?=w.heap[b.B]?):XOk k w' F v b r :=
  ⟨h.k,h.mp,h.val,h.nil,fun hh=>(h.ok hh).flatV hf hs (hb hh),h.inF⟩
structure Ew {α:Type} (k:Nat) (rf:α→List AV) (A0:Nat→Prop) (wS:World) (n:Nat) (I F A:Nat→Prop) (m:BM) (w:World) (env:Ev) (st:St) (a:Act) (vs:List Value) (bs:List Blk) (e:List (List α)):Prop where
  hS:zbR A0 (fun _=>none) 0 wS A m st.length w
  hR:R A m w st
  hE:Env A m st.length w n env a
  hX:X k rf w F I vs bs e
  hFA:∀ B,F B→¬ A B
  hFm:∀ l b,m l=some b→b.has=true→¬ F b.B
  hF:∀ B,F B→wS.heap.size≤B∧B < w.heap.size
def EQ {α:Type} (k:Nat) (rf:α→List AV) (A0:Nat→Prop) (wS:World) (n:Nat) (Q:Exit→Ev→St→(Nat→Prop)→List Value→List (List α)→Prop) (x:Exit) (a:Act) (w:World):Prop :=
  ∃ I F A m env st vs bs e,Ew k rf A0 wS n I F A m w env st a vs bs e∧Q x env st I vs e
def EW {α:Type} (P:Program) (n k:Nat) (rf:α→List AV) (A0:Nat→Prop) (wS:World) (c:Code) (Q:Exit→Ev→St→(Nat→Prop)→List Value→List (List α)→Prop) (env:Ev) (st:St) (I:Nat→Prop) (vs:List Value) (e:List (List α)):Prop :=
  ∀ F A m w a bs,Ew k rf A0 wS n I F A m w env st a vs bs e→c.wp P (EQ k rf A0 wS n Q) a w
section
variable {α : Type} {P : Program} {n k : Nat} {rf : α → List AV} {A0 : Nat → Prop} {wS : World} {Q : Exit → Ev → St → (Nat → Prop) → List Value → List (List α) → Prop} {env : Ev} {st : St} {I : Nat → Prop} {vs : List Value} {e : List (List α)}
theorem Ew.step (hrf:∀ l:List α,flat (l.map rf)) {F A A':Nat→Prop} {m m':BM} {w w':World} {env':Ev} {st':St} {a a':Act} {bs:List Blk} {nb:Nat} (h:Ew k rf A0 wS n I F A m w env st a vs bs e) (h0:nb≤st.length)
    (hS:zbR A m nb w A' m' st'.length w') (hR:R A' m' w' st') (hE:Env A' m' st'.length w' n env' a'):Ew k rf A0 wS n I F A' m' w' env' st' a' vs bs e:=by
  have hheap:∀ B,F B→w'.heap[B]?=w.heap[B]?:=fun B hB=>hS.heap B (h.hF B hB).2 fun l b hb hh he=>h.hFm l b hb hh (he ▸ hB)
  refine ⟨?_,hR,hE,⟨h.hX.len1,h.hX.len2,fun i v b r hi hv hb hr=>(h.hX.at_ i v b r hi hv hb hr).keep (hrf r) hS.size fun hh=>hheap _ ((h.hX.at_ i v b r hi hv hb hr).inF hh),h.hX.inj⟩,fun B hB hA=>?_,fun l b hb hh hB=>?_,fun B hB=>⟨(h.hF B hB).1,Nat.lt_of_lt_of_le (h.hF B hB).2 hS.size⟩⟩
  · refine (h.hS.weak (Nat.zero_le _)).trans0 (?_:zbR A m 0 w A' m' st'.length w')
    exact hS.weak (Nat.zero_le _)
  · rcases hS.aNew B hA with h1 | h1 | ⟨l,b,h1,h2,h3⟩
    · exact h.hFA B hB h1
    · have:=(h.hF B hB).2; omega
    · exact h.hFm l b h1 h2 (h3 ▸ hB)
  · rcases hS.mNew l b hb hh with h1 | ⟨l0,b0,h1,h2,h3⟩
    · have:=(h.hF _ hB).2; omega
    · exact h.hFm l0 b0 h1 h2 (h3 ▸ hB)
theorem zmY (hrf:∀ l:List α,flat (l.map rf)) {c:Code} (h:SW P n 0 c (fun x env st=>Q x env st I vs e) env st):EW P n k rf A0 wS c Q env st I vs e:=fun F A m w a bs hT=>by
  refine wp_mono (h A m w a (Nat.zero_le _) hT.hR hT.hE) fun x a' w' ⟨A',m',env',st',h1,h2,h3,h4⟩=>?_
  exact ⟨I,F,A',m',env',st',vs,bs,e,hT.step hrf (Nat.zero_le _) h3 h1 h2,h4⟩
def zsR (next:Ev→St→(Nat→Prop)→List Value→List (List α)→Prop) (Q:Exit→Ev→St→(Nat→Prop)→List Value→List (List α)→Prop):Exit→Ev→St→(Nat→Prop)→List Value→List (List α)→Prop
  | .normal,env,st,I,vs,e=>next env st I vs e
  | x,env,st,I,vs,e=>Q x env st I vs e
theorem zei {x y:Code} (h:EW P n k rf A0 wS x (zsR (EW P n k rf A0 wS y Q) Q) env st I vs e):EW P n k rf A0 wS (.seq x y) Q env st I vs e:=fun F A m w a bs hT=>by
  refine wp_seq (wp_mono (h F A m w a bs hT) fun x a' w' ⟨I',F',A',m',env',st',vs',bs',e',h1,h2⟩=>?_)
  cases x with
  | normal=>exact h2 F' A' m' w' a' bs' h1
  | exit id=>exact ⟨I',F',A',m',env',st',vs',bs',e',h1,h2⟩
  | goto l=>exact ⟨I',F',A',m',env',st',vs',bs',e',h1,h2⟩
  | ret=>exact ⟨I',F',A',m',env',st',vs',bs',e',h1,h2⟩
  | panic c=>exact ⟨I',F',A',m',env',st',vs',bs',e',h1,h2⟩
  | outgrown=>exact ⟨I',F',A',m',env',st',vs',bs',e',h1,h2⟩
theorem zev {c:Operand} {x y:Code} {b:Bool} (hc:ev env c=some (.lit (.bool b))) (ht:b=true→EW P n k rf A0 wS x Q env st I vs e) (hf:b=false→EW P n k rf A0 wS y Q env st I vs e):EW P n k rf A0 wS (.cond c x y) Q env st I vs e:=fun F A m w a bs hT=>by
  have h1:=(zD hT.hE hc).lit_inv
  exact wp_cond_split h1 (fun h=>ht h F A m w a bs hT) (fun h=>hf h F A m w a bs hT)
def zqx (id:Nat) (Q:Exit→Ev→St→(Nat→Prop)→List Value→List (List α)→Prop):Exit→Ev→St→(Nat→Prop)→List Value→List (List α)→Prop
  | .exit id',env,st,I,vs,e=>if id'=id then Q .normal env st I vs e else Q (.exit id') env st I vs e
  | x,env,st,I,vs,e=>Q x env st I vs e
theorem ziL {id:Nat} {c:Code} (h:EW P n k rf A0 wS c (zqx id Q) env st I vs e):EW P n k rf A0 wS (.block id c) Q env st I vs e:=fun F A m w a bs hT=>by
  refine wp_block (wp_mono (h F A m w a bs hT) fun x a' w' ⟨I',F',A',m',env',st',vs',bs',e',h1,h2⟩=>?_)
  cases x with
  | exit id' =>
    simp only [Exit.inBlock]
    simp only [zqx] at h2
    split
    · rename_i hid; rw [if_pos hid] at h2; exact ⟨I',F',A',m',env',st',vs',bs',e',h1,h2⟩
    · rename_i hid; rw [if_neg hid] at h2; exact ⟨I',F',A',m',env',st',vs',bs',e',h1,h2⟩
  | normal=>exact ⟨I',F',A',m',env',st',vs',bs',e',h1,h2⟩
  | goto l=>exact ⟨I',F',A',m',env',st',vs',bs',e',h1,h2⟩
  | ret=>exact ⟨I',F',A',m',env',st',vs',bs',e',h1,h2⟩
  | panic c=>exact ⟨I',F',A',m',env',st',vs',bs',e',h1,h2⟩
  | outgrown=>exact ⟨I',F',A',m',env',st',vs',bs',e',h1,h2⟩
theorem zkr {id:Nat} (h:Q (.exit id) env st I vs e):EW P n k rf A0 wS (.exit id) Q env st I vs e:=fun F A m w a bs hT=>wp_exit ⟨I,F,A,m,env,st,vs,bs,e,hT,h⟩
theorem zfa (h:Q .normal env st I vs e):EW P n k rf A0 wS .skip Q env st I vs e:=fun F A m w a bs hT=>wp_skip ⟨I,F,A,m,env,st,vs,bs,e,hT,h⟩
theorem zmX (h:Q .ret env st I vs e):EW P n k rf A0 wS .ret Q env st I vs e:=fun F A m w a bs hT=>wp_ret ⟨I,F,A,m,env,st,vs,bs,e,hT,h⟩
theorem ztK {c:Code} (J:Nat→Ev→St→(Nat→Prop)→List Value→List (List α)→Prop) (q:Nat) (h0:J q env st I vs e)
    (round:∀ q env st I vs e,J q env st I vs e→EW P n k rf A0 wS c (zsR (fun env st I vs e=>∃ q',q' < q∧J q' env st I vs e) Q) env st I vs e):EW P n k rf A0 wS (.loop c) Q env st I vs e:=fun F A m w a bs hT=>by
  refine znE (fun q a' w'=>∃ I F A m env st vs bs e,Ew k rf A0 wS n I F A m w' env st a' vs bs e∧J q env st I vs e) (fun q a' w' ⟨I',F',A',m',env',st',vs',bs',e',h1,h2⟩=>?_) q a w ⟨I,F,A,m,env,st,vs,bs,e,hT,h0⟩
  refine wp_mono (round q env' st' I' vs' e' h2 F' A' m' w' a' bs' h1) fun x a2 w2 ⟨I2,F2,A2,m2,env2,st2,vs2,bs2,e2,k1,k2⟩=>?_
  cases x with
  | normal =>
    obtain ⟨q',k3,k4⟩:=k2
    exact ⟨q',k3,I2,F2,A2,m2,env2,st2,vs2,bs2,e2,k1,k4⟩
  | exit id=>exact ⟨I2,F2,A2,m2,env2,st2,vs2,bs2,e2,k1,k2⟩
  | goto l=>exact ⟨I2,F2,A2,m2,env2,st2,vs2,bs2,e2,k1,k2⟩
  | ret=>exact ⟨I2,F2,A2,m2,env2,st2,vs2,bs2,e2,k1,k2⟩
  | panic c=>exact ⟨I2,F2,A2,m2,env2,st2,vs2,bs2,e2,k1,k2⟩
  | outgrown=>exact ⟨I2,F2,A2,m2,env2,st2,vs2,bs2,e2,k1,k2⟩
def zV (v:Value):List AV:=[.lit v]
theorem zvU {c:Code} {b i:Nat} {r:List α} (hrf:∀ l:List α,flat (l.map rf)) (hb:st[b]?=some (some (1,vs.map zV))) (hi:I i) (hr:e[i]?=some r)
    (h:EW P n k rf A0 wS c Q env (st.set b (some (1,(vs.map zV).set i [.msl st.length 0 r.length]))++[some (k,r.map rf)]) (fun j=>I j∧j≠i) vs e):EW P n k rf A0 wS c Q env st I vs e:=fun F A m w a bs hT=>by
  have hib:i < e.length:=(List.getElem?_eq_some_iff.1 hr).1
  have hiv:i < vs.length:=by rw [hT.hX.len1]; exact hib
  have hibs:i < bs.length:=by rw [hT.hX.len2]; exact hib
  obtain ⟨v,hv⟩:∃ v,vs[i]?=some v:=⟨_,List.getElem?_eq_getElem hiv⟩
  obtain ⟨x,hx⟩:∃ x,bs[i]?=some x:=⟨_,List.getElem?_eq_getElem hibs⟩
  have hok:=hT.hX.at_ i v x r hi hv hx hr
  have hbl:b < st.length:=(List.getElem?_eq_some_iff.1 hb).1
  have hlen:(st.set b (some (1,(vs.map zV).set i [.msl st.length 0 r.length]))++[some (k,r.map rf)]).length=st.length+1:=by simp
  have hmlt:∀ l y,m l=some y→l < st.length:=fun l y h=>hT.hR.lt h
  have hput:∀ l y,(m.put st.length (some x)) l=some y→(l=st.length∧y=x)∨(l≠st.length∧m l=some y):=fun l y h=>by
    simp only [BM.put] at h
    split at h
    · rename_i e; cases h; exact .inl ⟨e,rfl⟩
    · rename_i e; exact .inr ⟨e,h⟩
  have hVm:∀ av u,V A m st.length w av u→V A (m.put st.length (some x)) (st.length+1) w av u:=fun av u h=>h.mono (fun _ h=>h) (fun _ _=>rfl) (Nat.le_succ _) fun l hl=>.inl (by simp only [BM.put]; rw [if_neg (by omega)])
  have hnew:V A (m.put st.length (some x)) (st.length+1) w (.msl st.length 0 r.length) v:=by
    obtain ⟨aa,cap,h1,h2,h3⟩:=hok.val
    rw [List.length_map] at h1 h2
    rw [h1]
    refine .msl _ _ _ _ _ _ (Nat.lt_succ_self _) fun y hy=>?_
    simp [BM.put] at hy
    subst hy
    refine ⟨rfl,h2,h3.imp id fun ⟨g1,g2,g3⟩=>⟨g1,hok.mp g1,by rw [g2]; simp,by simpa using g3⟩⟩
  refine h (fun B=>F B∧¬ (x.has=true∧B=x.B)) A (m.put st.length (some x)) w a bs ⟨?_,?_,?_,⟨hT.hX.len1,hT.hX.len2,fun j v' y r' hj h1 h2 h3=>?_,fun j j' y z hj hj' hne h1 h2=>hT.hX.inj j j' y z hj.1 hj'.1 hne h1 h2⟩,fun B hB=>hT.hFA B hB.1,fun l y hy hh hB=>?_,fun B hB=>hT.hF B hB.1⟩
  · rw [hlen]
    refine ⟨Nat.zero_le _,hT.hS.size,hT.hS.aSub,hT.hS.aNew,fun l hl=>absurd hl (Nat.not_lt_zero l),fun l y hy hh=>?_,hT.hS.heap,hT.hS.os,hT.hS.tape,hT.hS.output⟩
    rcases hput l y hy with ⟨_,rfl⟩ | ⟨_,hm⟩
    · exact .inl (hT.hF _ (hok.inF hh)).1
    · exact hT.hS.mNew l y hm hh
  · refine ⟨hT.hR.aLow,fun B l y hA hy hh he=>?_,fun l l' y z hy hz hhy hhz he=>?_,fun l y hy=>?_,fun l kk els hel=>?_⟩
    · rcases hput l y hy with ⟨_,rfl⟩ | ⟨_,hm⟩
      · exact hT.hFA B (he ▸ hok.inF hh) hA
      · exact hT.hR.aOwn B l y hA hm hh he
    · rcases hput l y hy with ⟨e1,rfl⟩ | ⟨e1,hm⟩ <;> rcases hput l' z hz with ⟨e2,h2⟩ | ⟨e2,hm2⟩
      · rw [e1,e2]
      · exact absurd (hok.inF hhy) (he ▸ hT.hFm l' z hm2 hhz)
      · subst h2; exact absurd (hok.inF hhz) (he ▸ hT.hFm l y hm hhy)
      · exact hT.hR.inj l l' y z hm hm2 hhy hhz he
    · rcases hput l y hy with ⟨e1,rfl⟩ | ⟨e1,hm⟩
      · subst e1
        exact ⟨r.map rf,by rw [List.getElem?_append_right (by simp)]; simp [hok.k]⟩
      · obtain ⟨els,hel⟩:=hT.hR.live l y hm
        have hl:=hmlt l y hm
        by_cases e:l=b
        · subst e
          rw [hb] at hel
          have hk1:y.k=1:=by
            have:=Option.some.inj (Option.some.inj hel)
            exact (Prod.mk.inj this).1.symm
          exact ⟨_,by rw [List.getElem?_append_left (by simpa using hl),List.getElem?_set_self hl,hk1]⟩
        · exact ⟨els,by rw [List.getElem?_append_left (by simpa using hl),List.getElem?_set_ne (Ne.symm e)]; exact hel⟩
    · rw [hlen]
      by_cases e1:l=st.length
      · subst e1
        have hel':some (some (k,r.map rf))=some (some (kk,els)):=by
          rw [← hel,List.getElem?_append_right (by simp)]; simp
        obtain ⟨rfl,rfl⟩:=Prod.mk.inj (Option.some.inj (Option.some.inj hel'))
        exact ⟨x,by simp [BM.put],hok.k,fun hh=>((hok.ok hh).flatV (hrf r) (Nat.le_refl _) rfl).blk (hok.mp hh),fun hh=>hok.nil hh⟩
      · have hl:l < st.length:=by
          rcases Nat.lt_or_ge l st.length with h | h
          · exact h
          · rw [List.getElem?_append_right (by simpa using h),List.getElem?_eq_none (by simp; omega)] at hel; cases hel
        rw [List.getElem?_append_left (by simpa using hl)] at hel
        by_cases e2:l=b
        · subst e2
          rw [List.getElem?_set_self hl] at hel
          obtain ⟨rfl,rfl⟩:=Prod.mk.inj (Option.some.inj (Option.some.inj hel))
          obtain ⟨y,h1,h2,h3,h4⟩:=hT.hR.blk l 1 _ hb
          refine ⟨y,by simp only [BM.put]; rw [if_neg e1]; exact h1,h2,fun hh=>?_,fun hh=>?_⟩
          · refine (h3 hh).rel (by simp) fun q hq hq'=>?_
            have hq2:q < vs.length:=by simpa using hq'
            by_cases e3:i=q
            · subst e3
              refine ⟨by simp [zV],fun j hj hj' u hu=>?_⟩
              have hj0:j=0:=by simp [zV] at hj'; exact hj'
              subst hj0
              have e4:((vs.map zV).set i [.msl st.length 0 r.length])[i][0]=.msl st.length 0 r.length:=by simp
              have e5:(vs.map zV)[i][0]=.lit v:=by
                have:vs[i]=v:=by rw [List.getElem?_eq_getElem hiv] at hv; exact Option.some.inj hv
                simp [zV,this]
              rw [e5] at hu
              rw [e4,hu.lit_inv]
              exact hnew
            · have e4:((vs.map zV).set i [.msl st.length 0 r.length])[q]=(vs.map zV)[q]:=by simp [e3]
              refine ⟨by rw [e4],fun j hj hj' u hu=>?_⟩
              have e5:((vs.map zV).set i [.msl st.length 0 r.length])[q][j]=(vs.map zV)[q][j]:=by simp only [e4]
              rw [e5]
              exact hVm _ _ hu
          · have:=h4 hh
            have hv0:vs=[]:=List.map_eq_nil_iff.1 this
            rw [hv0] at hiv; simp at hiv
        · rw [List.getElem?_set_ne (Ne.symm e2)] at hel
          obtain ⟨y,h1,h2,h3,h4⟩:=hT.hR.blk l kk els hel
          exact ⟨y,by simp only [BM.put]; rw [if_neg e1]; exact h1,h2,fun hh=>(h3 hh).keep (Nat.le_refl _) rfl hVm,h4⟩
  · rw [hlen]
    exact ⟨hT.hE.size,fun t av ht=>⟨(hT.hE.val t av ht).1,hVm _ _ (hT.hE.val t av ht).2⟩,hT.hE.defers⟩
  · have h4:=hT.hX.at_ j v' y r' hj.1 h1 h2 h3
    refine ⟨h4.k,h4.mp,h4.val,h4.nil,h4.ok,fun hh=>⟨h4.inF hh,fun ⟨g1,g2⟩=>?_⟩⟩
    exact hT.hX.inj j i y x hj.1 hi hj.2 h2 hx hh g1 g2
  · rcases hput l y hy with ⟨_,rfl⟩ | ⟨_,hm⟩
    · exact hB.2 ⟨hh,rfl⟩
    · exact hT.hFm l y hm hh hB.1
end
end Go.Proofs.YthmnlfenkhmmhaaGreat
namespace Go.Proofs.YthmnlfenkhmmhaaGreat
set_option linter.unusedSimpArgs false
set_option linter.unusedVariables false
set_option linter.unusedSectionVars false
section
variable {α : Type} {P : Program} {n k : Nat} {rf : α → List AV} {A0 : Nat → Prop} {wS : World} {Q : Exit → Ev → St → (Nat → Prop) → List Value → List (List α) → Prop} {env : Ev} {st : St} {I : Nat → Prop} {vs : List Value} {e : List (List α)}
theorem zqr {A:Nat→Prop} {m:BM} {w:World} {q:Nat} {r:List α} {v:Value} (hrf:∀ l:List α,flat (l.map rf)) (hR:R A m w st) (hq:st[q]?=some (some (k,r.map rf))) (hv:V A m st.length w (.msl q 0 r.length) v) :
    ∃ b,(b.has=true→m q=some b)∧∀ F:Nat→Prop,(b.has=true→F b.B)→XOk k w F v b (r.map rf):=by
  obtain ⟨b,h1,h2,h3,h4⟩:=hR.blk q k _ hq
  obtain ⟨hl,a,n',cap,rfl,hb⟩:=hv.msl_inv
  obtain ⟨rfl,g1,g2⟩:=hb b h1
  by_cases hc:cap=0
  · have hr:r=[]:=List.eq_nil_of_length_eq_zero (by omega)
    subst hr
    refine ⟨⟨false,0,0,k,0,false⟩,fun h=>(by cases h),fun F _=>⟨rfl,fun h=>(by cases h),⟨a,cap,rfl,Nat.zero_le _,.inl hc⟩,fun _=>rfl,fun h=>(by cases h),fun h=>(by cases h)⟩⟩
  · obtain ⟨g3,g4,g5,g6⟩:=g2.resolve_left hc
    refine ⟨b,fun _=>h1,fun F hF=>⟨h2,fun _=>g4,⟨a,cap,by rw [List.length_map],by rw [List.length_map]; exact g1,.inr ⟨g3,by rw [g5]; simp,by simpa using g6⟩⟩,h4,fun hh=>((h3 hh).cells g4).flatV (hrf r) (Nat.le_refl _) rfl,hF⟩⟩
theorem V.less {A:Nat→Prop} {m:BM} {nb:Nat} {w:World} {q:Nat} {av:AV} {v:Value} (h:V A m nb w av v):V A (m.put q none) nb w av v :=
  h.mono (fun _ h=>h) (fun _ _=>rfl) (Nat.le_refl _) fun l hl=>by
    simp only [BM.put]
    by_cases e:l=q
    · rw [if_pos e]; exact .inr rfl
    · rw [if_neg e]; exact .inl rfl
theorem zfY {m:BM} {q l:Nat} {b:Blk} (h:(m.put q none) l=some b):l≠q∧m l=some b:=by
  simp only [BM.put] at h
  split at h
  · cases h
  · rename_i e; exact ⟨e,h⟩
theorem R.drop {A:Nat→Prop} {m:BM} {w:World} (hR:R A m w st) (q:Nat):R A (m.put q none) w (st.set q none):=by
  refine ⟨hR.aLow,fun B l b hA hb hh=>hR.aOwn B l b hA (zfY hb).2 hh,fun l l' b b' h h' hh hh' he=>hR.inj l l' b b' (zfY h).2 (zfY h').2 hh hh' he,fun l b hb=>?_,fun l kk els he=>?_⟩
  · obtain ⟨h1,h2⟩:=zfY hb
    obtain ⟨els,he⟩:=hR.live l b h2
    exact ⟨els,by rw [List.getElem?_set_ne (Ne.symm h1)]; exact he⟩
  · rw [List.length_set]
    by_cases e:l=q
    · subst e
      rcases Nat.lt_or_ge l st.length with h | h
      · rw [List.getElem?_set_self h] at he; cases he
      · rw [List.getElem?_eq_none (by simpa using h)] at he; cases he
    · rw [List.getElem?_set_ne (Ne.symm e)] at he
      obtain ⟨b,h1,h2,h3,h4⟩:=hR.blk l kk els he
      exact ⟨b,by simp only [BM.put]; rw [if_neg e]; exact h1,h2,fun hh=>(h3 hh).keep (Nat.le_refl _) rfl fun av v hv=>hv.less,h4⟩
theorem zuL {c:Code} {t q:Nat} {r:List α} (hrf:∀ l:List α,flat (l.map rf)) (ht:zaQ env t=some (.msl q 0 r.length)) (hq:st[q]?=some (some (k,r.map rf)))
    (h:∀ v,v.oneCell'=true→EW P n k rf A0 wS c Q ((t,.lit v) :: env) (st.set q none) I (vs++[v]) (e++[r])):EW P n k rf A0 wS c Q env st I vs e:=fun F A m w a bs hT=>by
  obtain ⟨htn,hv⟩:=hT.hE.val t _ ht
  obtain ⟨b,hb1,hb2⟩:=zqr hrf hT.hR hq hv
  generalize hgv:a.tmps.getD t undef=v at hv hb2
  have hbF:b.has=true→¬ F b.B:=fun hh=>hT.hFm q b (hb1 hh) hh
  refine h v (hv.one rfl) (fun B=>F B∨(b.has=true∧B=b.B)) A (m.put q none) w a (bs++[b]) ⟨?_,hT.hR.drop q,?_,⟨by simp [hT.hX.len1],by simp [hT.hX.len2],fun i v' b' r' hi h1 h2 h3=>?_,fun i j x y hi hj hne h1 h2 hh hh'=>?_⟩,fun B hB hA=>?_,fun l x hx hh hB=>?_,fun B hB=>?_⟩
  · rw [List.length_set]
    exact ⟨Nat.zero_le _,hT.hS.size,hT.hS.aSub,hT.hS.aNew,fun l hl=>absurd hl (Nat.not_lt_zero l),fun l x hx hh=>hT.hS.mNew l x (zfY hx).2 hh,hT.hS.heap,hT.hS.os,hT.hS.tape,hT.hS.output⟩
  · rw [List.length_set]
    refine ⟨hT.hE.size,fun t' av hta=>?_,hT.hE.defers⟩
    simp only [zaQ] at hta
    split at hta
    · rename_i e1; subst e1; cases hta
      exact ⟨htn,by rw [hgv]; exact .imm (.lit _)⟩
    · exact ⟨(hT.hE.val t' av hta).1,(hT.hE.val t' av hta).2.less⟩
  · by_cases hlt:i < e.length
    · rw [List.getElem?_append_left (by rw [hT.hX.len1]; exact hlt)] at h1
      rw [List.getElem?_append_left (by rw [hT.hX.len2]; exact hlt)] at h2
      rw [List.getElem?_append_left hlt] at h3
      have h4:=hT.hX.at_ i v' b' r' hi h1 h2 h3
      exact ⟨h4.k,h4.mp,h4.val,h4.nil,h4.ok,fun hh=>.inl (h4.inF hh)⟩
    · have hi':i=e.length:=by
        have:=(List.getElem?_eq_some_iff.1 h3).1
        simp at this; omega
      subst hi'
      rw [List.getElem?_append_right (by rw [hT.hX.len1]; exact Nat.le_refl _),hT.hX.len1] at h1
      rw [List.getElem?_append_right (by rw [hT.hX.len2]; exact Nat.le_refl _),hT.hX.len2] at h2
      rw [List.getElem?_append_right (Nat.le_refl _)] at h3
      simp at h1 h2 h3
      subst h1; subst h2; subst h3
      exact hb2 _ fun hh=>.inr ⟨hh,rfl⟩
  · have key:∀ (i:Nat) x,(bs++[b])[i]?=some x→(i < e.length∧bs[i]?=some x)∨(i=e.length∧x=b):=fun i x h=>by
      by_cases hlt:i < e.length
      · rw [List.getElem?_append_left (by rw [hT.hX.len2]; exact hlt)] at h
        exact .inl ⟨hlt,h⟩
      · have:=(List.getElem?_eq_some_iff.1 h).1
        simp [hT.hX.len2] at this
        have hi':i=e.length:=by omega
        subst hi'
        rw [List.getElem?_append_right (by rw [hT.hX.len2]; exact Nat.le_refl _),hT.hX.len2] at h
        simp at h
        exact .inr ⟨rfl,h.symm⟩
    have inF:∀ (i:Nat) x,I i→i < e.length→bs[i]?=some x→x.has=true→F x.B:=fun i x hi hlt hx hxh=>by
      have h1:vs[i]?=some (vs[i]'(by rw [hT.hX.len1]; exact hlt)):=List.getElem?_eq_getElem _
      have h2:e[i]?=some e[i]:=List.getElem?_eq_getElem hlt
      exact (hT.hX.at_ i _ x _ hi h1 hx h2).inF hxh
    rcases key i x h1 with ⟨l1,g1⟩ | ⟨l1,rfl⟩ <;> rcases key j y h2 with ⟨l2,g2⟩ | ⟨l2,rfl⟩
    · exact hT.hX.inj i j x y hi hj hne g1 g2 hh hh'
    · exact fun e1=>hbF hh' (e1 ▸ inF i x hi l1 g1 hh)
    · exact fun e1=>hbF hh (e1 ▸ inF j y hj l2 g2 hh')
    · exact absurd (l1.trans l2.symm) hne
  · rcases hB with hB | ⟨hh,rfl⟩
    · exact hT.hFA B hB hA
    · exact hT.hR.aOwn _ q b hA (hb1 hh) hh rfl
  · obtain ⟨g1,g2⟩:=zfY hx
    rcases hB with hB | ⟨hbh,hB⟩
    · exact hT.hFm l x g2 hh hB
    · exact g1 (hT.hR.inj l q x b g2 (hb1 hbh) hh hbh hB)
  · rcases hB with hB | ⟨hh,rfl⟩
    · exact hT.hF B hB
    · refine ⟨?_,hT.hR.low (hb1 hh) hh⟩
      rcases hT.hS.mNew q b (hb1 hh) hh with h1 | ⟨_,_,h1,_⟩
      · exact h1
      · cases h1
theorem Ew.out {b q i:Nat} {r:List α} (hrf:∀ l:List α,flat (l.map rf)) (hbq:b≠q) (hb:st[b]?=some (some (1,(vs.map zV).set i [.msl q 0 r.length]))) (hq:st[q]?=some (some (k,r.map rf))) (hi:i < e.length) (hI:¬ I i)
    {F A:Nat→Prop} {m:BM} {w:World} {a:Act} {bs:List Blk} (hT:Ew k rf A0 wS n I F A m w env st a vs bs e) :
    ∃ v F' A' m' bs',Ew k rf A0 wS n (fun j=>I j∨j=i) F' A' m' w env ((st.set b (some (1,(vs.set i v).map zV))).set q none) a (vs.set i v) bs' (e.set i r):=by
  have hiv:i < vs.length:=by rw [hT.hX.len1]; exact hi
  have hibs:i < bs.length:=by rw [hT.hX.len2]; exact hi
  have hbl:b < st.length:=(List.getElem?_eq_some_iff.1 hb).1
  have hql:q < st.length:=(List.getElem?_eq_some_iff.1 hq).1
  obtain ⟨bo,o1,o2,o3,o4⟩:=hT.hR.blk b 1 _ hb
  have hoh:bo.has=true:=by
    cases h0:bo.has with
    | true=>rfl
    | false =>
      have h9:((vs.map zV).set i [.msl q 0 r.length]).length=0:=by rw [o4 h0]; rfl
      rw [List.length_set,List.length_map] at h9
      omega
  have hook:=o3 hoh
  have homp:bo.mp=false:=by
    cases h0:bo.mp with
    | false=>rfl
    | true=>have:=(hook.mval h0).1; omega
  obtain ⟨v,hc,hv⟩:=hook.val homp i (by simpa using hiv) 0 (by simp)
  have e4:((vs.map zV).set i [.msl q 0 r.length])[i]'(by simpa using hiv)=[.msl q 0 r.length]:=by simp
  have hv':V A m st.length w (.msl q 0 r.length) v:=by
    have e5:(((vs.map zV).set i [.msl q 0 r.length])[i]'(by simpa using hiv))[0]'(by rw [e4]; simp)=.msl q 0 r.length:=by simp
    rwa [e5] at hv
  obtain ⟨x,hx1,hx2⟩:=zqr hrf hT.hR hq hv'
  have hxF:x.has=true→¬ F x.B:=fun hh=>hT.hFm q x (hx1 hh) hh
  have hlen:((st.set b (some (1,(vs.set i v).map zV))).set q none).length=st.length:=by simp
  have hgetbs:∀ (j:Nat) y,(bs.set i x)[j]?=some y→(j≠i∧bs[j]?=some y)∨(j=i∧y=x):=fun j y h=>by
    by_cases e1:j=i
    · subst e1
      rw [List.getElem?_set_self hibs] at h
      cases h
      exact .inr ⟨rfl,rfl⟩
    · rw [List.getElem?_set_ne (Ne.symm e1)] at h
      exact .inl ⟨e1,h⟩
  have inF:∀ (j:Nat) y,I j→bs[j]?=some y→y.has=true→F y.B:=fun j y hj hy hyh=>by
    have hlt:j < e.length:=by rw [← hT.hX.len2]; exact (List.getElem?_eq_some_iff.1 hy).1
    have h1:vs[j]?=some (vs[j]'(by rw [hT.hX.len1]; exact hlt)):=List.getElem?_eq_getElem _
    have h2:e[j]?=some e[j]:=List.getElem?_eq_getElem hlt
    exact (hT.hX.at_ j _ y _ hj h1 hy h2).inF hyh
  refine ⟨v,(fun B=>F B∨(x.has=true∧B=x.B)),A,m.put q none,bs.set i x,⟨?_,?_,?_,⟨by simp [hT.hX.len1],by simp [hT.hX.len2],fun j v' b' r' hj h1 h2 h3=>?_,fun j j' y z hj hj' hne h1 h2 hh hh'=>?_⟩,fun B hB hA=>?_,fun l y hy hh hB=>?_,fun B hB=>?_⟩⟩
  · rw [hlen]
    exact ⟨Nat.zero_le _,hT.hS.size,hT.hS.aSub,hT.hS.aNew,fun l hl=>absurd hl (Nat.not_lt_zero l),fun l y hy hh=>hT.hS.mNew l y (zfY hy).2 hh,hT.hS.heap,hT.hS.os,hT.hS.tape,hT.hS.output⟩
  · have hR1:R A m w (st.set b (some (1,(vs.set i v).map zV))):=by
      refine ⟨hT.hR.aLow,hT.hR.aOwn,hT.hR.inj,fun l y hy=>?_,fun l kk els he=>?_⟩
      · obtain ⟨els,he⟩:=hT.hR.live l y hy
        by_cases e1:l=b
        · subst e1
          rw [hb] at he
          have hk1:y.k=1:=(Prod.mk.inj (Option.some.inj (Option.some.inj he))).1.symm
          exact ⟨_,by rw [List.getElem?_set_self hbl,hk1]⟩
        · exact ⟨els,by rw [List.getElem?_set_ne (Ne.symm e1)]; exact he⟩
      · rw [List.length_set]
        by_cases e1:l=b
        · subst e1
          rw [List.getElem?_set_self hbl] at he
          obtain ⟨rfl,rfl⟩:=Prod.mk.inj (Option.some.inj (Option.some.inj he))
          refine ⟨bo,o1,o2,fun _=>⟨hook.low,hook.there,hook.free,fun hm=>by have:=hook.fit hm; simpa using this,fun j hj=>by rw [List.getElem_map,o2]; rfl,fun hm j hj j' hj'=>?_,fun hm=>by rw [homp] at hm; cases hm⟩,fun hh=>by rw [hoh] at hh; cases hh⟩
          have hj2:j < vs.length:=by simpa using hj
          have hj0:j'=0:=by
            have h9:j' < (((vs.set i v).map zV)[j]).length:=hj'
            rw [List.getElem_map] at h9
            exact Nat.lt_one_iff.1 h9
          subst hj0
          by_cases e2:i=j
          · subst e2
            refine ⟨v,hc,?_⟩
            have:((vs.set i v).map zV)[i][0]=.lit v:=by simp [zV]
            rw [this]
            exact .imm (.lit _)
          · obtain ⟨u,g1,g2⟩:=hook.val hm j (by simpa using hj2) 0 (by simp [e2,zV])
            refine ⟨u,g1,?_⟩
            have e3:((vs.set i v).map zV)[j][0]=.lit vs[j]:=by simp [zV,e2]
            have e5:(((vs.map zV).set i [.msl q 0 r.length])[j]'(by simpa using hj2))[0]'(by simp [e2,zV])=.lit vs[j]:=by simp [zV,e2]
            rw [e5] at g2
            rw [e3]
            exact g2
        · rw [List.getElem?_set_ne (Ne.symm e1)] at he
          exact hT.hR.blk l kk els he
    exact hR1.drop q
  · rw [hlen]
    exact ⟨hT.hE.size,fun t' av hta=>⟨(hT.hE.val t' av hta).1,(hT.hE.val t' av hta).2.less⟩,hT.hE.defers⟩
  · by_cases e1:j=i
    · subst e1
      rw [List.getElem?_set_self hiv] at h1
      rw [List.getElem?_set_self hibs] at h2
      rw [List.getElem?_set_self hi] at h3
      cases h1; cases h2; cases h3
      exact hx2 _ fun hh=>.inr ⟨hh,rfl⟩
    · rw [List.getElem?_set_ne (Ne.symm e1)] at h1 h2 h3
      have h4:=hT.hX.at_ j v' b' r' (hj.resolve_right e1) h1 h2 h3
      exact ⟨h4.k,h4.mp,h4.val,h4.nil,h4.ok,fun hh=>.inl (h4.inF hh)⟩
  · rcases hgetbs j y h1 with ⟨l1,g1⟩ | ⟨l1,rfl⟩ <;> rcases hgetbs j' z h2 with ⟨l2,g2⟩ | ⟨l2,rfl⟩
    · exact hT.hX.inj j j' y z (hj.resolve_right l1) (hj'.resolve_right l2) hne g1 g2 hh hh'
    · exact fun e1=>hxF hh' (e1 ▸ inF j y (hj.resolve_right l1) g1 hh)
    · exact fun e1=>hxF hh (e1 ▸ inF j' z (hj'.resolve_right l2) g2 hh')
    · exact absurd (l1.trans l2.symm) hne
  · rcases hB with hB | ⟨hh,rfl⟩
    · exact hT.hFA B hB hA
    · exact hT.hR.aOwn _ q x hA (hx1 hh) hh rfl
  · obtain ⟨g1,g2⟩:=zfY hy
    rcases hB with hB | ⟨hbh,hB⟩
    · exact hT.hFm l y g2 hh hB
    · exact g1 (hT.hR.inj l q y x g2 (hx1 hbh) hh hbh hB)
  · rcases hB with hB | ⟨hh,rfl⟩
    · exact hT.hF B hB
    · refine ⟨?_,hT.hR.low (hx1 hh) hh⟩
      rcases hT.hS.mNew q x (hx1 hh) hh with h1 | ⟨_,_,h1,_⟩
      · exact h1
      · cases h1
theorem zuM {c:Code} {b q i:Nat} {r:List α} (hrf:∀ l:List α,flat (l.map rf)) (hbq:b≠q) (hb:st[b]?=some (some (1,(vs.map zV).set i [.msl q 0 r.length]))) (hq:st[q]?=some (some (k,r.map rf))) (hi:i < e.length) (hI:¬ I i)
    (h:∀ v,EW P n k rf A0 wS c Q env ((st.set b (some (1,(vs.set i v).map zV))).set q none) (fun j=>I j∨j=i) (vs.set i v) (e.set i r)):EW P n k rf A0 wS c Q env st I vs e:=fun F A m w a bs hT=>by
  obtain ⟨v,F',A',m',bs',hT'⟩:=hT.out hrf hbq hb hq hi hI
  exact h v F' A' m' w a bs' hT'
theorem zud (hrf:∀ l:List α,flat (l.map rf)) {F A:Nat→Prop} {m:BM} {w:World} {a:Act} {bs:List Blk} {b:Nat} {v:Value} (hT:Ew k rf A0 wS n I F A m w env st a vs bs e) (hI:∀ i,I i) (hb:st[b]?=some (some (1,vs.map zV)))
    (hv:V A m st.length w (.msl b 0 vs.length) v):VI (fun B=>B < w.heap.size) w (.isl 1 (e.map fun r=>[.isl k (r.map rf)])) v:=by
  have hlen:vs.length=e.length:=hT.hX.len1
  obtain ⟨hl,ad,n',cap,rfl,hbv⟩:=hv.msl_inv
  obtain ⟨bo,o1,o2,o3,o4⟩:=hT.hR.blk b 1 _ hb
  obtain ⟨rfl,g1,g2⟩:=hbv bo o1
  have hinner:∀ (i:Nat) v' b' r,vs[i]?=some v'→bs[i]?=some b'→e[i]?=some r→VI (fun B=>B < w.heap.size) w (.isl k (r.map rf)) v':=fun i v' b' r h1 h2 h3=>by
    have hx:=hT.hX.at_ i v' b' r (hI i) h1 h2 h3
    obtain ⟨aa,cc,rfl,h5,h6⟩:=hx.val
    rcases h6 with hc0 | ⟨h6,h7,h8⟩
    · have hr:r=[]:=List.eq_nil_of_length_eq_zero (by rw [List.length_map] at h5; omega)
      subst hr
      exact .inil _ _ _
    · have hok:=hx.ok h6
      have hk:=hx.k
      subst hk
      rw [h7]
      have hcell:∀ p j,p < (r.map rf).length→j < b'.k→∃ u,w.cell? ⟨b'.B,b'.o+p * b'.k+j,none⟩=some u∧∀ (h4:p < (r.map rf).length) (h5:j < ((r.map rf)[p]).length),(r.map rf)[p][j]=.lit u:=fun p j hp hj=>by
        have hj1:j < ((r.map rf)[p]).length:=by rw [hok.wide p hp]; exact hj
        obtain ⟨u,g8,g9⟩:=hok.val p hp j hj1
        refine ⟨u,g8,fun _ _=>?_⟩
        obtain ⟨z,hz⟩:=hrf r p hp j hj1
        rw [hz] at g9 ⊢
        rw [g9.lit_inv]
      exact VI.isl (A:=fun B=>B < w.heap.size) (w:=w) b'.k (r.map rf) b'.B b'.o cc (fun p j=>(w.cell? ⟨b'.B,b'.o+p * b'.k+j,none⟩).getD undef) hok.low h5 hok.wide
        (fun p j hp hj=>by obtain ⟨u,g8,_⟩:=hcell p j hp hj; simp only [g8,Option.getD_some])
        (fun p hp j hj=>by
          obtain ⟨u,g8,g9⟩:=hcell p j hp (by rw [← hok.wide p hp]; exact hj)
          rw [g9 hp hj]
          simp only [g8,Option.getD_some]
          exact .lit _)
  rcases g2 with hc0 | ⟨g3,g4,rfl,g6⟩
  · have he0:e=[]:=List.eq_nil_of_length_eq_zero (by omega)
    subst he0
    have h0:vs.length=0:=by omega
    rw [h0]
    exact .inil _ _ _
  · have hok:=(o3 g3).cells g4
    have hcell:∀ i,i < e.length→∃ u,w.cell? ⟨bo.B,bo.o+i * 1+0,none⟩=some u∧vs[i]?=some u:=fun i hi=>by
      obtain ⟨u,g8,g9⟩:=hok.val i (by simp [hlen,hi]) 0 (by simp [zV])
      rw [o2] at g8
      have hiv:i < vs.length:=by rw [hlen]; exact hi
      have e5:((vs.map zV)[i]'(by simpa using hiv))[0]'(by simp [zV])=.lit vs[i]:=by simp [zV]
      rw [e5] at g9
      refine ⟨u,g8,?_⟩
      rw [g9.lit_inv]
      exact List.getElem?_eq_getElem _
    have hl2:(e.map fun r=>[AV.isl k (r.map rf)]).length=vs.length:=by simp [hlen]
    have:=VI.isl (A:=fun B=>B < w.heap.size) (w:=w) 1 (e.map fun r=>[.isl k (r.map rf)]) bo.B (bo.o+0 * bo.k) cap (fun i j=>(w.cell? ⟨bo.B,bo.o+0 * bo.k+i * 1+j,none⟩).getD undef) hok.low (by rw [hl2]; exact g1) (fun i hi=>by simp)
      (fun i j hi hj=>by
        have hj0:j=0:=by omega
        subst hj0
        obtain ⟨u,g8,_⟩:=hcell i (by simpa using hi)
        have e0:bo.o+0 * bo.k+i * 1+0=bo.o+i * 1+0:=by omega
        simp only [e0,g8,Option.getD_some])
      (fun i hi j hj=>by
        have hi2:i < e.length:=by simpa using hi
        have hj0:j=0:=by simp at hj; exact hj
        subst hj0
        obtain ⟨u,g8,g9⟩:=hcell i hi2
        have e0:bo.o+0 * bo.k+i * 1+0=bo.o+i * 1+0:=by omega
        have e6:((e.map fun r=>[AV.isl k (r.map rf)])[i])[0]=.isl k (e[i].map rf):=by simp
        rw [e6]
        simp only [e0,g8,Option.getD_some]
        exact hinner i u (bs[i]'(by rw [hT.hX.len2]; exact hi2)) e[i] g9 (List.getElem?_eq_getElem _) (List.getElem?_eq_getElem _))
    rw [hl2] at this
    exact this
def zpp (st:St) (b nv:Nat) (big:AV):List AV→List AV→Prop
  | [],[]=>True
  | x :: l,y :: r=>(ziC st x y∨(x=.msl b 0 nv∧y=big))∧zpp st b nv big l r
  | _,_=>False
theorem zpp.get {b nv:Nat} {big:AV}:∀ {l r:List AV},zpp st b nv big l r→l.length=r.length∧∀ i (hi:i < l.length) (hi':i < r.length),ziC st l[i] r[i]∨(l[i]=.msl b 0 nv∧r[i]=big)
  | [],[],_=>⟨rfl,fun i hi=>by cases hi⟩
  | x :: l,y :: r,h=>by
    obtain ⟨h1,h2⟩:=zpp.get h.2
    refine ⟨by simp [h1],fun i hi hi'=>?_⟩
    cases i with
    | zero=>exact h.1
    | succ i=>exact h2 i (by simpa using hi) (by simpa using hi')
  | [],_ :: _,h=>h.elim
  | _ :: _,[],h=>h.elim
theorem ztJ {id:Nat} {ops:Array Oper} {l1 l2:List Oper} {d:Nat} {fo:Operand} {cargs:Array Operand} {at_:Array TypeId} {ty:TypeId} {pos:String} {aft:Array Edge} {g:FuncId} {args args':List AV} {res:Value} {b:Nat}
    (hrf:∀ l:List α,flat (l.map rf)) (hall:ops.toList=l1++⟨some d,.call ⟨.value fo,cargs,at_⟩,ty,pos,aft,none⟩ :: l2) (hd:ops.toList.all (fun o=>o.dst.all (· < n))=true)
    (hp:zF P g args' (.lit res)) (hI:∀ i,I i) (hb:st[b]?=some (some (1,vs.map zV))) (hs:zpp st b vs.length (.isl 1 (e.map fun r=>[.isl k (r.map rf)])) args args')
    (h:SR P n 0 ops.toList l1 (⟨some d,.call ⟨.value fo,cargs,at_⟩,ty,pos,aft,none⟩ :: l2) (fun env1 st1=>st1=st∧ev env1 fo=some (.fn (.func g) [] [])∧zh8 env1 cargs.toList=some args ∧
      SR P n 0 ops.toList l2 [] (fun env st=>Q .normal env st I vs e) ((d,.lit res) :: env1) st) env st):EW P n k rf A0 wS (.region id ops false) Q env st I vs e:=fun F A m w a bs hT=>by
  refine wp_region ?_
  have:=h ops 0 rfl (by rw [hall]; rfl) hd A m w a (Nat.zero_le _) hT.hR hT.hE (EQ k rf A0 wS n Q) fun a1 w1 ⟨A1,m1,env1,st1,h1,h2,h3,hs0,hf,ha,hnx⟩=>by
    subst hs0
    have hT1:=hT.step hrf (Nat.zero_le _) h3 h1 h2
    have hop:ops[l1.length]?=some ⟨some d,.call ⟨.value fo,cargs,at_⟩,ty,pos,aft,none⟩:=by
      have:ops.toList[l1.length]?=some ⟨some d,.call ⟨.value fo,cargs,at_⟩,ty,pos,aft,none⟩:=by rw [hall]; simp
      simpa using this
    have hdn:d < n:=by
      rw [List.all_eq_true] at hd
      simpa using hd ⟨some d,.call ⟨.value fo,cargs,at_⟩,ty,pos,aft,none⟩ (by rw [hall]; simp)
    simp only [Nat.zero_add,List.length_cons,List.range'_succ,wpOps,hop]
    have hw:Region.wanted ⟨some d,.call ⟨.value fo,cargs,at_⟩,ty,pos,aft,none⟩ (yielded ops a1.tmps)=true:=rfl
    rw [hw]
    simp only [if_true]
    refine .inl ?_
    have hfv:=zD h2 hf
    obtain ⟨p,q,e',hpv,hqv⟩:=hfv.fn_inv
    have hp0:p=#[]:=Array.eq_empty_of_size_eq_zero hpv.1
    have hq0:q=#[]:=Array.eq_empty_of_size_eq_zero hqv.1
    subst hp0; subst hq0
    have hargs:=zeh h2 ha
    have e2:(cargs.toList.map a1.eval).toArray=cargs.map a1.eval:=by apply Array.ext'; simp
    rw [e2] at hargs
    have hrun:(execOp a1.eval { dst:=some d,op:=.call { callee:=.value fo,args:=cargs,argTypes:=at_ },type:=ty,pos:=pos,after:=aft,guard:=none }).run P w1=.ok (.enter g (#[]++cargs.map a1.eval++#[])) w1:=by
      have hce:=zf4 hp.1 (#[]++cargs.map a1.eval++#[]) w1
      simp only [execOp,resolve,e',Deferred.ofValue,Sem.run_bind,Sem.run_pure,Result.andThen_ok,invoke]
      exact hce
    unfold Oper.wp
    rw [hrun]
    simp only [Oper.upon]
    have hg:=hs.get
    refine (hp.2 (fun B=>B < w1.heap.size) w1 _ (fun B hB=>hB) ⟨by simp [hargs.1,hg.1],fun i hi=>?_⟩).mono fun ex w2 ⟨v,he,hgr,hv⟩=>?_
    · have hi':i < args.length:=by rw [hg.1]; exact hi
      have hva:=hargs.2 i hi'
      have e3:(#[]++cargs.map a1.eval++#[]).getD i undef=(cargs.map a1.eval).getD i undef:=by simp
      rw [e3]
      rcases hg.2 i hi' hi with h5 | ⟨h5,h6⟩
      · exact h5.vi h1 h1.aLow (fun _ _ hb hh=>h1.low hb hh) hva
      · rw [h5] at hva
        rw [h6]
        exact zud hrf hT1 hI hb hva
    subst he
    have hvr:v=res:=by cases hv; rfl
    subst hvr
    obtain ⟨k1,k2⟩:=h1.grow' hgr
    have hE2:Env A1 m1 st1.length w2 n ((d,.lit v) :: env1) (a1.put (some d) v):=Env.put (h2.step h1 k2) hdn (.imm (.lit _))
    have hT2:=hT1.step hrf (Nat.le_refl _) k2 k1 hE2
    have:=hnx ops (l1.length+1) rfl (by rw [hall,List.append_nil,← List.drop_drop]; simp) hd A1 m1 w2 (a1.put (some d) v) (Nat.zero_le _) k1 hE2 (EQ k rf A0 wS n Q) fun a3 w3 ⟨A3,m3,env3,st3,j1,j2,j3,j4⟩=>by
      simp only [List.length_nil,List.range'_zero,wpOps]
      exact ⟨I,F,A3,m3,env3,st3,vs,bs,e,hT2.step hrf (Nat.zero_le _) j3 j1 j2,j4⟩
    simpa using this
  rw [List.range_eq_range',show ops.size=l1.length+(l2.length+1) by have:=congrArg List.length hall; simpa using this]
  simpa using this
theorem zsP {c:Code} {Qf:Exit→Ev→St→Prop} (h:∀ A0 wS,EW P n k rf A0 wS c (fun x env st _ _ _=>Qf x env st) env [] (fun _=>True) [] ([]:List (List α))):SW P n 0 c Qf env []:=fun A m w a h0 hR hE=>by
  have hm:∀ l,m l=none:=fun l=>by
    cases h:m l with
    | none=>rfl
    | some b=>obtain ⟨els,he⟩:=hR.live l b h; simp at he
  have hm':m=fun _=>none:=funext hm
  subst hm'
  refine wp_mono (h A w (fun _=>False) A _ w a [] ⟨zbR.refl _ _ _ _,hR,hE,⟨rfl,rfl,fun i v b r _ h=>by simp at h,fun i j b c _ _ _ h=>by simp at h⟩,fun B h=>h.elim,fun l b h=>(by cases h),fun B h=>h.elim⟩) fun x a' w' ⟨I,F,A',m',env',st',vs,bs,e,hT,hq⟩=>?_
  exact ⟨A',m',env',st',hT.hR,hT.hE,hT.hS,hq⟩
end
end Go.Proofs.YthmnlfenkhmmhaaGreat
namespace Go.Proofs.YthmnlfenkhmmhaaGreat
set_option linter.unusedSimpArgs false
set_option linter.unusedVariables false
set_option linter.unusedSectionVars false
def oR (a:AV):List AV:=[a]
theorem zq2 {vs:List Value} {i:Nat} {X:AV}:(vs.map zV).set i [X]=((vs.map AV.lit).set i X).map oR:=by
  rw [List.map_set,List.map_map]; rfl
theorem ztc {vs:List Value} {i:Int} {X:AV} (h0:0≤i) (h:i.toNat < vs.length):idx ((vs.map AV.lit).set i.toNat X) i=some X:=by
  unfold idx
  rw [if_pos h0,List.getElem?_set_self (by simpa using h)]
theorem zrD {β:Type} {l:List β} {i:Int} {x:β} (h:idx l i=some x):l.set i.toNat x=l:=by
  obtain ⟨h0,h1,h2⟩:=zo h
  apply List.ext_getElem?
  intro j
  by_cases e:i.toNat=j
  · rw [← e,List.getElem?_set_self h1,h2]
  · rw [List.getElem?_set_ne e]
theorem zsa {β γ:Type} {w:Nat} {xs:List β} {ys r:List γ} {x:β} {y:γ} (hl:xs.length=ys.length) (h:zhp w ys [y]=some r):zhp w xs [x]=some (xs++[x]):=by
  obtain ⟨_,h2,h3⟩:=ziG h
  unfold zhp
  rw [if_pos]
  exact ⟨by simpa [hl] using h2,by simpa [hl] using h3⟩
theorem zos {st:St} {L:zdi} {vs:List Value} {i q q0 n n0:Nat} (e:n0=n) (h:zc4 L q0=some q):zkd st L (((vs.map AV.lit).set i (.msl q0 0 n0)).map oR) (((vs.map AV.lit).set i (.msl q 0 n)).map oR):=by
  subst e
  have hlen1:∀ (X:AV) (j:Nat) (h1:j < (((vs.map AV.lit).set i X).map oR).length),((((vs.map AV.lit).set i X).map oR)[j]'h1).length=1:=fun X j h1=>by rw [List.getElem_map]; rfl
  refine ⟨by simp,fun j h1 h2=>⟨by rw [hlen1,hlen1],fun l h3 h4=>?_⟩⟩
  have hl:l=0:=by rw [hlen1] at h3; omega
  subst hl
  have hj:j < vs.length:=by simpa using h1
  have key:∀ X:AV,∀ h1 h3,((((vs.map AV.lit).set i X).map oR)[j]'h1)[0]'h3=if i=j then X else .lit vs[j]:=fun X h1 h3=>by
    simp only [List.getElem_map]
    show (List.set (vs.map AV.lit) i X)[j]'(by simpa using hj)=_
    rw [List.getElem_set]
    split
    · rfl
    · rw [List.getElem_map]
  rw [key,key]
  split
  · exact .msl h
  · exact .imm (.lit _)
section
variable {α : Type} {P : Program} {n k : Nat} {rf : α → List AV} {A0 : Nat → Prop} {wS : World} {Q : Exit → Ev → St → (Nat → Prop) → List Value → List (List α) → Prop} {env : Ev} {st : St} {I : Nat → Prop} {vs : List Value} {e : List (List α)}
theorem EW.mono {c:Code} {Q':Exit→Ev→St→(Nat→Prop)→List Value→List (List α)→Prop} (h:EW P n k rf A0 wS c Q env st I vs e) (hq:∀ x env st I vs e,Q x env st I vs e→Q' x env st I vs e):EW P n k rf A0 wS c Q' env st I vs e:=fun F A m w a bs hT =>
  wp_mono (h F A m w a bs hT) fun x a' w' ⟨I',F',A',m',env',st',vs',bs',e',h1,h2⟩=>⟨I',F',A',m',env',st',vs',bs',e',h1,hq _ _ _ _ _ _ h2⟩
theorem zqL {c:Code} (h:vs.length=e.length→EW P n k rf A0 wS c Q env st I vs e):EW P n k rf A0 wS c Q env st I vs e:=fun F A m w a bs hT=>h hT.hX.len1 F A m w a bs hT
theorem Ew.can (hrf:∀ l:List α,flat (l.map rf)) {F A:Nat→Prop} {m:BM} {w:World} {a:Act} {bs:List Blk} {env0:Ev} {st0:St} (hT:Ew k rf A0 wS n I F A m w env st a vs bs e) (hc:Can 0 env0 st0 env st):∃ A' m',Ew k rf A0 wS n I F A' m' w env0 st0 a vs bs e:=by
  obtain ⟨L,h1,h2,h3,h4,h5⟩:=hc
  have hs:=zqa.of h2 h3
  exact ⟨_,_,hT.step hrf (Nat.zero_le _) ((zbR.refl0 A m st.length w (Nat.zero_le _)).rs hs h4 h5) (hT.hR.rs hs) (hT.hE.rs hT.hR hs h1)⟩
theorem zqK {c:Code} {env0:Ev} {st0:St} (hrf:∀ l:List α,flat (l.map rf)) (hc:Can 0 env0 st0 env st) (h:EW P n k rf A0 wS c Q env0 st0 I vs e):EW P n k rf A0 wS c Q env st I vs e:=fun F A m w a bs hT=>by
  obtain ⟨A',m',hT'⟩:=hT.can hrf hc
  exact h F A' m' w a bs hT'
theorem znS {x y:Code} {X:Type} (hrf:∀ l:List α,flat (l.map rf)) (E:X→List Value→Ev) (S:X→List Value→St) (ez:X→List (List α)) (J:X→Prop)
    (h:EW P n k rf A0 wS x (zsR (fun env st I vs e=>∃ z,J z∧e=ez z∧(∀ i,I i)∧Can 0 (E z vs) (S z vs) env st) Q) env st I vs e)
    (kk:∀ z vs I,J z→(∀ i,I i)→EW P n k rf A0 wS y Q (E z vs) (S z vs) I vs (ez z)):EW P n k rf A0 wS (.seq x y) Q env st I vs e :=
  zei (h.mono fun x env st I vs e h=>by
    cases x with
    | normal=>obtain ⟨z,h1,rfl,h3,h4⟩:=h; exact zqK hrf h4 (kk z vs I h1 h3)
    | _=>exact h)
def LQE (id:Nat) {X B R:Type} (E:X→List Value→Ev) (S:X→List Value→St) (ez:X→List (List α)) (E':B→List Value→Ev) (S':B→List Value→St) (eb:B→List (List α)) (post:R→Ev→St→Prop) (o:Sum X (Sum B R)):Exit→Ev→St→(Nat→Prop)→List Value→List (List α)→Prop
  | .normal,env,st,I,vs,e=>∃ z,o=.inl z∧e=ez z∧(∀ i,I i)∧Can 0 (E z vs) (S z vs) env st
  | .exit i,env,st,I,vs,e=>i=id∧∃ b,o=.inr (.inl b)∧e=eb b∧(∀ i,I i)∧Can 0 (E' b vs) (S' b vs) env st
  | .ret,env,st,_,_,_=>∃ r,o=.inr (.inr r)∧post r env st
  | _,_,_,_,_,_=>False
theorem zqM {id:Nat} {c:Code} {X B R:Type} (hrf:∀ l:List α,flat (l.map rf)) (E:X→List Value→Ev) (S:X→List Value→St) (ez:X→List (List α)) (E':B→List Value→Ev) (S':B→List Value→St) (eb:B→List (List α)) (post:R→Ev→St→Prop) {body:X→Option (Sum X (Sum B R))} {z0:X} {o:Sum B R}
    (ho:zu body z0=some o) (hI:∀ i,I i) (he:e=ez z0) (hc:Can 0 (E z0 vs) (S z0 vs) env st)
    (round:∀ z r vs I,body z=some r→(∀ i,I i)→EW P n k rf A0 wS c (LQE id E S ez E' S' eb post r) (E z vs) (S z vs) I vs (ez z))
    (hb:∀ b vs I,o=.inl b→(∀ i,I i)→Q .normal (E' b vs) (S' b vs) I vs (eb b)) (hr:∀ r,o=.inr r→∀ env st I vs e,post r env st→Q .ret env st I vs e):EW P n k rf A0 wS (.block id (.loop c)) Q env st I vs e:=by
  obtain ⟨N,hN⟩:=zhZ ho
  have key:EW P n k rf A0 wS (.block id (.loop c)) (fun x env st I vs e=>match x with | .normal=>∃ b,o=.inl b∧e=eb b∧(∀ i,I i)∧Can 0 (E' b vs) (S' b vs) env st | x=>Q x env st I vs e) env st I vs e:=by
    refine ziL (ztK (fun q env st I vs e=>∃ z,zfS body q z=some o∧e=ez z∧(∀ i,I i)∧Can 0 (E z vs) (S z vs) env st) N ⟨z0,hN,he,hI,hc⟩ ?_)
    rintro q env st I vs e ⟨z,hz,rfl,hI,hcan⟩
    cases q with
    | zero=>cases hz
    | succ q =>
      unfold zfS at hz
      cases hbz:body z with
      | none=>rw [hbz] at hz; cases hz
      | some r =>
        rw [hbz] at hz
        refine zqK hrf hcan ((round z r vs I hbz hI).mono fun x env st I vs e h=>?_)
        cases x with
        | normal =>
          obtain ⟨z',rfl,h1,h2,h3⟩:=h
          exact ⟨q,Nat.lt_succ_self q,z',hz,h1,h2,h3⟩
        | exit i =>
          obtain ⟨rfl,b,rfl,h1,h2,h3⟩:=h
          simp only [zsR,zqx,if_true]
          exact ⟨b,(sm hz).symm,h1,h2,h3⟩
        | ret =>
          obtain ⟨r',rfl,h2⟩:=h
          exact hr r' (sm hz).symm env st I vs e h2
        | goto l=>exact h.elim
        | panic c=>exact h.elim
        | outgrown=>exact h.elim
  intro F A m w a bs hT
  refine wp_mono (key F A m w a bs hT) fun x a' w' ⟨I,F,A,m,env,st,vs,bs,e,hT,hq⟩=>?_
  cases x with
  | normal =>
    obtain ⟨b,hob,rfl,hI,hcan⟩:=hq
    obtain ⟨A',m',hT'⟩:=hT.can hrf hcan
    exact ⟨I,F,A',m',_,_,vs,bs,_,hT',hb b vs I hob hI⟩
  | exit i=>exact ⟨I,F,A,m,env,st,vs,bs,e,hT,hq⟩
  | ret=>exact ⟨I,F,A,m,env,st,vs,bs,e,hT,hq⟩
  | goto l=>exact ⟨I,F,A,m,env,st,vs,bs,e,hT,hq⟩
  | panic c=>exact ⟨I,F,A,m,env,st,vs,bs,e,hT,hq⟩
  | outgrown=>exact ⟨I,F,A,m,env,st,vs,bs,e,hT,hq⟩
theorem erg {id:Nat} {ops:Array Oper} {y:Code} (hrf:∀ l:List α,flat (l.map rf)) (hd:ops.toList.all (fun o=>o.dst.all (· < n))=true) (h:SR P n 0 ops.toList ops.toList [] (fun env st=>EW P n k rf A0 wS y Q env st I vs e) env st) :
    EW P n k rf A0 wS (.seq (.region id ops false) y) Q env st I vs e:=zei (zmY hrf (rl hd h))
theorem el {id:Nat} {ops:Array Oper} (hrf:∀ l:List α,flat (l.map rf)) (hd:ops.toList.all (fun o=>o.dst.all (· < n))=true) (h:SR P n 0 ops.toList ops.toList [] (fun env st=>Q .normal env st I vs e) env st) :
    EW P n k rf A0 wS (.region id ops false) Q env st I vs e:=zmY hrf (rl hd h)
theorem ed {id:Nat} {ops:Array Oper} {y:Code} (hrf:∀ l:List α,flat (l.map rf)) (E:Ev) (S:St) (ss en:List Nat) (F:Ev) (kk:Nat) (hm:P.follows .mixedOrders=true) (hok:zmL n ops.toList=true) (hss:zmd ops.size ss=true) (hks:zfA ops.toList en (zbA F)=true)
    (h:DT P ops.toList ss env (fun env st=>Can 0 E S env st) kk [] en F st) (hy:EW P n k rf A0 wS y Q E S I vs e):EW P n k rf A0 wS (.seq (.region id ops true) y) Q env st I vs e :=
  zei (zmY hrf ((zI (Q:=fun e env st=>match e with | .normal=>Can 0 E S env st | _=>False) ss en F kk hm hok hss hks h).mono fun x env st h=>by
    cases x with
    | normal=>exact zqK hrf h hy
    | _=>exact h.elim))
def OE (n k:Nat) (rf:α→List AV) (A0:Nat→Prop) (wS:World) (K:Ev→St→(Nat→Prop)→List Value→List (List α)→Prop) (env:Ev) (st:St) (I:Nat→Prop) (vs:List Value) (e:List (List α)):Prop :=
  ∀ F A m w a bs,Ew k rf A0 wS n I F A m w env st a vs bs e→∃ I F A m env st vs bs e,Ew k rf A0 wS n I F A m w env st a vs bs e∧K env st I vs e
theorem OE.can {K:Ev→St→(Nat→Prop)→List Value→List (List α)→Prop} {env0:Ev} {st0:St} (hrf:∀ l:List α,flat (l.map rf)) (hc:Can 0 env0 st0 env st) (h:OE n k rf A0 wS K env0 st0 I vs e):OE n k rf A0 wS K env st I vs e:=fun F A m w a bs hT=>by
  obtain ⟨A',m',hT'⟩:=hT.can hrf hc
  exact h F A' m' w a bs hT'
theorem ztL {c:Code} (h:EW P n k rf A0 wS c (fun x env st I vs e=>match x with | .normal=>OE n k rf A0 wS (Q .normal) env st I vs e | x=>Q x env st I vs e) env st I vs e):EW P n k rf A0 wS c Q env st I vs e:=fun F A m w a bs hT=>by
  refine wp_mono (h F A m w a bs hT) fun x a' w' ⟨I,F,A,m,env,st,vs,bs,e,hT,hq⟩=>?_
  cases x with
  | normal=>exact hq F A m w' a' bs hT
  | exit i=>exact ⟨I,F,A,m,env,st,vs,bs,e,hT,hq⟩
  | ret=>exact ⟨I,F,A,m,env,st,vs,bs,e,hT,hq⟩
  | goto l=>exact ⟨I,F,A,m,env,st,vs,bs,e,hT,hq⟩
  | panic c=>exact ⟨I,F,A,m,env,st,vs,bs,e,hT,hq⟩
  | outgrown=>exact ⟨I,F,A,m,env,st,vs,bs,e,hT,hq⟩
theorem edL {id:Nat} {ops:Array Oper} (hrf:∀ l:List α,flat (l.map rf)) (E:Ev) (S:St) (ss en:List Nat) (F:Ev) (kk:Nat) (hm:P.follows .mixedOrders=true) (hok:zmL n ops.toList=true) (hss:zmd ops.size ss=true) (hks:zfA ops.toList en (zbA F)=true)
    (h:DT P ops.toList ss env (fun env st=>Can 0 E S env st) kk [] en F st) (hy:OE n k rf A0 wS (Q .normal) E S I vs e):EW P n k rf A0 wS (.region id ops true) Q env st I vs e :=
  ztL (zmY hrf ((zI (Q:=fun e env st=>match e with | .normal=>Can 0 E S env st | _=>False) ss en F kk hm hok hss hks h).mono fun x env st h=>by
    cases x with
    | normal=>exact OE.can hrf h hy
    | _=>exact h.elim))
theorem zs9 {c:Code} {b i q:Nat} {r:List α} (stN:St) (hrf:∀ l:List α,flat (l.map rf)) (hb:st[b]?=some (some (1,vs.map zV))) (hI:∀ i,I i) (hr:e[i]?=some r) (hq:st.length=q)
    (hst:st.set b (some (1,((vs.map AV.lit).set i (.msl q 0 r.length)).map oR))++[some (k,r.map rf)]=stN)
    (h:∀ I',¬ I' i→(∀ j,j≠i→I' j)→EW P n k rf A0 wS c Q env stN I' vs e):EW P n k rf A0 wS c Q env st I vs e:=by
  subst hq hst
  refine zvU hrf hb (hI i) hr ?_
  rw [zq2]
  exact h _ (fun h=>h.2 rfl) fun j hj=>⟨hI j,hj⟩
theorem zuD {i:Nat} (h:∀ j,j≠i→I j):∀ j,I j∨j=i:=fun j=>by
  by_cases e:j=i
  · exact .inr e
  · exact .inl (h j e)
theorem znT {c:Code} {b q i:Nat} {r:List α} (stN:Value→St) (hrf:∀ l:List α,flat (l.map rf)) (hbq:b≠q) (hb:st[b]?=some (some (1,((vs.map AV.lit).set i (.msl q 0 r.length)).map oR))) (hq:st[q]?=some (some (k,r.map rf))) (hi:i < e.length) (hI:¬ I i) (hI2:∀ j,j≠i→I j)
    (hst:∀ v,(st.set b (some (1,(vs.set i v).map zV))).set q none=stN v)
    (h:∀ v I',(∀ j,I' j)→EW P n k rf A0 wS c Q env (stN v) I' (vs.set i v) (e.set i r)):EW P n k rf A0 wS c Q env st I vs e:=by
  rw [← zq2] at hb
  refine zuM hrf hbq hb hq hi hI fun v=>?_
  rw [hst]
  exact h v _ (zuD hI2)
theorem zt8 {K:Ev→St→(Nat→Prop)→List Value→List (List α)→Prop} {b q i:Nat} {r:List α} (stN:Value→St) (hrf:∀ l:List α,flat (l.map rf)) (hbq:b≠q) (hb:st[b]?=some (some (1,((vs.map AV.lit).set i (.msl q 0 r.length)).map oR))) (hq:st[q]?=some (some (k,r.map rf))) (hi:i < e.length) (hI:¬ I i) (hI2:∀ j,j≠i→I j)
    (hst:∀ v,(st.set b (some (1,(vs.set i v).map zV))).set q none=stN v)
    (h:∀ v I',(∀ j,I' j)→K env (stN v) I' (vs.set i v) (e.set i r)):OE n k rf A0 wS K env st I vs e:=fun F A m w a bs hT=>by
  rw [← zq2] at hb
  obtain ⟨v,F',A',m',bs',hT'⟩:=hT.out hrf hbq hb hq hi hI
  rw [hst] at hT'
  exact ⟨_,F',A',m',env,stN v,_,bs',_,hT',h v _ (zuD hI2)⟩
theorem zoK {id:Nat} {ops:Array Oper} {d:Nat} {fo:Operand} {cargs:Array Operand} {at_:Array TypeId} {ty:TypeId} {pos:String} {aft:Array Edge} {g:FuncId} {args':List AV} {res:Value} {b:Nat} (args:List AV) (j:Nat)
    (hrf:∀ l:List α,flat (l.map rf)) (hj:ops.toList[j]?=some ⟨some d,.call ⟨.value fo,cargs,at_⟩,ty,pos,aft,none⟩) (hd:ops.toList.all (fun o=>o.dst.all (· < n))=true)
    (hp:zF P g args' (.lit res)) (hI:∀ i,I i) (hb:st[b]?=some (some (1,vs.map zV))) (hs:zpp st b vs.length (.isl 1 (e.map fun r=>[.isl k (r.map rf)])) args args')
    (h:SR P n 0 ops.toList (ops.toList.take j) (⟨some d,.call ⟨.value fo,cargs,at_⟩,ty,pos,aft,none⟩ :: ops.toList.drop (j+1)) (fun env1 st1=>st1=st∧ev env1 fo=some (.fn (.func g) [] [])∧zh8 env1 cargs.toList=some args ∧
      SR P n 0 ops.toList (ops.toList.drop (j+1)) [] (fun env st=>Q .normal env st I vs e) ((d,.lit res) :: env1) st) env st):EW P n k rf A0 wS (.region id ops false) Q env st I vs e :=
  ztJ hrf (l1:=ops.toList.take j) (l2:=ops.toList.drop (j+1)) (by
    obtain ⟨hl,he⟩:=List.getElem?_eq_some_iff.1 hj
    rw [← he,List.getElem_cons_drop,List.take_append_drop]) hd hp hI hb hs h
end
section
variable {P : Program} {env : Ev} {st : St} {K : Ev → St → Prop} {d : Nat} {ty : TypeId} {pos : String} {aft : Array Edge} {gu : Option (Nat × Bool)}
theorem ixO {α:Type} {t e:TypeId} {x y:Operand} {ti te:TI} {kk:IntKind} {sz b n:Nat} {l:List α} {f:α→List AV} {i:Int} {c:α} (ht:zaq P t=some ti) (hk:ti.k=.slc e) (he:zaq P e=some te) (hs:te.size=sz) (hx:ev env x=some (.msl b 0 n)) (hn:n=l.length)
    (hb:st[b]?=some (some (sz,l.map f))) (hy:ev env y=some (.lit (.int kk i))) (h:idx l i=some c) (k:K ((d,.mpt b i.toNat 0) :: env) st):SOp P ⟨some d,.indexAddr t x y,ty,pos,aft,gu⟩ env st K:=by
  subst hn
  exact ixM ht hk he hs hx hb hy h k
theorem apZ {α:Type} {x y:Operand} {t u' e:TypeId} {ti te tu:TI} {e':TypeId} {sz b w:Nat} {l z r:List α} {f:α→List AV} {v:AV} (nn:Nat) (ht:zaq P t=some ti) (hk:ti.k=.slc e) (he:zaq P e=some te) (hs:te.size=sz) (hw:te.bytes=w) (hz:0 < sz) (hu:zaq P u'=some tu) (hku:tu.k=.slc e')
    (hx:ev env x=some (.msl b 0 l.length)) (hb:st[b]?=some (some (sz,l.map f))) (hy:ev env y=some v) (hr:ze6 st sz v=some (z.map f)) (h1:zfu (z.map f)=true) (hn:st.length=nn) (h:zhp w l z=some r)
    (k:K ((d,.msl nn 0 r.length) :: env) (st.set b none++[some (sz,r.map f)])):SOp P ⟨some d,.call ⟨.builtin .append,#[x,y],#[t,u']⟩,ty,pos,aft,gu⟩ env st K:=zdV rfl (by
      obtain ⟨rfl,h2,h3⟩:=ziG h
      have hbo:ziH st sz (.msl b 0 l.length)=some (l.map f,st.set b none):=by simp [ziH,hb,zg9]
      simp only [aop,zfU,zmD,ht,hx,hy,hu,hk,he,hs,hbo,hku,hr]
      rw [if_pos ⟨hz,h1,by simpa [hw] using h2,by simpa using h3⟩]
      simp [hn]) k
theorem zvV {v:Value} (h:v.oneCell'=true) {x:List AV}:zmZ 1 [x] [(0,.lit v)]=some (List.map zV [v]):=by
  simp [zmZ,zhs,h,zV]
theorem zv3 {v:Value} (h:v.oneCell'=true):zfu ([v].map zV)=true:=by simp [zfu,zV,AV.one,h]
end
end Go.Proofs.YthmnlfenkhmmhaaGreat
