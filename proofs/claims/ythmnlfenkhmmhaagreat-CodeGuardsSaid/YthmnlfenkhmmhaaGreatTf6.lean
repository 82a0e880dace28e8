/- What the proofs of this seat's laws rest on: how the program's functions compute, each for every input. No further condition. Part 6 of 8. -/
import Derived.Test.YthmnlfenkhmmhaaGreatTf5
namespace Go.Proofs.YthmnlfenkhmmhaaGreat
noncomputable section
open List (length map)
set_option linter.unusedSimpArgs false
set_option linter.unusedVariables false
set_option maxRecDepth 100000
set_option maxHeartbeats 4000000
def znD:Option (Bool):=
  some true
def znC(a:Int):Option (Sum (Int) (Sum (Unit) (Bool))):=
  some (.inl (IntKind.i64.wrap (a+1)))
def znB(a:Int):Option (Sum (Int) (Sum (Unit) (Bool))):=
  some (.inl (IntKind.i64.wrap (a+1)))
def zdg(a:Int)(b:Bool):Option (Sum (Int) (Sum (Unit) (Bool))):=
  cond b (some (.inr (.inr false))) (some (.inl (IntKind.i64.wrap (a+1))))
def zdh(c:zc)(d:zbh)(a:Int):Option (Sum (Int) (Sum (Unit) (Bool))):=
  cond (decide (a<(length c.Code:Int))) ((idx d.Code a).bind fun b=>(idx c.Code a).bind fun e=>cond (!(b.Op == e.Op)) (zdg a true) ((idx c.Code a).bind fun f=>cond (!(b.A == f.A)) (zdg a true) (cond ((((b.Op == (37:Int))||(b.Op == (40:Int)))||(b.Op == (41:Int)))||(b.Op == (42:Int))) (zdg a (!(b.Y == ((-1):Int)))) (zdg a false)))) (some (.inr (.inl ())))
def zdi(j:zav)(q:(Option zq)×Int)(c:(List za)×T2×T1×T1×T1)(e:(List za)×T2×T2×(List (T0×zu))×T1)(l:T2)(d:Int)(a:Int):Option (Sum (Int) (Sum (Unit) (Bool))):=
  (idx j.L d).bind fun m=>cond (decide (a<(length m.Methods:Int))) ((idx j.L d).bind fun n=>(idx j.L d).bind fun p=>(idx p.Methods a).bind fun f=>(zhT q.1 c.1 c.2.1 c.2.2.1 c.2.2.2.1 c.2.2.2.2 e.1 e.2.1 l e.2.2.2.1 e.2.2.2.2 n.Name a).bind fun i=>cond (!((length i.Code:Int) == (length f.Code:Int))) (some (.inr (.inr false))) ((zr (fun z=>zdh f i z) 0).bind fun o=>zQ o (fun b=>znB a) (fun r=>some (.inr (.inr r))))) (some (.inr (.inl ())))
def zdj(c:zav)(e:(Option zq)×Int)(f:(List za)×T2×T1×T1×T1)(i:(List za)×T2×T2×(List (T0×zu))×T1)(d:T2)(a:Int):Option (Sum (Int) (Sum (Unit) (Bool))):=
  cond (decide (a<(length c.L:Int))) ((zr (fun z=>zdi c e f i d a z) 0).bind fun o=>zQ o (fun b=>znC a) (fun r=>some (.inr (.inr r)))) (some (.inr (.inl ())))
def zj5(c:zav)(d:(Option zq)×Int)(e:(List za)×T2×T1×T1×T1)(f:(List za)×T2×T2×(List (T0×zu))×T1)(a:T2):Option (Bool):=
  (zr (fun z=>zdj c d e f a z) 0).bind fun o=>zQ o (fun b=>znD) some
def zcF(d:zav)(b:(List za)×T2×T2×(List (T0×zu))×T1)(c:T2)(a:Int):Option (Sum (T2×Int) (Sum (T2) (Bool))):=
  cond (decide (a<(length d.L:Int))) ((idx d.L a).bind fun e=>some (.inl ((ze b.1 b.2.1 c b.2.2.2.1 b.2.2.2.2 e.Name 2),(IntKind.i64.wrap (a+1))))) (some (.inr (.inl c)))
def zhM(e:List za)(f:z8):Option (Bool):=
  (zj7).bind fun i=>cond (!i) (some false) ((zj4 (zav.mk e f [] 0)).bind fun a=>(zdR a.L a.E).bind fun c=>cond (!(c.2 == (0:Int))) (some true) ((zh7 c.1).bind fun j=>(zjf c.1).bind fun d=>(zr (fun z=>zcF a d z.1 z.2) (d.2.2.1,0)).bind fun o=>zQ o (fun b=>zj5 a c j d b) some))
theorem zj6(T:List za)(U:z8){r:Bool}(h:zhM T U=some r):zan Tryz.prog 13 [.isl 6 (map zb T),.agg (zfA U)] (bA r):=by
 refine zo Tryz.func13 y kz y y<|A ?_;obtain ⟨v3,q1,h⟩:=bs h;refine A ?_;refine zi<|A ?_;refine zeh h y (fun Z h=>?_) fun Z h=>?_
 ·refine A ?_;exact RT0
 ·refine zg ?_;obtain ⟨q,q3,h⟩:=bs h;refine A ?_;refine u<|pcn (zmN (zav.mk T U [] 0) q3) y y ⟨(nlA ⟨(nlI y),(nlI y),(nlI y),(nlN),(nlI y),t⟩),t⟩<|A ?_;obtain ⟨B,q4,h⟩:=bs h;refine rg y<|u<|fa ti y y y<|u<|ld ti y y<|u<|fa ti y y y<|u<|ld ti y y<|u<|pc (zdS q.L q.E q4) y y y<|u<|mv y<|u<|ex y y<|u<|ex y y<|u<|asg y<|u<|asg y<|zz ?_;refine zi ?_;refine rg y<|u<|mv y<|u<|neq ti y y<|zz ?_;refine zeh h y (fun hc5 h=>?_) fun hc5 h=>?_
  ·refine A ?_;exact RT0
  ·refine zg ?_;obtain ⟨d,q6,c,q7,h⟩:=bs2 h;refine rg y<|u<|mv y<|u<|sc [] (zjG B.1 q6) y y y y ⟨(rnI (zlE (fun _=>y))),t⟩ t<|u<|mv y<|u<|sc [] (zkK B.1 q7) y y y y ⟨(rnI (zlE (fun _=>y))),t⟩ t<|A ?_;refine zi<|A ?_;obtain ⟨o,ho,h⟩:=bs h;refine lpB ho (fun z=>[(6,.mpt 0 0 0),(7,zht 2 zS B.1),(9,.mpt 1 0 0),(10,.mpt 2 0 0),(11,iA z.2)]) (fun z=>[some (5,[(zbj q)]),some (4,[[.ipt 2 [[.isl 6 (map zb d.1),.imp (map (rKV (fun x=>iA x)) d.2.1)]] 0 0,.isl 1 (map zm d.2.2.1),.isl 1 (map zm d.2.2.2.1),.isl 1 (map zm d.2.2.2.2)]]),some (4,[[.ipt 2 [[.isl 6 (map zb c.1),.imp (map (rKV (fun x=>iA x)) c.2.1)]] 0 0,.mmp 3,.mmp 4,.msl 5 0 (length c.2.2.2.2)]]),some (2,map (rKV (fun x=>iA x)) z.1),some (2,map (rKV (fun x=>.agg (zl x))) c.2.2.2.1),some (1,map zm c.2.2.2.2)]) (fun b=>[(6,.mpt 0 0 0),(7,zht 2 zS B.1),(9,.mpt 1 0 0),(10,.mpt 2 0 0)]) (fun b=>[some (5,[(zbj q)]),some (4,[[.ipt 2 [[.isl 6 (map zb d.1),.imp (map (rKV (fun x=>iA x)) d.2.1)]] 0 0,.isl 1 (map zm d.2.2.1),.isl 1 (map zm d.2.2.2.1),.isl 1 (map zm d.2.2.2.2)]]),some (4,[[.ipt 2 [[.isl 6 (map zb c.1),.imp (map (rKV (fun x=>iA x)) c.2.1)]] 0 0,.mmp 3,.mmp 4,.msl 5 0 (length c.2.2.2.2)]]),some (2,map (rKV (fun x=>iA x)) b),some (2,map (rKV (fun x=>.agg (zl x))) c.2.2.2.1),some (1,map zm c.2.2.2.2)]) (pG Tryz.f13 bA) (zbZ [.old 1,.old 2,.old 6,.old 7,.old 8,.old 9]) ?_ ?_
   ·rintro ⟨R,v12⟩ r h;refine zi<|A ?_;refine zeh h y (fun V h=>?_) fun V h=>?_
    ·refine zg<|zi<|zs ?_;obtain ⟨S,q11,h⟩:=bs h;refine A ?_;refine u<|sxm [2,3,4,5] (zg4 c.1 c.2.1 R c.2.2.2.1 c.2.2.2.2 S.Name 2 y)<|zO (env0:=[(6,.mpt 0 0 0),(7,zht 2 zS B.1),(9,.mpt 1 0 0),(10,.mpt 2 0 0),(11,iA v12)]) (st0:=[some (5,[(zbj q)]),some (4,[[.ipt 2 [[.isl 6 (map zb d.1),.imp (map (rKV (fun x=>iA x)) d.2.1)]] 0 0,.isl 1 (map zm d.2.2.1),.isl 1 (map zm d.2.2.2.1),.isl 1 (map zm d.2.2.2.2)]]),some (4,[[.ipt 2 [[.isl 6 (map zb c.1),.imp (map (rKV (fun x=>iA x)) c.2.1)]] 0 0,.mmp 3,.mmp 4,.msl 5 0 (length c.2.2.2.2)]]),some (2,map (rKV (fun x=>iA x)) (ze c.1 c.2.1 R c.2.2.2.1 c.2.2.2.2 S.Name 2)),some (2,map (rKV (fun x=>.agg (zl x))) c.2.2.2.1),some (1,map zm c.2.2.2.2)]) (zy [.old 0,.old 1,.old 2,.old 3,.old 4,.old 5])<|zz ?_;refine A ?_;obtain rfl:=sm h;exact ⟨_,y,zy [.old 0,.old 1,.old 2,.old 3,.old 4,.old 5]⟩
    ·refine zJ ?_;obtain rfl:=sm h;exact ⟨y,_,y,zy [.old 0,.old 1,.old 2,.old 3,.old 4,.old 5]⟩
   ·rintro D rfl;refine zA<|zi<|A ?_;obtain ⟨o,ho,h⟩:=bs h;refine lpB ho (fun z=>[(6,.mpt 0 0 0),(7,zht 2 zS B.1),(9,.mpt 1 0 0),(10,.mpt 2 0 0),(12,iA z)]) (fun z=>[some (5,[(zbj q)]),some (4,[[.ipt 2 [[.isl 6 (map zb d.1),.imp (map (rKV (fun x=>iA x)) d.2.1)]] 0 0,.isl 1 (map zm d.2.2.1),.isl 1 (map zm d.2.2.2.1),.isl 1 (map zm d.2.2.2.2)]]),some (4,[[.ipt 2 [[.isl 6 (map zb c.1),.imp (map (rKV (fun x=>iA x)) c.2.1)]] 0 0,.mmp 3,.mmp 4,.msl 5 0 (length c.2.2.2.2)]]),some (2,map (rKV (fun x=>iA x)) D),some (2,map (rKV (fun x=>.agg (zl x))) c.2.2.2.1),some (1,map zm c.2.2.2.2)]) (fun b=>[]) (fun b=>[]) (pG Tryz.f13 bA) (zbZ [.old 0,.old 1,.old 2,.old 3,.old 4,.old 5]) ?_ ?_
    ·rintro p r h;refine zi<|A ?_;refine zeh h y (fun W h=>?_) fun W h=>?_
     ·refine zg<|zi<|zs<|A ?_;obtain ⟨o,ho,h⟩:=bs h;refine lpS ho (fun z=>[(6,.mpt 0 0 0),(7,zht 2 zS B.1),(9,.mpt 1 0 0),(10,.mpt 2 0 0),(12,iA p),(13,iA z)]) (fun z=>[some (5,[(zbj q)]),some (4,[[.ipt 2 [[.isl 6 (map zb d.1),.imp (map (rKV (fun x=>iA x)) d.2.1)]] 0 0,.isl 1 (map zm d.2.2.1),.isl 1 (map zm d.2.2.2.1),.isl 1 (map zm d.2.2.2.2)]]),some (4,[[.ipt 2 [[.isl 6 (map zb c.1),.imp (map (rKV (fun x=>iA x)) c.2.1)]] 0 0,.mmp 3,.mmp 4,.msl 5 0 (length c.2.2.2.2)]]),some (2,map (rKV (fun x=>iA x)) D),some (2,map (rKV (fun x=>.agg (zl x))) c.2.2.2.1),some (1,map zm c.2.2.2.2)]) (fun b=>[(6,.mpt 0 0 0),(7,zht 2 zS B.1),(9,.mpt 1 0 0),(10,.mpt 2 0 0),(12,iA p)]) (fun b=>[some (5,[(zbj q)]),some (4,[[.ipt 2 [[.isl 6 (map zb d.1),.imp (map (rKV (fun x=>iA x)) d.2.1)]] 0 0,.isl 1 (map zm d.2.2.1),.isl 1 (map zm d.2.2.2.1),.isl 1 (map zm d.2.2.2.2)]]),some (4,[[.ipt 2 [[.isl 6 (map zb c.1),.imp (map (rKV (fun x=>iA x)) c.2.1)]] 0 0,.mmp 3,.mmp 4,.msl 5 0 (length c.2.2.2.2)]]),some (2,map (rKV (fun x=>iA x)) D),some (2,map (rKV (fun x=>.agg (zl x))) c.2.2.2.1),some (1,map zm c.2.2.2.2)]) (pG Tryz.f13 bA) (zbZ [.old 0,.old 1,.old 2,.old 3,.old 4,.old 5]) ?_ ?_ ?_
      ·rintro v r h;refine zi ?_;obtain ⟨v66,q101,h⟩:=bs h;refine A ?_;refine zeh h y (fun N h=>?_) fun N h=>?_
       ·refine zg<|zi<|zs ?_;obtain ⟨J,C,K,l,i,m,H,M,h⟩:=bs4 h;refine rdA [(6,.mpt 0 0 0),(7,zht 2 zS B.1),(9,.mpt 1 0 0),(10,.mpt 2 0 0),(12,iA p),(13,iA v),(14,.mpt 6 0 0),(15,.isl 4 (map zv i.Code))] [some (5,[(zbj q)]),some (4,[[.ipt 2 [[.isl 6 (map zb d.1),.imp (map (rKV (fun x=>iA x)) d.2.1)]] 0 0,.isl 1 (map zm d.2.2.1),.isl 1 (map zm d.2.2.2.1),.isl 1 (map zm d.2.2.2.2)]]),some (4,[[.ipt 2 [[.isl 6 (map zb c.1),.imp (map (rKV (fun x=>iA x)) c.2.1)]] 0 0,.mmp 3,.mmp 4,.msl 5 0 (length c.2.2.2.2)]]),some (2,map (rKV (fun x=>iA x)) D),some (2,map (rKV (fun x=>.agg (zl x))) c.2.2.2.1),some (1,map zm c.2.2.2.2),some (6,[(zam H)])] [10,21,22] [20,19,18,17,16,15,14,13,12,11,9,8,7,6,5,4,3,2,1,0] [(93,.isl 4 (map zv i.Code)),(92,.ipt 10 (map zf K.Methods) (Int.toNat v) 7),(91,.ipt 10 (map zf K.Methods) (Int.toNat v) 0),(90,iA v),(89,.isl 10 (map zf K.Methods)),(88,.ipt 6 (map zb q.L) (Int.toNat p) 5),(87,.ipt 6 (map zb q.L) (Int.toNat p) 0),(86,iA p),(85,.isl 6 (map zb q.L)),(84,.mpt 0 0 0),(82,iA v),(81,sA J.Name),(80,.ipt 6 (map zb q.L) (Int.toNat p) 0),(79,.ipt 6 (map zb q.L) (Int.toNat p) 0),(78,iA p),(77,.isl 6 (map zb q.L)),(76,.mpt 0 0 0),(75,.mpt 2 0 0),(74,.mpt 1 0 0),(73,zht 2 zS B.1)] 3 (zj0 ⟨(pb y (ldI ti y (zt m).2.2 y w)),(pb y (fa ti y y y w)),(pb y (ixI ti y ti y y y m w)),pe,(pb y (ldI ti y (zt l).2.2 y w)),(pb y (fa ti y y y w)),(pb y (ixI ti y ti y y y l w)),pe,(pb y (ld ti y y w)),(pb y (fa ti y y y w)),pe,(pb y (ldI ti y (zt C).2.2 y w)),(pb y (fa ti y y y w)),(pb y (ixI ti y ti y y y C w)),pe,(pb y (ld ti y y w)),(pb y (fa ti y y y w)),pe,pe,pe,t⟩ ⟨(fun _ _=>⟨_,y,y,sc [1,2,3,4,5] (zeE B.1 d.1 d.2.1 d.2.2.1 d.2.2.2.1 d.2.2.2.2 c.1 c.2.1 D c.2.2.2.1 c.2.2.2.2 J.Name v M) y y y y ⟨(rnI (zlE (fun _=>y))),(.mpt y),(.mpt y),(rnI y),(rnI y),t⟩ ⟨⟨_,y,(zwe y)⟩,⟨_,y,⟨(rnI y),(.mmp y),(.mmp y),(.msl y),t⟩⟩,⟨y,mkI (fun _=>y)⟩,⟨y,mkI (fun _=>y)⟩,⟨y,mkI (fun _=>y)⟩,t⟩<|⟨(.agg (zam H)),[],[(83,.agg (zam H))],y,y,kz,y,zj0 ⟨(pb y (ldI ti y (zt m).2.2 y w)),(pb y (fa ti y y y w)),(pb y (ixI ti y ti y y y m w)),pe,(pb y (ldI ti y (zt l).2.2 y w)),(pb y (fa ti y y y w)),(pb y (ixI ti y ti y y y l w)),pe,(pb y (ld ti y y w)),(pb y (fa ti y y y w)),pe,pe,(pb y (fa ti y y y w)),(pb y (ixI ti y ti y y y C w)),pe,(pb y (ld ti y y w)),(pb y (fa ti y y y w)),pe,pe,pe,t⟩ ⟨nv,(fun _ _=>⟨_,y,y,al 6 ti y<|⟨(.mpt 6 0 0),[],[(14,.mpt 6 0 0)],y,y,kz,y,zj0 ⟨(pb y (ldI ti y (zt m).2.2 y w)),(pb y (fa ti y y y w)),(pb y (ixI ti y ti y y y m w)),pe,(pb y (ldI ti y (zt l).2.2 y w)),(pb y (fa ti y y y w)),(pb y (ixI ti y ti y y y l w)),pe,(pb y (ld ti y y w)),(pb y (fa ti y y y w)),pe,pe,(pb y (fa ti y y y w)),(pb y (ixI ti y ti y y y C w)),pe,(pb y (ld ti y y w)),(pb y (fa ti y y y w)),pe,pe,pe,t⟩ ⟨nv,nv,(fun _ _=>⟨_,y,y,sto ti y y y<|⟨.any,[23],[(15,.isl 4 (map zv i.Code))],y,y,kz,t,zvA ⟨pe,(pb y (ldI ti y (zt m).2.2 y w)),(pb y (fa ti y y y w)),(pb y (ixI ti y ti y y y m w)),pe,(pb y (ldI ti y (zt l).2.2 y w)),(pb y (fa ti y y y w)),(pb y (ixI ti y ti y y y l w)),pe,(pb y (ld ti y y w)),(pb y (fa ti y y y w)),pe,pe,pe,pe,pe,pe,pe,pe,pe,pe,t⟩ (zy [.old 0,.old 1,.old 2,.old 3,.old 4,.old 5,.old 6])⟩⟩),t⟩⟩⟩),nw,t⟩⟩⟩),(fun _ _=>⟨_,y,y,al 6 ti y<|⟨(.mpt 6 0 0),[],[(14,.mpt 6 0 0)],y,y,kz,y,zj0 ⟨(pb y (ldI ti y (zt m).2.2 y w)),(pb y (fa ti y y y w)),(pb y (ixI ti y ti y y y m w)),pe,(pb y (ldI ti y (zt l).2.2 y w)),(pb y (fa ti y y y w)),(pb y (ixI ti y ti y y y l w)),pe,(pb y (ld ti y y w)),(pb y (fa ti y y y w)),pe,(pb y (ldI ti y (zt C).2.2 y w)),(pb y (fa ti y y y w)),(pb y (ixI ti y ti y y y C w)),pe,(pb y (ld ti y y w)),(pb y (fa ti y y y w)),pe,pe,pe,t⟩ ⟨(fun _ _=>⟨_,y,y,sc [1,2,3,4,5] (zeE B.1 d.1 d.2.1 d.2.2.1 d.2.2.2.1 d.2.2.2.2 c.1 c.2.1 D c.2.2.2.1 c.2.2.2.2 J.Name v M) y y y y ⟨(rnI (zlE (fun _=>y))),(.mpt y),(.mpt y),(rnI y),(rnI y),t⟩ ⟨⟨_,y,(zwe y)⟩,⟨_,y,⟨(rnI y),(.mmp y),(.mmp y),(.msl y),t⟩⟩,⟨y,mkI (fun _=>y)⟩,⟨y,mkI (fun _=>y)⟩,⟨y,mkI (fun _=>y)⟩,t⟩<|⟨(.agg (zam H)),[],[(83,.agg (zam H))],y,y,kz,y,zj0 ⟨(pb y (ldI ti y (zt m).2.2 y w)),(pb y (fa ti y y y w)),(pb y (ixI ti y ti y y y m w)),pe,(pb y (ldI ti y (zt l).2.2 y w)),(pb y (fa ti y y y w)),(pb y (ixI ti y ti y y y l w)),pe,(pb y (ld ti y y w)),(pb y (fa ti y y y w)),pe,pe,(pb y (fa ti y y y w)),(pb y (ixI ti y ti y y y C w)),pe,(pb y (ld ti y y w)),(pb y (fa ti y y y w)),pe,pe,pe,t⟩ ⟨nv,nv,(fun _ _=>⟨_,y,y,sto ti y y y<|⟨.any,[23],[(15,.isl 4 (map zv i.Code))],y,y,kz,t,zvA ⟨pe,(pb y (ldI ti y (zt m).2.2 y w)),(pb y (fa ti y y y w)),(pb y (ixI ti y ti y y y m w)),pe,(pb y (ldI ti y (zt l).2.2 y w)),(pb y (fa ti y y y w)),(pb y (ixI ti y ti y y y l w)),pe,(pb y (ld ti y y w)),(pb y (fa ti y y y w)),pe,pe,pe,pe,pe,pe,pe,pe,pe,pe,t⟩ (zy [.old 0,.old 1,.old 2,.old 3,.old 4,.old 5,.old 6])⟩⟩),t⟩⟩⟩),nv,nw,t⟩⟩⟩),nw,t⟩) ?_;refine zi<|A ?_;refine zeh h y (fun O h=>?_) fun O h=>?_
        ·refine A ?_;refine zL ?_;obtain rfl:=sm h;exact ⟨_,y,_,y,zbc []⟩
        ·refine zg<|A ?_;obtain ⟨o,ho,h⟩:=bs h;refine lpS ho (fun z=>[(6,.mpt 0 0 0),(7,zht 2 zS B.1),(9,.mpt 1 0 0),(10,.mpt 2 0 0),(12,iA p),(13,iA v),(14,.mpt 6 0 0),(15,.isl 4 (map zv i.Code)),(16,iA z)]) (fun z=>[some (5,[(zbj q)]),some (4,[[.ipt 2 [[.isl 6 (map zb d.1),.imp (map (rKV (fun x=>iA x)) d.2.1)]] 0 0,.isl 1 (map zm d.2.2.1),.isl 1 (map zm d.2.2.2.1),.isl 1 (map zm d.2.2.2.2)]]),some (4,[[.ipt 2 [[.isl 6 (map zb c.1),.imp (map (rKV (fun x=>iA x)) c.2.1)]] 0 0,.mmp 3,.mmp 4,.msl 5 0 (length c.2.2.2.2)]]),some (2,map (rKV (fun x=>iA x)) D),some (2,map (rKV (fun x=>.agg (zl x))) c.2.2.2.1),some (1,map zm c.2.2.2.2),some (6,[(zam H)])]) (fun b=>[(6,.mpt 0 0 0),(7,zht 2 zS B.1),(9,.mpt 1 0 0),(10,.mpt 2 0 0),(12,iA p),(13,iA v)]) (fun b=>[some (5,[(zbj q)]),some (4,[[.ipt 2 [[.isl 6 (map zb d.1),.imp (map (rKV (fun x=>iA x)) d.2.1)]] 0 0,.isl 1 (map zm d.2.2.1),.isl 1 (map zm d.2.2.2.1),.isl 1 (map zm d.2.2.2.2)]]),some (4,[[.ipt 2 [[.isl 6 (map zb c.1),.imp (map (rKV (fun x=>iA x)) c.2.1)]] 0 0,.mmp 3,.mmp 4,.msl 5 0 (length c.2.2.2.2)]]),some (2,map (rKV (fun x=>iA x)) D),some (2,map (rKV (fun x=>.agg (zl x))) c.2.2.2.1),some (1,map zm c.2.2.2.2)]) (pG Tryz.f13 bA) (zbZ [.old 0,.old 1,.old 2,.old 3,.old 4,.old 5,.old 6]) ?_ ?_ ?_
         ·rintro j r h;refine zi<|A ?_;refine zeh h y (fun P h=>?_) fun P h=>?_
          ·refine zg<|zi<|zs ?_;obtain ⟨a,q120,h⟩:=bs h;refine A ?_;refine A ?_;refine zbG (X:=Bool) (fun z=>[(6,.mpt 0 0 0),(7,zht 2 zS B.1),(9,.mpt 1 0 0),(10,.mpt 2 0 0),(12,iA p),(13,iA v),(14,.mpt 6 0 0),(15,.isl 4 (map zv i.Code)),(16,iA j),(154,bA z)]) (fun z=>[some (5,[(zbj q)]),some (4,[[.ipt 2 [[.isl 6 (map zb d.1),.imp (map (rKV (fun x=>iA x)) d.2.1)]] 0 0,.isl 1 (map zm d.2.2.1),.isl 1 (map zm d.2.2.2.1),.isl 1 (map zm d.2.2.2.2)]]),some (4,[[.ipt 2 [[.isl 6 (map zb c.1),.imp (map (rKV (fun x=>iA x)) c.2.1)]] 0 0,.mmp 3,.mmp 4,.msl 5 0 (length c.2.2.2.2)]]),some (2,map (rKV (fun x=>iA x)) D),some (2,map (rKV (fun x=>.agg (zl x))) c.2.2.2.1),some (1,map zm c.2.2.2.2),some (6,[(zam H)])]) (fun z=>zdg j z=some r) ?_ ?_
           ·obtain ⟨f,F,h⟩:=bs h
            rcases bb (!(a.Op == f.Op)) with e |e
            ·replace h:=bT e h;exact rdQ [] [0,1,2,3,4,5,6,7,8,9,10,11,12,13,14,15,16,17,18,19,20,21,22,23,24,25] [(154,_),(153,_),(152,_),(151,_),(150,_),(149,_),(148,_),(147,_),(146,_),(145,_),(144,_),(143,_),(142,_),(141,_),(140,_),(139,_),(138,_),(137,_),(136,_),(135,_),(134,_),(133,_),(132,_),(131,_),(130,_),(129,_)] 0 (zgE (z:=by exact ⟨true,h,zbZ [.old 0,.old 1,.old 2,.old 3,.old 4,.old 5,.old 6]⟩))
            ·replace h:=bF e h;obtain ⟨n,G,h⟩:=bs h
             rcases bb (!(a.A == n.A)) with I |I
             ·replace h:=bT I h;exact zbx [] [25,24,23,22,21,20,19,18,17,16,15,14,13,12,11,10,9,8,7,6,5,4,3,2,1,0] [(154,bA true),(153,.lit undef),(152,.lit undef),(151,.lit undef),(150,.lit undef),(149,.lit undef),(148,.lit undef),(147,bA (!(a.A == n.A))),(146,bA (!(a.A == n.A))),(145,bA (!(a.A == n.A))),(144,iA n.A),(143,.ipt 4 (map zv i.Code) (Int.toNat j) 1),(142,.ipt 4 (map zv i.Code) (Int.toNat j) 0),(141,iA j),(140,.isl 4 (map zv i.Code)),(139,iA a.A),(138,.mpt 7 0 1),(137,bA (!(a.Op == f.Op))),(136,bA (!(a.Op == f.Op))),(135,iA f.Op),(134,.ipt 4 (map zv i.Code) (Int.toNat j) 0),(133,.ipt 4 (map zv i.Code) (Int.toNat j) 0),(132,iA j),(131,.isl 4 (map zv i.Code)),(130,iA a.Op),(129,.mpt 7 0 0)] 0 kz kz y kz (zvA ⟨pe,pe,pe,pe,pe,pe,pe,pe,pe,(fun _=>pag (b:=(!(a.Op == f.Op))) y y y y e y (neq ti y y<|w)),(fun _=>pag (b:=(!(a.Op == f.Op))) y y y y e y (ldI ti y (zt G).2.2 y<|w)),(fun _=>pag (b:=(!(a.Op == f.Op))) y y y y e y (fa ti y y y<|w)),(fun _=>pag (b:=(!(a.Op == f.Op))) y y y y e y (ixI ti y ti y y y G<|w)),pe,pe,(fun _=>pag (b:=(!(a.Op == f.Op))) y y y y e y (ld ti y y<|w)),(fun _=>pag (b:=(!(a.Op == f.Op))) y y y y e y (fa ti y y y<|w)),pe,(pb y (neq ti y y w)),(pb y (ldI ti y (zt F).2.2 y w)),(pb y (fa ti y y y w)),(pb y (ixI ti y ti y y y F w)),pe,pe,(pb y (ld ti y y w)),(pb y (fa ti y y y w)),t⟩ ⟨true,h,zy [.old 0,.old 1,.old 2,.old 3,.old 4,.old 5,.old 6]⟩)
             ·replace h:=bF I h
              rcases bb ((((a.Op == (37:Int))||(a.Op == (40:Int)))||(a.Op == (41:Int)))||(a.Op == (42:Int))) with s |s
              ·replace h:=bT s h;exact zbx [] [25,24,23,22,21,20,19,18,17,16,15,14,13,12,11,10,9,8,7,6,5,4,3,2,1,0] [(154,bA (!(a.Y == ((-1):Int)))),(153,bA (!(a.Y == ((-1):Int)))),(152,bA (!(a.Y == ((-1):Int)))),(151,iA a.Y),(150,.mpt 7 0 3),(149,bA ((((a.Op == (37:Int))||(a.Op == (40:Int)))||(a.Op == (41:Int)))||(a.Op == (42:Int)))),(148,bA ((((a.Op == (37:Int))||(a.Op == (40:Int)))||(a.Op == (41:Int)))||(a.Op == (42:Int)))),(147,bA (!(a.A == n.A))),(146,bA (!(a.A == n.A))),(145,bA (!(a.A == n.A))),(144,iA n.A),(143,.ipt 4 (map zv i.Code) (Int.toNat j) 1),(142,.ipt 4 (map zv i.Code) (Int.toNat j) 0),(141,iA j),(140,.isl 4 (map zv i.Code)),(139,iA a.A),(138,.mpt 7 0 1),(137,bA (!(a.Op == f.Op))),(136,bA (!(a.Op == f.Op))),(135,iA f.Op),(134,.ipt 4 (map zv i.Code) (Int.toNat j) 0),(133,.ipt 4 (map zv i.Code) (Int.toNat j) 0),(132,iA j),(131,.isl 4 (map zv i.Code)),(130,iA a.Op),(129,.mpt 7 0 0)] 0 kz kz y kz (zvA ⟨pe,pe,(fun _=>pag (b:=((((a.Op == (37:Int))||(a.Op == (40:Int)))||(a.Op == (41:Int)))||(a.Op == (42:Int)))) y y y y s y (neq ti y y<|w)),(fun _=>pag (b:=((((a.Op == (37:Int))||(a.Op == (40:Int)))||(a.Op == (41:Int)))||(a.Op == (42:Int)))) y y y y s y (ld ti y y<|w)),(fun _=>pag (b:=((((a.Op == (37:Int))||(a.Op == (40:Int)))||(a.Op == (41:Int)))||(a.Op == (42:Int)))) y y y y s y (fa ti y y y<|w)),pe,pe,pe,pe,(fun _=>pag (b:=(!(a.Op == f.Op))) y y y y e y (neq ti y y<|w)),(fun _=>pag (b:=(!(a.Op == f.Op))) y y y y e y (ldI ti y (zt G).2.2 y<|w)),(fun _=>pag (b:=(!(a.Op == f.Op))) y y y y e y (fa ti y y y<|w)),(fun _=>pag (b:=(!(a.Op == f.Op))) y y y y e y (ixI ti y ti y y y G<|w)),pe,pe,(fun _=>pag (b:=(!(a.Op == f.Op))) y y y y e y (ld ti y y<|w)),(fun _=>pag (b:=(!(a.Op == f.Op))) y y y y e y (fa ti y y y<|w)),pe,(pb y (neq ti y y w)),(pb y (ldI ti y (zt F).2.2 y w)),(pb y (fa ti y y y w)),(pb y (ixI ti y ti y y y F w)),pe,pe,(pb y (ld ti y y w)),(pb y (fa ti y y y w)),t⟩ ⟨(!(a.Y == ((-1):Int))),h,zy [.old 0,.old 1,.old 2,.old 3,.old 4,.old 5,.old 6]⟩)
              ·replace h:=bF s h;exact zbx [] [25,24,23,22,21,20,19,18,17,16,15,14,13,12,11,10,9,8,7,6,5,4,3,2,1,0] [(154,bA false),(153,bA false),(152,.lit undef),(151,.lit undef),(150,.lit undef),(149,bA ((((a.Op == (37:Int))||(a.Op == (40:Int)))||(a.Op == (41:Int)))||(a.Op == (42:Int)))),(148,bA ((((a.Op == (37:Int))||(a.Op == (40:Int)))||(a.Op == (41:Int)))||(a.Op == (42:Int)))),(147,bA (!(a.A == n.A))),(146,bA (!(a.A == n.A))),(145,bA (!(a.A == n.A))),(144,iA n.A),(143,.ipt 4 (map zv i.Code) (Int.toNat j) 1),(142,.ipt 4 (map zv i.Code) (Int.toNat j) 0),(141,iA j),(140,.isl 4 (map zv i.Code)),(139,iA a.A),(138,.mpt 7 0 1),(137,bA (!(a.Op == f.Op))),(136,bA (!(a.Op == f.Op))),(135,iA f.Op),(134,.ipt 4 (map zv i.Code) (Int.toNat j) 0),(133,.ipt 4 (map zv i.Code) (Int.toNat j) 0),(132,iA j),(131,.isl 4 (map zv i.Code)),(130,iA a.Op),(129,.mpt 7 0 0)] 0 kz kz y kz (zvA ⟨pe,pe,pe,pe,pe,pe,pe,pe,pe,(fun _=>pag (b:=(!(a.Op == f.Op))) y y y y e y (neq ti y y<|w)),(fun _=>pag (b:=(!(a.Op == f.Op))) y y y y e y (ldI ti y (zt G).2.2 y<|w)),(fun _=>pag (b:=(!(a.Op == f.Op))) y y y y e y (fa ti y y y<|w)),(fun _=>pag (b:=(!(a.Op == f.Op))) y y y y e y (ixI ti y ti y y y G<|w)),pe,pe,(fun _=>pag (b:=(!(a.Op == f.Op))) y y y y e y (ld ti y y<|w)),(fun _=>pag (b:=(!(a.Op == f.Op))) y y y y e y (fa ti y y y<|w)),pe,(pb y (neq ti y y w)),(pb y (ldI ti y (zt F).2.2 y w)),(pb y (fa ti y y y w)),(pb y (ixI ti y ti y y y F w)),pe,pe,(pb y (ld ti y y w)),(pb y (fa ti y y y w)),t⟩ ⟨false,h,zy [.old 0,.old 1,.old 2,.old 3,.old 4,.old 5,.old 6]⟩)
           ·rintro v80 h;refine zeh h y (fun Q h=>?_) fun Q h=>?_
            ·refine A ?_;refine zL ?_;obtain rfl:=sm h;exact ⟨_,y,_,y,zbc []⟩
            ·refine zg<|A ?_;obtain rfl:=sm h;exact ⟨_,y,zy [.old 0,.old 1,.old 2,.old 3,.old 4,.old 5,.old 6]⟩
          ·refine zJ ?_;obtain rfl:=sm h;exact ⟨y,_,y,zy [.old 0,.old 1,.old 2,.old 3,.old 4,.old 5]⟩
         ·rintro ⟨⟩ rfl;refine zA<|A ?_;obtain rfl:=sm h;exact ⟨_,y,zy [.old 0,.old 1,.old 2,.old 3,.old 4,.old 5]⟩
         ·rintro r' rfl env st hp;obtain rfl:=sm h;exact ⟨_,y,hp⟩
       ·refine zJ ?_;obtain rfl:=sm h;exact ⟨y,_,y,zy [.old 0,.old 1,.old 2,.old 3,.old 4,.old 5]⟩
      ·rintro ⟨⟩ rfl;refine zA<|A ?_;obtain rfl:=sm h;exact ⟨_,y,zy [.old 0,.old 1,.old 2,.old 3,.old 4,.old 5]⟩
      ·rintro r' rfl env st hp;obtain rfl:=sm h;exact ⟨_,y,hp⟩
     ·refine zJ ?_;obtain rfl:=sm h;exact ⟨y,_,y,zy []⟩
    ·rintro ⟨⟩ rfl;refine zA<|A ?_;exact RT0
instance (a:List za)(b:z8):PF Tryz.prog 13 [.isl 6 (map zb a),.agg (zfA b)] (zhM a b) bA:=⟨fun _=>zj6 a b⟩
theorem zw{α:Type}(l:List α)(i:Nat):idx l (i:Int)=l[i]?:=by
 unfold idx;rw [if_pos (by omega),JL]
theorem zkF{α:Type}(l:List α):idx l 0=l[0]?:=zw l 0
theorem znG{n:Int}(h1:-9223372036854775808≤n)(h2:n≤9223372036854775807):IntKind.i64.wrap n=n:=IntWalk.i64_in n ⟨h1,h2⟩
theorem zU{i:Nat}(h:i<9223372036854775807):IntKind.i64.wrap ((i:Int)+1)=((i+1:Nat):Int):=by
 rw [znG (by omega) (by omega)];omega
theorem zum{α:Type}{l:List α}{a b:Int}(h0:0≤a)(h1:a≤b)(h2:b≤l.length):zkS l a b=some ((l.drop a.toNat).take (b.toNat-a.toNat)):=by
 unfold zkS;rw [if_pos ⟨h0,h1,h2⟩]
theorem zpN{α:Type}{l:List α}{b:Nat}(h:b≤l.length):zkS l 0 (b:Int)=some (l.take b):=by
 rw [zum (by omega) (by omega) (by omega)];simp
theorem zih{α:Type}{l:List α}{a:Nat}(h:a≤l.length):zkS l (a:Int) (l.length:Int)=some (l.drop a):=by
 rw [zum (by omega) (by omega) (by omega)];simp only [JL];rw [Jt (by simp)]
theorem zbi{α:Type}{w:Nat}{l x:List α}(h:(l.length+x.length)*w≤140737488355328)(h2:l.length+x.length≤9223372036854775807):zhj w l x=some (l++x):=by
 unfold zhj;rw [if_pos ⟨h,h2⟩]
theorem zhx{l x:List UInt8}(h:l.length+x.length≤9223372036854775807):zrP l x=some (l++x):=by unfold zrP;rw [if_pos h]
def zqf{R U:Type}(u:U):Option R→Sum U R
 |some r=>.inr r
 |none=>.inl u
def zy3{R U:Type}(i:Nat):Option R→Sum Int (Sum U R)
 |some r=>.inr (.inr r)
 |none=>.inl ((i+1:Nat):Int)
theorem zuG{α R U:Type}{body:Int→Option (Sum Int (Sum U R))}{l:List α}{g:α→Option R}{u:U}{k:Nat}
  (hb:∀(i:Nat) x,k≤i→l[i]?=some x→body (i:Int)=some (zy3 i (g x)))
  (he:body (l.length:Int)=some (.inr (.inl u))) (hk:k≤l.length):zr body (k:Int)=some (zqf u ((l.drop k).findSome? g)):=by
 have key:∀d i,l.length-i=d→k≤i→i≤l.length→zr body (i:Int)=some (zqf u ((l.drop i).findSome? g)):=by
  intro d
  induction d with
  |zero =>
   intro i hd hki hi
   have:i=l.length:=by omega
   subst this;rw [zR,he,List.drop_length];rfl
  |succ d ih =>
   intro i hd hki hi
   have hlt:i<l.length:=by omega
   rw [zR,hb i l[i] hki (Qe hlt),JD hlt,Q1]
   cases g l[i] with
   |some r=>rfl
   |none =>
    show zr body ((i+1:Nat):Int)=_;exact ih (i+1) (by omega) (by omega) (by omega)
 exact key _ k rfl (Qg _) hk
theorem zeq{α R U:Type}{body:Int→Option (Sum Int (Sum U R))}{l:List α}{g:α→Option R}{u:U}
  (hb:∀(i:Nat) x,l[i]?=some x→body (i:Int)=some (zy3 i (g x)))
  (he:body (l.length:Int)=some (.inr (.inl u))):zr body 0=some (zqf u (l.findSome? g)):=
 zuG (k:=0) (fun i x _=>hb i x) he (Qv _)
theorem zsC{R U:Type}{body:Int→Option (Sum Int (Sum U R))}{n:Nat}{g:Nat→Option R}{u:U}
  (hb:∀i,i<n→body (i:Int)=some (zy3 i (g i)))
  (he:body (n:Int)=some (.inr (.inl u))):zr body 0=some (zqf u ((List.range n).findSome? g)):=by
 have h:=zeq (body:=body) (l:=List.range n) (g:=g) (u:=u) (fun i x hx=>by
  have hi:i<n:=by
   have:=(Qb.1 hx).1;simpa using this
  have hx':x=i:=by
   have:=(Qb.1 hx).2;simpa using this.symm
  subst hx'
  exact hb x hi) (by rw [List.length_range];exact he)
 exact h
theorem zcK{α R:Type}(l:List α)(p:α→Bool)(r:R):l.findSome? (fun x=>cond (p x) (some r) none)=cond (l.any p) (some r) none:=by
 induction l with
 |nil=>rfl
 |cons x l ih =>
  rw [Q1,Jg]
  cases p x with
  |true=>rfl
  |false=>simpa using ih
def zig(n:Int):Nat:=if n<0 then (-2*n-1).toNat else (2*n).toNat
def zGV:Nat→Nat→List UInt8
 | 0,_=>[]
 |k+1,u=>if 127<u then UInt8.ofNat (u % 128+128)::zGV k (u / 128) else [UInt8.ofNat u]
def put(n:Int):List UInt8:=zGV 10 (zig n)
def okC(x:UInt8):Bool:=zhp x||zeW x||ziG x
def zEj(p:UInt8→Bool):List UInt8→Bool
 | []=>false
 |x :: _=>p x
def ztZ(s:List UInt8):Bool:=s.all okC&&(!(s == [])&&decide ((s.length:Int)≤8))
def zcT(s:List UInt8):Bool:=ztZ s&&decide (1<(s.length:Int))&&zEj zeW s
def zv2(s:List UInt8):Bool:=(s == [36,105,110,105,116])||(ztZ s&&zEj zhp s)
def zgB:List UInt8→List UInt8
 | []=>[]
 |x ::r=>if x=91 then r else x ::r
def zgm(s:List UInt8):Bool:=(zgB (zgB s) == [73])||zcT (zgB (zgB s))
def zsf(s:List UInt8):Bool:=!(s == [73])&&zgm s
def zwd(s:List UInt8):Bool:=(s == [86])||zgm s
abbrev Len(s:List UInt8):Prop:=s.length≤9223372036854775807
theorem zz8{α:Type}(l:List α)(p:α→Bool):l.any (fun x=>!p x)=!l.all p:=by
 induction l with
 |nil=>rfl
 |cons x l ih=>rw [Jg,List.all_cons,ih];cases p x <;> rfl
theorem zql{s:List UInt8}(h:Len s):zmM s=some (ztZ s):=by
 have hl:zr (fun z=>zh5 s z) 0=_:=zeq (l:=s) (g:=fun x=>cond (!okC x) (some false) none) (u:=()) (fun i x hx=>by
  have hi:=(Qb.1 hx).1;show zh5 s (i:Int)=_;unfold zh5;rw [zw,hx,decide_eq_true (by omega),zU (by unfold Len at h;omega)];unfold okC
  cases h1:zhp x <;> cases h2:zeW x <;> cases h3:ziG x <;> simp [h1,h2,h3,zy3]) (by
  show zh5 s (s.length:Int)=_;unfold zh5;rw [decide_eq_false (by omega)]
  rfl)
 unfold zmM;rw [hl,zcK,zz8];unfold ztZ;cases s.all okC <;> rfl
theorem zsw(p:UInt8→Bool)(x:UInt8)(r:List UInt8):zEj p (x ::r)=p x:=rfl
theorem zxH{s:List UInt8}(h:ztZ s=true):∃x r,s=x ::r:=by
 cases s with
 |nil=>exact absurd h (by decide)
 |cons x r=>exact ⟨x,r,rfl⟩
theorem zho{s:List UInt8}(h:Len s):zhn s=some (zcT s):=by
 unfold zhn;rw [zql h,zkF];unfold zcT
 cases hw:ztZ s with
 |false=>rfl
 |true =>
  obtain ⟨x,r,rfl⟩:=zxH hw;simp only [Qa,QD,Q9];cases decide (1<((x ::r).length:Int)) <;> rfl
theorem zmL{s:List UInt8}(h:Len s):zk6 s=some (zv2 s):=by
 unfold zk6;rw [zql h,zkF];unfold zv2
 cases s == [36,105,110,105,116] with
 |true=>rfl
 |false =>
  cases hw:ztZ s with
  |false=>rfl
  |true =>
   obtain ⟨x,r,rfl⟩:=zxH hw;rfl
theorem zhv(x:UInt8)(r:List UInt8):zgB (x ::r)=if x=91 then r else x ::r:=rfl
theorem zpE(s:List UInt8):(zgB s).length≤s.length:=by
 cases s with
 |nil=>exact Qg _
 |cons x r=>rw [zhv];split <;> simp
theorem zA7{s:List UInt8}(h:Len s):zfH s [91]=some (zgB s):=by
 unfold zfH zdB zdX
 cases s with
 |nil=>rfl
 |cons x r =>
  have e1:decide ((List.length [(91:UInt8)]:Int)≤(List.length (x ::r):Int))=true:=decide_eq_true (by simp only [Qx,Q5];omega)
  have e2:zkS (x ::r) 0 (List.length [(91:UInt8)]:Int)=some [x]:=by
   have:=zpN (l:=x ::r) (b:=1) (by simp);simpa using this
  have e3:zkS (x ::r) (List.length [(91:UInt8)]:Int) (List.length (x ::r):Int)=some r:=by
   have:=zih (l:=x ::r) (a:=1) (by simp);simpa using this
  rw [e1,e2,e3,zhv];by_cases hx:x=91
  ·subst hx;rfl
  ·rw [if_neg hx]
   have:([x] == [(91:UInt8)])=false:=by simp [hx]
   simp [this]
theorem zhV{s:List UInt8}(h:Len s):zi0 s=some (zgm s):=by
 have h1:=zpE s;have h2:=zpE (zgB s);unfold zi0;rw [zA7 h,Qa,zA7 (by unfold Len at *;omega),Qa,zho (by unfold Len at *;omega)];unfold zgm;cases zgB (zgB s) == [73] <;> rfl
theorem ziF{s:List UInt8}(h:Len s):zjE s=some (zsf s):=by
 unfold zjE;rw [zhV h];unfold zsf;cases s == [73] <;> rfl
theorem zvN{s:List UInt8}(h:Len s):zqD s=some (zwd s):=by
 unfold zqD;rw [zhV h];unfold zwd;cases s == [86] <;> rfl
theorem zu6(x:UInt8):znu x=zeW x:=rfl
theorem zyt(x:UInt8):zlS x=zhp x:=rfl
theorem zAy(x:UInt8):znt x=ziG x:=rfl
theorem ztJ{s:List UInt8}(h:Len s):znr s=some (zcT s):=by
 unfold znr
 have hend:zez s (s.length:Int)=some (.inr (.inl ())):=by
  unfold zez;rw [decide_eq_false (by omega)];rfl
 cases s with
 |nil=>rw [zR];rfl
 |cons x r =>
  have hrest:zr (fun z=>zez (x ::r) z) ((1:Nat):Int)=some (zqf () (((x ::r).drop 1).findSome? (fun y=>cond (!okC y) (some false) none))):=
   zuG (k:=1) (g:=fun y=>cond (!okC y) (some false) none) (fun i y hi hy=>by
    have hlt:=(Qb.1 hy).1;show zez (x ::r) (i:Int)=_;unfold zez;rw [zw,hy,decide_eq_true (by omega),zU (by unfold Len at h;omega)]
    have e:((i:Int) == (0:Int))=false:=by simp;omega
    rw [e];simp only [zu6,zyt,zAy];unfold okC
    cases h1:zhp y <;> cases h2:zeW y <;> cases h3:ziG y <;> simp [h1,h2,h3,zy3]) hend (by simp)
  have hfirst:zez (x ::r) 0=some (cond (zeW x) (.inl 1) (.inr (.inr false))):=by
   unfold zez;rw [zkF,decide_eq_true (by simp only [Qx,Q5];omega)];simp only [zu6]
   have:IntKind.i64.wrap (0+1)=1:=by decide
   rw [this];simp only [Q9,Qa];cases hg:zeW x <;> rfl
  rw [zR,hfirst]
  cases hg:zeW x with
  |false =>
   have:zcT (x ::r)=false:=by unfold zcT;rw [zsw,hg];simp
   rw [this];rfl
  |true =>
   show ((zr (fun z=>zez (x ::r) z) ((1:Nat):Int)).bind _)=_;rw [hrest,List.drop_one,List.tail_cons,zcK,zz8]
   have:zcT (x ::r)=(r.all okC&&(decide (2≤(List.length (x ::r):Int))&&decide ((List.length (x ::r):Int)≤8))):=by
    unfold zcT ztZ;rw [zsw]
    have ho:okC x=true:=by unfold okC;rw [hg];simp
    rw [List.all_cons,ho,hg]
    have e:decide (1<(List.length (x ::r):Int))=decide (2≤(List.length (x ::r):Int)):=by congr 1
    rw [e];have e2:((x ::r) == [])=false:=rfl;rw [e2];cases r.all okC <;> cases decide (2≤(List.length (x ::r):Int)) <;> cases decide ((List.length (x ::r):Int)≤8) <;> rfl
   rw [this];cases r.all okC <;> rfl
theorem zoI{s:List UInt8}(h:Len s):zns s=some (zgm s):=by
 have step:∀(t:List UInt8) (i:Int),i<2→ziQ t i=some (match t with | []=>.inr (.inl []) |x ::r=>if x=91 then .inl (r,IntKind.i64.wrap (i+1)) else .inr (.inl (x ::r))):=fun t i hi=>by
  unfold ziQ;rw [decide_eq_true hi]
  cases t with
  |nil=>rfl
  |cons x r =>
   have e1:decide ((0:Int)<(List.length (x ::r):Int))=true:=decide_eq_true (by simp only [Qx,Q5];omega)
   have e3:zkS (x ::r) 1 (List.length (x ::r):Int)=some r:=by
    have:=zih (l:=x ::r) (a:=1) (by simp);simpa using this
   rw [e1,zkF,e3];by_cases hx:x=91
   ·subst hx;rfl
   ·have e:((x.toNat:Int) == (91:Int))=false:=by
     rw [beq_eq_false_iff_ne];intro h;apply hx
     have:x.toNat=(91:UInt8).toNat:=by simp;omega
     exact JZ.1 this
    simp [e,if_neg hx]
 have stop:∀t:List UInt8,ziQ t 2=some (.inr (.inl t)):=fun t=>by unfold ziQ;simp
 have hl:zr (fun z:List UInt8×Int=>ziQ z.1 z.2) (s,0)=some (.inl (zgB (zgB s))):=by
  have w1:IntKind.i64.wrap (0+1)=1:=by decide
  have w2:IntKind.i64.wrap (1+1)=2:=by decide
  rw [zR];simp only [step s 0 (by omega)]
  cases s with
  |nil=>rfl
  |cons x r =>
   rw [zhv];by_cases hx:x=91
   ·simp only [if_pos hx,Qa,JM,w1];rw [zR];simp only [step r 1 (by omega)]
    cases r with
    |nil=>rfl
    |cons y q =>
     by_cases hy:y=91
     ·simp only [if_pos hy,Qa,JM,w2];rw [zR];simp only [stop];rw [zhv,if_pos hy];rfl
     ·simp only [if_neg hy,Qa,Sum.elim_inr];rw [zhv,if_neg hy]
   ·simp only [if_neg hx,Qa,Sum.elim_inr];rw [zhv,if_neg hx]
 have h1:=zpE s;have h2:=zpE (zgB s);unfold zns;rw [hl];show zoJ _=_;unfold zoJ zgm;rw [ztJ (by unfold Len at *;omega)];cases zgB (zgB s) == [73] <;> rfl
def zvY(o:Int)(s:List UInt8):Bool:=cond (zjI o) (zsf s) (cond (zEX o) (zcT s) (s == []))
def zEr(o:Int)(s:List UInt8):Bool:=cond (zEY o) (zv2 s&&!(s == [36,105,110,105,116])) (s == [])
def zn3(x:zn):Bool:=(znq x.Op&&zoH x.Op x.A)&&zvY x.Op x.C&&zEr x.Op x.M
theorem zyl{o:Int}{s:List UInt8}(h:Len s):ztD o s=some (zvY o s):=by
 unfold ztD zvY;rw [ziF h,zho h];cases zjI o <;> cases zEX o <;> rfl
theorem zym{o:Int}{s:List UInt8}(h:Len s):ztE o s=some (zEr o s):=by
 unfold ztE zEr;rw [zmL h];cases zEY o <;> rfl
theorem zAi{x:zn}(hC:Len x.C)(hM:Len x.M):zxd x=some (zn3 x):=by
 unfold zxd zn3;rw [zyl hC,zym hM];cases (znq x.Op&&zoH x.Op x.A) <;> cases zvY x.Op x.C <;> rfl
def ixF{α:Type}(p:α→Bool):Nat→List α→Int
 |_,[]=>-1
 |k,x ::r=>cond (p x) (k:Int) (ixF p (k+1) r)
theorem zem{α:Type}(p:α→Bool):∀(k:Nat) (l:List α),decide (0≤ixF p k l)=l.any p
 |_,[]=>rfl
 |k,x ::r=>by
  unfold ixF;rw [Jg]
  cases p x with
  |true=>exact decide_eq_true (show (0:Int)≤(k:Int) by omega)
  |false=>exact zem p (k+1) r
theorem zaz{α:Type}{body:Int→Option (Sum Int (Sum Unit Int))}{l:List α}{p:α→Bool}(hl:l.length≤9223372036854775807)
  (hb:∀(i:Nat) x,l[i]?=some x→body (i:Int)=cond (p x) (some (.inr (.inr (i:Int)))) (some (.inl (IntKind.i64.wrap ((i:Int)+1)))))
  (he:body (l.length:Int)=some (.inr (.inl ()))):
  (zr body 0).bind (fun o=>zQ o (fun _=>some (-1:Int)) some)=some (ixF p 0 l):=by
 have key:∀(r pre:List α),l=pre++r→(zr body (pre.length:Int)).bind (fun o=>zQ o (fun _=>some (-1:Int)) some)=some (ixF p pre.length r):=by
  intro r
  induction r with
  |nil =>
   intro pre h;rw [Qz] at h;subst h;rw [zR,he];rfl
  |cons x r ih =>
   intro pre h
   have hlen:l.length=pre.length+(r.length+1):=by rw [h];simp
   have hx:l[pre.length]?=some x:=by rw [h];simp
   rw [zR,hb _ x hx];unfold ixF
   cases p x with
   |true=>rfl
   |false =>
    rw [zU (by omega)];have:=ih (pre++[x]) (by rw [h];simp);rw [show (pre++[x]).length=pre.length+1 by simp] at this;exact this
 exact key l [] rfl
def uB{α:Type}(ok:α→Bool)(nm:α→List UInt8):List α→List α→Bool
 |_,[]=>false
 |pre,x ::r=>(!ok x||pre.any (fun y=>nm x == nm y))||uB ok nm (pre++[x]) r
theorem zrM{α:Type}{body:Int→Option (Sum Int (Sum Unit Bool))}{l:List α}{ok:α→Bool}{nm:α→List UInt8}(hl:l.length≤9223372036854775807)
  (hb:∀(i:Nat) x,l[i]?=some x→body (i:Int)=cond (!ok x||(l.take i).any (fun y=>nm x == nm y)) (some (.inr (.inr false))) (some (.inl (IntKind.i64.wrap ((i:Int)+1)))))
  (he:body (l.length:Int)=some (.inr (.inl ()))) {k:Option Bool}:
  (zr body 0).bind (fun o=>zQ o (fun _=>k) some)=cond (uB ok nm [] l) (some false) k:=by
 have key:∀(r pre:List α),l=pre++r→(zr body (pre.length:Int)).bind (fun o=>zQ o (fun _=>k) some)=cond (uB ok nm pre r) (some false) k:=by
  intro r
  induction r with
  |nil =>
   intro pre h;rw [Qz] at h;subst h;rw [zR,he];rfl
  |cons x r ih =>
   intro pre h
   have hlen:l.length=pre.length+(r.length+1):=by rw [h];simp
   have hx:l[pre.length]?=some x:=by rw [h];simp
   have ht:l.take pre.length=pre:=by rw [h];simp
   rw [zR,hb _ x hx,ht];unfold uB
   cases !ok x||pre.any (fun y=>nm x == nm y) with
   |true=>rfl
   |false =>
    rw [zU (by omega)];have:=ih (pre++[x]) (by rw [h];simp);rw [show (pre++[x]).length=pre.length+1 by simp] at this;exact this
 exact key l [] rfl
abbrev zlm{α:Type}(l:List α):Prop:=l.length≤9223372036854775807
theorem ze8{α:Type}{l:List α}{i:Nat}{x:α}(h:l[i]?=some x):decide ((i:Int)<(l.length:Int))=true:=
 decide_eq_true (by have:=(Qb.1 h).1;omega)
theorem zfM{α:Type}(l:List α):decide ((l.length:Int)<(l.length:Int))=false:=decide_eq_false (by omega)
theorem zBW{l:List zj}(hl:zlm l)(n t:List UInt8)(s:Bool):zax l n t s=some (l.any fun y=>n == y.Name):=by
 unfold zax zcA
 rw [show ((zr (fun z=>za3 l n t s z) 0).bind fun o=>zQ o (fun b=>zd5) some)=_ from zaz (p:=fun y:zj=>n == y.Name) hl
  (fun i x hx=>by unfold za3;rw [ze8 hx,zw,hx];rfl) (by unfold za3;rw [zfM];rfl)]
 exact congrArg some (zem _ 0 l)
theorem zzK{l:List zc}(hl:zlm l)(n:List UInt8)(a b c d e f g h i):zar l n a b c d e f g h i=some (l.any fun y=>n == y.Name):=by
 unfold zar zci
 rw [show ((zr (fun z=>zaT l n a b c d e f g h i z) 0).bind fun o=>zQ o (fun b=>zdw) some)=_ from zaz (p:=fun y:zc=>n == y.Name) hl
  (fun i x hx=>by unfold zaT;rw [ze8 hx,zw,hx];rfl) (by unfold zaT;rw [zfM];rfl)]
 exact congrArg some (zem _ 0 l)
theorem zEh{l:List (List UInt8)}(hl:zlm l)(n:List UInt8):zaG l n=some (l.any fun y=>n == y):=by
 unfold zaG zc8
 rw [show ((zr (fun z=>zbp l n z) 0).bind fun o=>zQ o (fun b=>zeN) some)=_ from zaz (p:=fun y:List UInt8=>n == y) hl
  (fun i x hx=>by unfold zbp;rw [ze8 hx,zw,hx];rfl) (by unfold zbp;rw [zfM];rfl)]
 exact congrArg some (zem _ 0 l)
theorem zmw{c:za}(hl:zlm c.Methods)(n:List UInt8):zeC c n=some (ixF (fun y=>y.Name == n) 0 c.Methods):=by
 unfold zeC zaU
 rw [show ((zr (fun z=>zaA c.Methods n z) 0).bind fun o=>zQ o (fun b=>zcV) some)=_ from zaz (p:=fun y:zc=>y.Name == n) hl
  (fun i x hx=>by unfold zaA;rw [ze8 hx,zw,hx];rfl) (by unfold zaA;rw [zfM];rfl)]
 rfl
theorem zrS{c:za}(hl:zlm c.Fields)(n:List UInt8):zjT c n=some (ixF (fun y=>y.Name == n) 0 c.Fields):=by
 unfold zjT za4
 rw [show ((zr (fun z=>zaP c.Fields n z) 0).bind fun o=>zQ o (fun b=>zdm) some)=_ from zaz (p:=fun y:zj=>y.Name == n) hl
  (fun i x hx=>by unfold zaP;rw [ze8 hx,zw,hx];rfl) (by unfold zaP;rw [zfM];rfl)]
 rfl
def zpb(f:zj):Bool:=(zv2 f.Name&&!(f.Name == [36,105,110,105,116]))&&zgm f.Type_
theorem zrT{f:zj}(h1:Len f.Name)(h2:Len f.Type_):zjV f=some (zpb f):=by
 unfold zjV zpb;rw [zmL h1,zhV h2,Qa];cases (zv2 f.Name&&!(f.Name == [36,105,110,105,116])) <;> rfl
theorem zyW{l:List zj}(hl:zlm l)(h:∀f∈l,Len f.Name∧Len f.Type_)(n:Int):zgr l n=cond (uB zpb (·.Name) [] l) (some false) (some (decide ((l.length:Int)≤n))):=by
 unfold zgr;refine zrM (ok:=zpb) (nm:=(·.Name)) hl (fun i x hx=>?_) ?_
 ·have hm:=h x (Qc hx);have hi:=(Qb.1 hx).1;unfold zgQ;rw [ze8 hx,zw,hx];simp only [Qa,cond_true];rw [zrT hm.1 hm.2,Qa,zpN (by omega),Qa,zBW (by unfold zlm at *;rw [QO];omega)];cases zpb x <;> rfl
 ·unfold zgQ;rw [zfM];rfl
theorem zBv{l:List (List UInt8)}(hl:zlm l)(h:∀s∈l,Len s)(n:Int):zhI l n=cond (uB zcT id [] l) (some false) (some (decide ((l.length:Int)≤n))):=by
 unfold zhI;refine zrM (ok:=zcT) (nm:=id) hl (fun i x hx=>?_) ?_
 ·have hm:=h x (Qc hx);have hi:=(Qb.1 hx).1;unfold zhR;rw [ze8 hx,zw,hx];simp only [Qa,cond_true];rw [zho hm,Qa,zpN (by omega),Qa,zEh (by unfold zlm at *;rw [QO];omega)];cases zcT x <;> rfl
 ·unfold zhR;rw [zfM];rfl
def zxE(l:List (List UInt8)):Bool:=!(l.any fun s=>!zgm s)
theorem zrV{l:List (List UInt8)}(hl:zlm l)(h:∀s∈l,Len s):zlw l=some (zxE l):=by
 unfold zlw zb2 zd6
 rw [show ((zr (fun z=>zb3 l z) 0).bind fun o=>zQ o (fun b=>zfG) some)=_ from zaz (p:=fun s=>!zgm s) hl
  (fun i x hx=>by
   unfold zb3 zlx;rw [ze8 hx,zw,hx];simp only [Qa,cond_true];rw [zhV (h x (Qc hx))]
   rfl) (by unfold zb3;rw [zfM];rfl)]
 rw [Qa,zem];rfl
def zF5(n:Int)(x:zn):Bool:=(!zn3 x)||(zgY x.Op&&decide (n≤x.A))
def instrN(c:List zn):Bool:=zE (c.length:Int) 1 100&&(c.getLast?.elim false (fun y=>zlP y.Op)&&!(c.any (zF5 (c.length:Int))))
theorem zmx{m:zc}(hl:zlm m.Code)(h:∀x∈m.Code,Len x.C∧Len x.M):zfo m=some (instrN m.Code):=by
 have hc:zaS m.Code (m.Code.length:Int)=some (m.Code.any (zF5 (m.Code.length:Int))):=by
  unfold zaS zdr
  rw [show ((zr (fun z=>zbD m.Code (m.Code.length:Int) z) 0).bind fun o=>zQ o (fun b=>ze4) some)=_ from zaz (p:=zF5 (m.Code.length:Int)) hl
   (fun i x hx=>by
    have hm:=h x (Qc hx);unfold zbD zhy;rw [ze8 hx,zw,hx];simp only [Qa,cond_true];rw [zAi hm.1 hm.2]
    rfl) (by unfold zbD;rw [zfM];rfl)]
  exact congrArg some (zem _ 0 _)
 unfold zfo instrN;rw [hc]
 cases hb:zE (m.Code.length:Int) 1 100 with
 |false=>rfl
 |true =>
  have hb':(decide (1≤(m.Code.length:Int))&&decide ((m.Code.length:Int)≤100))=true:=hb;simp only [Qd,decide_eq_true_eq] at hb'
  have e:IntKind.i64.wrap ((m.Code.length:Int)-1)=((m.Code.length-1:Nat):Int):=by
   rw [znG (by omega) (by omega)];omega
  rw [e,zw,←JE]
  cases hg:m.Code.getLast? with
  |none =>
   rw [List.getLast?_eq_none_iff] at hg;rw [hg] at hb';simp at hb'
  |some y =>
   simp only [Qa,Qp,cond_false,Option.elim_some,QD];cases zlP y.Op <;> rfl
def zCP(n:Int)(y:zT):Bool:=(((decide (y.From<0)||decide (y.To≤y.From))||decide (n<y.To))||!(zE y.At 0 (IntKind.i64.wrap (n-1))))||(!(y.C == [])&&!zcT y.C)
def zxB(m:zc):Bool:=!(m.Traps.any (zCP (m.Code.length:Int)))&&decide ((m.Traps.length:Int)≤6)
theorem zrU{m:zc}(hl:zlm m.Traps)(h:∀x∈m.Traps,Len x.C):zlu m=some (zxB m):=by
 unfold zlu zbe zcS
 rw [show ((zr (fun z=>zbf m.Traps m.Name m.Params m.Ret m.Static m.Abstract m.Locals m.Stack m.Code m.Maps m.Traps z) 0).bind fun o=>zQ o (fun b=>zes) some)=_ from zaz (p:=zCP (m.Code.length:Int)) hl
  (fun i x hx=>by
   have hm:=h x (Qc hx);unfold zbf zlv zCP;rw [ze8 hx,zw,hx];simp only [Qa,cond_true];rw [zho hm]
   cases (((decide (x.From<0)||decide (x.To≤x.From))||decide ((m.Code.length:Int)<x.To))||!(zE x.At 0 (IntKind.i64.wrap ((m.Code.length:Int)-1)))) with
   |true=>rfl
   |false=>cases (x.C == []) <;> rfl) (by unfold zbf;rw [zfM];rfl)]
 rw [Qa,zem];rfl
def gB{α:Type}(bad:List α→α→Bool):List α→List α→Bool
 |_,[]=>false
 |pre,x ::r=>bad pre x||gB bad (pre++[x]) r
theorem zwY{α:Type}{body:Int→Option (Sum Int (Sum Unit Bool))}{l:List α}{bad:List α→α→Bool}(hl:l.length≤9223372036854775807)
  (hb:∀(i:Nat) x,l[i]?=some x→body (i:Int)=cond (bad (l.take i) x) (some (.inr (.inr false))) (some (.inl (IntKind.i64.wrap ((i:Int)+1)))))
  (he:body (l.length:Int)=some (.inr (.inl ()))):zr body 0=some (cond (gB bad [] l) (.inr false) (.inl ())):=by
 have key:∀(r pre:List α),l=pre++r→zr body (pre.length:Int)=some (cond (gB bad pre r) (.inr false) (.inl ())):=by
  intro r
  induction r with
  |nil =>
   intro pre h;rw [Qz] at h;subst h;rw [zR,he];rfl
  |cons x r ih =>
   intro pre h
   have hlen:l.length=pre.length+(r.length+1):=by rw [h];simp
   have hx:l[pre.length]?=some x:=by rw [h];simp
   have ht:l.take pre.length=pre:=by rw [h];simp
   rw [zR,hb _ x hx,ht];unfold gB
   cases bad pre x with
   |true=>rfl
   |false =>
    rw [zU (by omega)];have:=ih (pre++[x]) (by rw [h];simp);rw [show (pre++[x]).length=pre.length+1 by simp] at this;exact this
 exact key l [] rfl
theorem zDe{α:Type}(p:α→Bool):∀(pre r:List α),gB (fun _ x=>p x) pre r=r.any p
 |_,[]=>rfl
 |pre,x ::r=>by
  show (p x||gB _ _ r)=_;rw [zDe p (pre++[x]) r,Jg]
theorem zk9{α:Type}{body:Int→Option (Sum Int (Sum Unit Bool))}{l:List α}{bad:α→Bool}(hl:l.length≤9223372036854775807)
  (hb:∀(i:Nat) x,l[i]?=some x→body (i:Int)=cond (bad x) (some (.inr (.inr false))) (some (.inl (IntKind.i64.wrap ((i:Int)+1)))))
  (he:body (l.length:Int)=some (.inr (.inl ()))):zr body 0=some (cond (l.any bad) (.inr false) (.inl ())):=by
 rw [zwY (bad:=fun _ x=>bad x) hl hb he,zDe]
def ztS(v:List UInt8):Bool:=(((v == [73])||(v == [78]))||(v == [84]))||zsf v
theorem zs8{s:List UInt8}(h:Len s):znh s=some (ztS s):=by
 unfold znh ztS;rw [ziF h]
 cases (((s == [73])||(s == [78]))||(s == [84])) <;> rfl
def zpy(l:List (List UInt8)):Bool:=!(l.any fun s=>!ztS s)
theorem zk1{l:List (List UInt8)}(hl:zlm l)(h:∀s∈l,Len s):zhE l=some (zpy l):=by
 unfold zhE zbk zc7
 rw [show ((zr (fun z=>zbo l z) 0).bind fun o=>zQ o (fun b=>zeM) some)=_ from zaz (p:=fun s=>!ztS s) hl
  (fun i x hx=>by
   unfold zbo zjj;rw [ze8 hx,zw,hx];simp only [Qa,cond_true];rw [zs8 (h x (Qc hx))]
   rfl) (by unfold zbo;rw [zfM];rfl)]
 rw [Qa,zem];rfl
theorem ztf{l:List (List UInt8)}(hl:zlm l)(n:List UInt8):zK l n=some (l.any fun y=>n == y):=by
 unfold zK z6
 rw [show ((zr (fun z=>za0 l n z) 0).bind fun o=>zQ o (fun b=>zgI) some)=_ from zaz (p:=fun y:List UInt8=>n == y) hl
  (fun i x hx=>by unfold za0;rw [ze8 hx,zw,hx];rfl) (by unfold za0;rw [zfM];rfl)]
 exact congrArg some (zem _ 0 l)
def zFq(m:zc)(pre:List zX)(x:zX):Bool:=
 ((!(decide (0≤x.At)&&decide (x.At<(m.Code.length:Int))))||(pre.getLast?.elim false (fun y=>decide (x.At≤y.At)))) ||
 (((!((x.Locals.length:Int) == m.Locals))||decide (m.Stack<(x.Stack.length:Int)))||((!zpy x.Locals||!zpy x.Stack)||x.Stack.any (fun y=>[84] == y)))
def zzU(m:zc):Bool:=!(gB (zFq m) [] m.Maps)&&decide ((m.Maps.length:Int)≤100)
structure zC0(m:zc):Prop where
 len:zlm m.Maps
 code:zlm m.Code
 all:∀x∈m.Maps,(zlm x.Locals∧∀s∈x.Locals,Len s)∧(zlm x.Stack∧∀s∈x.Stack,Len s)
theorem zAY{α:Type}{l:List α}{i:Nat}(h:i<l.length)(h0:0<i):(l.take i).getLast?=l[i-1]?:=by
 rw [JE,Yf (by simp;omega)];congr 1;simp;omega
theorem zs6{m:zc}(h:zC0 m):znf m=some (zzU m):=by
 have j2:∀(i:Nat) (x:zX) (b:Bool),x∈m.Maps→zhk m (i:Int) x b=cond (b||(((!((x.Locals.length:Int) == m.Locals))||decide (m.Stack<(x.Stack.length:Int)))||((!zpy x.Locals||!zpy x.Stack)||x.Stack.any (fun y=>[84] == y)))) (some (.inr (.inr false))) (some (.inl (IntKind.i64.wrap ((i:Int)+1)))):=fun i x b hx=>by
  obtain ⟨⟨h1,h2⟩,h3,h4⟩:=h.all x hx;unfold zhk;rw [zk1 h1 h2,zk1 h3 h4,ztf h3]
  cases b with
  |true=>rfl
  |false =>
   cases ((!((x.Locals.length:Int) == m.Locals))||decide (m.Stack<(x.Stack.length:Int))) with
   |true=>rfl
   |false =>
    cases zpy x.Locals with
    |false=>rfl
    |true=>cases zpy x.Stack <;> rfl
 have hl:zr (fun z=>zhl m z) 0=_:=zwY (bad:=zFq m) h.len (fun i x hx=>by
  have hm:=Qc hx;have hi:=(Qb.1 hx).1;have hlen:=h.len;have hcode:=h.code;unfold zlm at hlen hcode;show zhl m (i:Int)=_;unfold zhl zFq;rw [ze8 hx,zw,hx];simp only [Qa,cond_true]
  have hb:zE x.At 0 (IntKind.i64.wrap ((m.Code.length:Int)-1))=(decide (0≤x.At)&&decide (x.At<(m.Code.length:Int))):=by
   show (decide (0≤x.At)&&decide (x.At≤IntKind.i64.wrap ((m.Code.length:Int)-1)))=_;rw [znG (by omega) (by omega)];congr 1;exact decide_eq_decide.2 (by omega)
  rw [hb]
  cases (decide (0≤x.At)&&decide (x.At<(m.Code.length:Int))) with
  |false=>exact j2 i x true hm
  |true =>
   rcases Jq i with h0 |h0
   ·subst h0;exact j2 0 x false hm
   ·rw [decide_eq_true (show (0:Int)<(i:Int) by omega),zAY hi h0]
    have e:IntKind.i64.wrap ((i:Int)-1)=((i-1:Nat):Int):=by
     rw [znG (by omega) (by omega)];omega
    rw [e,zw,Qe (show i-1<m.Maps.length by omega)]
    exact j2 i x _ hm) (by show zhl m (m.Maps.length:Int)=_;unfold zhl;rw [zfM];rfl)
 unfold znf zzU;rw [hl];cases gB (zFq m) [] m.Maps <;> rfl
structure zE0(m:zc):Prop where
 code:zlm m.Code∧∀x∈m.Code,Len x.C∧Len x.M
 traps:zlm m.Traps∧∀x∈m.Traps,Len x.C
structure GIn(m:zc):Prop where
 name:Len m.Name
 params:m.Params.length≤1000000000000∧∀s∈m.Params,Len s
 ret:Len m.Ret
 maps:zC0 m
 body:zE0 m
 small:m.Code.length≤1000000000000∧m.Maps.length≤1000000000000∧m.Traps.length≤1000000000000
def zhB(m:zc):Bool:=
 ((!((!zv2 m.Name)||decide (6<(m.Params.length:Int)))&&zxE m.Params)&&zwd m.Ret)&&cond m.Abstract (ziB m)
  (!((m.Name == [36,105,110,105,116])&&(((!m.Static)||decide (0<(m.Params.length:Int)))||(!(m.Ret == [86]))))&&(zE m.Locals (zaM m) 16&&(zE m.Stack 0 16&&((instrN m.Code&&zxB m)&&zzU m))))
theorem zG9{m:zc}(h:GIn m):zlm m.Params:=by have:=h.params.1;unfold zlm;omega
theorem zqr{m:zc}(h:GIn m):zkw m=some (zhB m):=by
 unfold zkw zhB;rw [zmL h.name,Qa,zrV (zG9 h) h.params.2,zvN h.ret,zmx h.body.code.1 h.body.code.2,zs6 h.maps,zrU h.body.traps.1 h.body.traps.2]
 cases ((!zv2 m.Name)||decide (6<(m.Params.length:Int))) with
 |true=>rfl
 |false =>
  cases zxE m.Params with
  |false=>rfl
  |true =>
   cases zwd m.Ret with
   |false=>rfl
   |true =>
    cases m.Abstract with
    |true=>rfl
    |false =>
     cases ((m.Name == [36,105,110,105,116])&&(((!m.Static)||decide (0<(m.Params.length:Int)))||(!(m.Ret == [86])))) with
     |true=>rfl
     |false =>
      cases zE m.Locals (zaM m) 16 with
      |false=>rfl
      |true =>
       cases zE m.Stack 0 16 with
       |false=>rfl
       |true=>cases instrN m.Code <;> cases zzU m <;> cases zxB m <;> rfl
theorem zvu{l:List zc}(hl:zlm l)(h:∀m∈l,GIn m)(n:Int)(a b:List UInt8)(i:Bool)(c:List (List UInt8))(d:List zj)(e:List zc):
  zep l n a b i c d e=cond (uB (fun m=>(m.Abstract == i)&&zhB m) (·.Name) [] l) (some false) (some (decide ((l.length:Int)≤n))):=by
 unfold zep;refine zrM (ok:=fun m=>(m.Abstract == i)&&zhB m) (nm:=(·.Name)) hl (fun j x hx=>?_) ?_
 ·have hm:=h x (Qc hx);have hi:=(Qb.1 hx).1;unfold zgs zls;rw [ze8 hx,zw,hx];simp only [Qa,cond_true];rw [zqr hm,zpN (by omega)];simp only [Qa];rw [zzK (by unfold zlm at *;rw [QO];omega)]
  cases (x.Abstract == i) with
  |false=>rfl
  |true=>cases zhB x <;> rfl
 ·unfold zgs;rw [zfM];rfl
structure zE1(c:za):Prop where
 name:Len c.Name
 super:Len c.Super
 impl:zlm c.Impl∧∀s∈c.Impl,Len s
 fields:zlm c.Fields∧∀f∈c.Fields,Len f.Name∧Len f.Type_
 methods:zlm c.Methods∧∀m∈c.Methods,GIn m
def zuK(c:za):Bool:=
 !(c.Interface&&((!(c.Super == [79,98,106,101,99,116]))||decide (0<(c.Fields.length:Int)))) &&
 (((((zcT c.Name&&zcT c.Super)&&(!(uB zcT id [] c.Impl)&&decide ((c.Impl.length:Int)≤4)))&&(!(uB zpb (·.Name) [] c.Fields)&&decide ((c.Fields.length:Int)≤8)))) &&
  (!(uB (fun m=>(m.Abstract == c.Interface)&&zhB m) (·.Name) [] c.Methods)&&decide ((c.Methods.length:Int)≤8)))
theorem zs5{c:za}(h:zE1 c):zo6 c=some (zuK c):=by
 have e:∀(b d:Bool),cond b (some false) (some d)=some (!b&&d):=fun b d=>by cases b <;> rfl
 unfold zo6 zuK;rw [zyW h.fields.1 h.fields.2,zvu h.methods.1 h.methods.2,zho h.name,zho h.super,zBv h.impl.1 h.impl.2,e,e,e]
 cases (c.Interface&&((!(c.Super == [79,98,106,101,99,116]))||decide (0<(c.Fields.length:Int)))) with
 |true=>rfl
 |false =>
  cases zcT c.Name with
  |false=>rfl
  |true=>cases zcT c.Super <;> rfl
theorem ztL{c:za}(hl:zlm c.Fields)(n:List UInt8):zp2 c n=some (ixF (fun y=>y.Name == n) 0 c.Fields):=by
 unfold zp2
 rw [show ((zr (fun z=>zjK c n z) 0).bind fun o=>zQ o (fun b=>zpu) some)=_ from zaz (p:=fun y:zj=>y.Name == n) hl
  (fun i x hx=>by unfold zjK;rw [ze8 hx,zw,hx];rfl) (by unfold zjK;rw [zfM];rfl)]
theorem zn6{c:za}(hl:zlm c.Methods)(n:List UInt8):zlR c n=some (ixF (fun y=>y.Name == n) 0 c.Methods):=by
 unfold zlR
 rw [show ((zr (fun z=>zi3 c n z) 0).bind fun o=>zQ o (fun b=>zn7) some)=_ from zaz (p:=fun y:zc=>y.Name == n) hl
  (fun i x hx=>by unfold zi3;rw [ze8 hx,zw,hx];rfl) (by unfold zi3;rw [zfM];rfl)]
theorem zGn(x y:List UInt8):(x == y)=(y == x):=by
 by_cases h:x=y
 ·rw [h]
 ·rw [beq_eq_false_iff_ne.2 h,beq_eq_false_iff_ne.2 (Ne.symm h)]
theorem zAH{body:Int→Option (Sum Int (Sum Unit Bool))}{a b:List (List UInt8)}(hl:a.length≤1000000)(hn:a.length=b.length)
  (hb:∀(i:Nat) x y,a[i]?=some x→b[i]?=some y→body (i:Int)=cond (!(x == y)) (some (.inr (.inr false))) (some (.inl (IntKind.i64.wrap ((i:Int)+1)))))
  (he:body (a.length:Int)=some (.inr (.inl ()))):zr body 0=some (cond (a == b) (.inl ()) (.inr false)):=by
 have key:∀(r s pre pre':List (List UInt8)),pre.length=pre'.length→a=pre++r→b=pre'++s→zr body (pre.length:Int)=some (cond (r == s) (.inl ()) (.inr false)):=by
  intro r
  induction r with
  |nil =>
   intro s pre pre' hp h1 h2
   have:s=[]:=by
    have:a.length=pre.length:=by rw [h1];simp
    have:b.length=pre'.length+s.length:=by rw [h2];simp
    exact Qf (by omega)
   subst this;rw [Qz] at h1;subst h1;rw [zR,he];rfl
  |cons x r ih =>
   intro s pre pre' hp h1 h2
   have hlen:a.length=pre.length+(r.length+1):=by rw [h1];simp
   have hlen2:b.length=pre'.length+s.length:=by rw [h2];simp
   cases s with
   |nil=>simp at hlen2;omega
   |cons y s =>
    have hx:a[pre.length]?=some x:=by rw [h1];simp
    have hy:b[pre.length]?=some y:=by rw [h2,hp];simp
    rw [zR,hb _ x y hx hy];rw [show ((x ::r) == (y ::s))=((x == y)&&(r == s)) from rfl]
    cases x == y with
    |false=>rfl
    |true =>
     rw [zU (by omega)];have:=ih s (pre++[x]) (pre'++[y]) (by simp [hp]) (by rw [h1];simp) (by rw [h2];simp);rw [show (pre++[x]).length=pre.length+1 by simp] at this;exact this
 exact key a b [] [] rfl rfl rfl
theorem zGt{α:Type}{l:List α}{i:Nat}{x:α}(h:l[i]?=some x):decide ((i:Int)<(l.length:Int))=true:=
 decide_eq_true (by have:=(Qb.1 h).1;omega)
theorem zGy{α:Type}{l:List α}:decide ((l.length:Int)<(l.length:Int))=false:=decide_eq_false (by omega)
theorem zFF{a b:List (List UInt8)}(h:a.length≠b.length):(a == b)=false:=by
 refine beq_eq_false_iff_ne.2 fun e=>h (by rw [e])
theorem zrC{a b:List (List UInt8)}(h:a.length≤1000000):zds a b=some (a == b):=by
 unfold zds;by_cases hl:a.length=b.length
 ·have e:((a.length:Int) == (b.length:Int))=true:=by rw [hl];exact beq_self_eq_true _
  rw [e,show zr (fun z=>zcE a b z) 0=_ from zAH h hl (fun i x y hx hy=>by
   unfold zcE
   rw [zGt hx,zw,hx,zw,hy];rfl) (by unfold zcE;rw [zGy];rfl)]
  cases a == b <;> rfl
 ·have e:((a.length:Int) == (b.length:Int))=false:=beq_eq_false_iff_ne.2 (by omega);rw [e,zFF hl];rfl
abbrev Tx:=List UInt8
def cl(L:List za)(n:Tx):Option za:=L.find? (fun c=>c.Name == n)
def atN(L:List za)(n:Tx):Int:=ixF (fun c=>c.Name == n) 0 L
def zeb(L:List za)(n:Tx):Bool:=L.any (fun c=>c.Name == n)
def isF(L:List za)(n:Tx):Bool:=match cl L n with |some c=>c.Interface |none=>false
theorem zrd{α:Type}(p:α→Bool):∀(l:List α) (k:Nat),(∃j x,ixF p k l=((k+j:Nat):Int)∧l[j]?=some x∧p x=true∧l.find? p=some x)∨(ixF p k l=-1∧l.find? p=none)
 | [],k=>.inr ⟨rfl,rfl⟩
 |y ::r,k=>by
  unfold ixF
  cases h:p y with
  |true=>exact .inl ⟨0,y,rfl,rfl,h,by simp [List.find?,h]⟩
  |false =>
   rcases zrd p r (k+1) with ⟨j,x,h1,h2,h3,h4⟩ |⟨h1,h2⟩
   ·exact .inl ⟨j+1,x,by show ixF p (k+1) r=_;rw [h1];congr 1;omega,by simpa using h2,h3,by simp [List.find?,h,h4]⟩
   ·exact .inr ⟨h1,by simp [List.find?,h,h2]⟩
theorem zsx{α:Type}(p:α→Bool):∀(l r:List α) (k:Nat),ixF p k (l++r)=cond (l.any p) (ixF p k l) (ixF p (k+l.length) r)
 | [],r,k=>rfl
 |y ::l,r,k=>by
  show ixF p k (y ::(l++r))=_;rw [show ixF p k (y ::(l++r))=cond (p y) (k:Int) (ixF p (k+1) (l++r)) from rfl,show ixF p k (y ::l)=cond (p y) (k:Int) (ixF p (k+1) l) from rfl,Jg]
  cases h:p y with
  |true=>rfl
  |false =>
   rw [Jb,cond_false,cond_false,zsx p l r (k+1),show k+1+l.length=k+(y ::l).length by simp;omega]
theorem zuj(L:List za)(n:Tx):decide (0≤atN L n)=zeb L n:=zem _ 0 L
theorem zsr(L:List za)(n:Tx):decide (atN L n<0)=!zeb L n:=by
 rw [←zuj];by_cases h:0≤atN L n
 ·rw [decide_eq_true h,decide_eq_false (by omega)];rfl
 ·rw [decide_eq_false h,decide_eq_true (by omega)];rfl
theorem zqj(L:List za)(n:Tx):idx L (atN L n)=cl L n:=by
 unfold atN cl
 rcases zrd (fun c:za=>c.Name == n) L 0 with ⟨j,x,h1,h2,h3,h4⟩ |⟨h1,h2⟩
 ·rw [h1,h4,zw,QZ,h2]
 ·rw [h1,h2];rfl
theorem zze(L:List za)(n:Tx):(cl L n).isSome=zeb L n:=by
 unfold cl zeb;rw [Jd,QJ];exact Ya
theorem zbK{L:List za}{n:Tx}{c:za}(h:cl L n=some c):c∈L∧c.Name=n:=by
 unfold cl at h;exact ⟨QY h,eq_of_beq (List.find?_some (p:=fun c:za=>c.Name == n) h)⟩
theorem zgX{L:List za}{n:Tx}(h:zeb L n=true):∃c,cl L n=some c:=by
 rw [←zze] at h;exact Option.isSome_iff_exists.1 h
theorem zh4{L:List za}{n:Tx}{c:za}(h:cl L n=some c):zeb L n=true:=by rw [←zze,h];rfl
theorem zoq{L:List za}{n:Tx}(h:cl L n=none):zeb L n=false:=by rw [←zze,h];rfl
theorem zj2{L:List za}{n:Tx}:zeb L n=true↔n∈L.map (·.Name):=by
 unfold zeb;rw [QJ,QS];constructor
 ·rintro ⟨c,h1,h2⟩;exact ⟨c,h1,eq_of_beq h2⟩
 ·rintro ⟨c,h1,h2⟩;exact ⟨c,h1,beq_iff_eq.2 h2⟩
def Nd(L:List za):Prop:=∀(i j:Nat) (c d:za),L[i]?=some c→L[j]?=some d→c.Name=d.Name→i=j
theorem Nd.at{L:List za}(h:Nd L){i:Nat}{c:za}(hi:L[i]?=some c):atN L c.Name=(i:Int):=by
 unfold atN
 rcases zrd (fun d:za=>d.Name == c.Name) L 0 with ⟨j,x,h1,h2,h3,h4⟩ |⟨h1,h2⟩
 ·rw [h1,QZ,h j i x c h2 hi (eq_of_beq h3)]
 ·have:=List.find?_eq_none.1 h2 c (Qc hi);simp at this
theorem Nd.cl{L:List za}(h:Nd L){c:za}(hc:c∈L):cl L c.Name=some c:=by
 obtain ⟨i,hi,e⟩:=JH hc
 have hi':L[i]?=some c:=by rw [Qe hi,e]
 rw [←zqj,h.at hi',zw,hi']
theorem Nd.snoc{L:List za}(h:Nd L){c:za}(hc:zeb L c.Name=false):Nd (L++[c]):=by
 have no:∀(i:Nat) d,L[i]?=some d→d.Name≠c.Name:=fun i d hi e=>by
  have:zeb L c.Name=true:=zj2.2 (QS.2 ⟨d,Qc hi,e⟩);rw [hc] at this;cases this
 have get:∀(i:Nat) d,(L++[c])[i]?=some d→(L[i]?=some d)∨(i=L.length∧d=c):=fun i d hi=>by
  rw [List.getElem?_append] at hi;split at hi
  ·exact .inl hi
  ·rename_i hlt;right;have h1:=(Qb.1 hi).1;simp at h1
   have h2:i=L.length:=by omega
   subst h2;simp at hi;exact ⟨rfl,hi.symm⟩
 intro i j d e hi hj hn
 rcases get i d hi with h1 |⟨h1,h1'⟩ <;> rcases get j e hj with h2 |⟨h2,h2'⟩
 ·exact h i j d e h1 h2 hn
 ·subst h2';exact absurd hn (no i d h1)
 ·subst h1';exact absurd hn.symm (no j e h2)
 ·rw [h1,h2]
theorem zBX(L:List za)(c:za)(n:Tx):zeb (L++[c]) n=(zeb L n||(c.Name == n)):=by
 unfold zeb;simp
theorem zjQ{α:Type}(k k':Tx)(x:α):∀(m:List (Tx×α)),zcl k (zch k' x m)=if k=k' then some x else zcl k m
 | []=>by
  unfold zch zcl zcl;by_cases h:k=k'
  ·rw [if_pos h,decide_eq_true h];rfl
  ·rw [if_neg h,decide_eq_false h];rfl
 |(a,y)::r=>by
  unfold zch;by_cases h':k'=a
  ·subst h';rw [decide_eq_true rfl];show zcl k ((k',x)::r)=_;unfold zcl;by_cases h:k=k'
   ·rw [if_pos h,decide_eq_true h];rfl
   ·rw [if_neg h,decide_eq_false h];rfl
  ·rw [decide_eq_false h'];show zcl k ((a,y)::zch k' x r)=_;unfold zcl;rw [zjQ k k' x r];by_cases h:k=k'
   ·subst h;rw [if_pos rfl,decide_eq_false h',if_pos rfl];rfl
   ·rw [if_neg h,if_neg h]
def zaW(L:List za)(m:List (Tx×Int)):Prop:=∀n,zcl n m=cond (zeb L n) (some (atN L n)) none
theorem zaW.snoc{L:List za}{m:List (Tx×Int)}(h:zaW L m){c:za}(hc:zeb L c.Name=false):zaW (L++[c]) (zch c.Name (L.length:Int) m):=by
 intro n;rw [zjQ,zBX,h n];unfold atN;rw [zsx];show _=cond _ (some (cond (zeb L n) _ _)) none;by_cases e:n=c.Name
 ·subst e;rw [if_pos rfl,hc,beq_self_eq_true];simp [ixF]
 ·rw [if_neg e,beq_eq_false_iff_ne.2 (Ne.symm e)];cases zeb L n <;> rfl
theorem zaW.has{L:List za}{m:List (Tx×Int)}(h:zaW L m)(n:Tx):(zcl n m).isSome=zeb L n:=by
 rw [h n];cases zeb L n <;> rfl
theorem zaW.idx{L:List za}{m:List (Tx×Int)}(h:zaW L m){n:Tx}(hn:zeb L n=true):idx L ((zcl n m).getD 0)=cl L n:=by
 rw [h n,hn];exact zqj L n
inductive Rc(nx:Tx→List Tx):Tx→Tx→Prop
 |one {a b}:b∈nx a→Rc nx a b
 |more {a b c}:b∈nx a→Rc nx b c→Rc nx a c
theorem Rc.snoc{nx:Tx→List Tx}{a b c:Tx}(h:Rc nx a b)(hc:c∈nx b):Rc nx a c:=by
 induction h with
 |one h=>exact .more h (.one hc)
 |more h _ ih=>exact .more h (ih hc)
theorem Rc.into{nx:Tx→List Tx}{F:Tx→Prop}(hF:∀x,F x→∀y∈nx x,F y){a b:Tx}(h:Rc nx a b):(∀y∈nx a,F y)→F b:=by
 induction h with
 |one h=>exact fun ha=>ha _ h
 |more h _ ih=>exact fun ha=>ih (hF _ (ha _ h))
theorem zAr:∀{a b:List Tx},a.Nodup→(∀x∈a,x∈b)→a.length≤b.length
 | [],b,_,_=>by simp
 |x ::r,b,h,hs=>by
  rw [Ji] at h;have hx:=hs x (by simp);have h1:=zAr (a:=r) (b:=b.erase x) h.2 (fun y hy=>(List.mem_erase_of_ne (fun e=>h.1 (by rw [←e];exact hy))).2 (hs y (by simp [hy])));have h2:=List.length_erase_of_mem hx;have h3:=List.length_pos_of_mem hx;simp only [Qx];omega
def push(zal:List Tx):List Tx→List Tx
 | []=>zal
 |s ::r=>push (cond (zal.any fun y=>s == y) zal (zal++[s])) r
theorem zy0{s:Tx}{l:List Tx}:(l.any fun y=>s == y)=true↔s∈l:=by
 rw [QJ];constructor
 ·rintro ⟨y,h1,h2⟩;rw [eq_of_beq h2];exact h1
 ·intro h;exact ⟨s,h,beq_self_eq_true _⟩
theorem zjJ:∀(l zal:List Tx),∃t,push zal l=zal++t∧t.Nodup∧(∀x∈t,x ∉ zal∧x∈l)∧∀x∈l,x∈zal++t
 | [],zal=>⟨[],by simp [push],by simp,fun x h=>(by cases h),fun x h=>(by cases h)⟩
 |s ::r,zal=>by
  unfold push
  cases h:(zal.any fun y=>s == y) with
  |true =>
   obtain ⟨t,h1,h2,h3,h4⟩:=zjJ r zal;refine ⟨t,h1,h2,fun x hx=>⟨(h3 x hx).1,Jh _ (h3 x hx).2⟩,fun x hx=>?_⟩
   rcases Qr.1 hx with e |e
   ·rw [e];exact Ja _ (zy0.1 h)
   ·exact h4 x e
  |false =>
   have hs:s ∉ zal:=fun hm=>by rw [zy0.2 hm] at h;cases h
   obtain ⟨t,h1,h2,h3,h4⟩:=zjJ r (zal++[s]);refine ⟨s ::t,by show push (zal++[s]) r=_;rw [h1];simp,Ji.2 ⟨fun hm=>(h3 s hm).1 (by simp),h2⟩,fun x hx=>?_,fun x hx=>?_⟩
   ·rcases Qr.1 hx with e |e
    ·rw [e];exact ⟨hs,by simp⟩
    ·exact ⟨fun hm=>(h3 x e).1 (Ja _ hm),Jh _ (h3 x e).2⟩
   ·rcases Qr.1 hx with e |e
    ·rw [e];simp
    ·have:=h4 x e;simpa using this
def bfs(nx:Tx→List Tx):Nat→Nat→List Tx→List Tx
 | 0,_,zal=>zal
 |d+1,i,zal=>match zal[i]? with |none=>zal |some x=>bfs nx d (i+1) (push zal (nx x))
def fin(nx:Tx→List Tx):Nat→Nat→List Tx→Bool
 | 0,i,zal=>decide (zal.length≤i)
 |d+1,i,zal=>match zal[i]? with |none=>true |some x=>fin nx d (i+1) (push zal (nx x))
def Inv(U s0 zal:List Tx):Prop:=∃T,zal=s0++T∧T.Nodup∧(∀x∈T,x∈U) 
theorem Inv.push{U s0 zal l:List Tx}(h:Inv U s0 zal)(hU:∀y∈l,y∈U):Inv U s0 (push zal l):=by
 obtain ⟨T,h1,h2,h3⟩:=h;obtain ⟨t,k1,k2,k3,k4⟩:=zjJ l zal;refine ⟨T++t,by rw [k1,h1];simp,List.nodup_append.2 ⟨h2,k2,fun a ha b hb e=>(k3 b hb).1 (by rw [h1,←e];exact Jy _ ha)⟩,fun x hx=>?_⟩
 rcases Qu.1 hx with e |e
 ·exact h3 x e
 ·exact hU x (k3 x e).2
theorem Inv.len{U s0 zal:List Tx}(h:Inv U s0 zal):zal.length≤s0.length+U.length:=by
 obtain ⟨T,h1,h2,h3⟩:=h;have:=zAr h2 h3;rw [h1,Qt];omega
theorem Inv.mem{U s0 zal:List Tx}(h:Inv U s0 zal)(h0:∀x∈s0,x∈U):∀x∈zal,x∈U:=by
 obtain ⟨T,h1,h2,h3⟩:=h;intro x hx;rw [h1] at hx
 rcases Qu.1 hx with e |e
 ·exact h0 x e
 ·exact h3 x e
theorem Inv.start{U s0:List Tx}:Inv U s0 s0:=⟨[],by simp,by simp,fun x h=>(by cases h)⟩
theorem zzv{nx:Tx→List Tx}{U s0:List Tx}(hU:∀x y,y∈nx x→y∈U):∀(d i:Nat) (zal:List Tx),Inv U s0 zal→s0.length+U.length≤d+i→fin nx d i zal=true
 | 0,i,zal,h,hd=>by
  have:=h.len;exact decide_eq_true (by omega)
 |d+1,i,zal,h,hd=>by
  unfold fin
  cases zal[i]? with
  |none=>rfl
  |some x=>exact zzv hU d (i+1) _ (h.push (hU x)) (by omega)
theorem zo5{nx:Tx→List Tx}:∀(d i:Nat) (zal:List Tx),∃t,bfs nx d i zal=zal++t
 | 0,i,zal=>⟨[],by simp [bfs]⟩
 |d+1,i,zal=>by
  unfold bfs
  cases zal[i]? with
  |none=>exact ⟨[],by simp⟩
  |some x =>
   obtain ⟨t,h⟩:=zo5 (nx:=nx) d (i+1) (push zal (nx x));obtain ⟨u,k,_⟩:=zjJ (nx x) zal;exact ⟨u++t,by show bfs nx d (i+1) _=_;rw [h,k];simp⟩
theorem zy7{nx:Tx→List Tx}{U s0:List Tx}(hU:∀x y,y∈nx x→y∈U):∀(d i:Nat) (zal:List Tx),Inv U s0 zal→Inv U s0 (bfs nx d i zal)
 | 0,i,zal,h=>h
 |d+1,i,zal,h=>by
  unfold bfs
  cases zal[i]? with
  |none=>exact h
  |some x=>exact zy7 hU d (i+1) _ (h.push (hU x))
theorem zqR{nx:Tx→List Tx}{Q:Tx→Prop}(hQ:∀x,Q x→∀y∈nx x,Q y):∀(d i:Nat) (zal:List Tx),(∀x∈zal,Q x)→∀x∈bfs nx d i zal,Q x
 | 0,i,zal,h=>h
 |d+1,i,zal,h=>by
  unfold bfs
  cases hi:zal[i]? with
  |none=>exact h
  |some x =>
   refine zqR hQ d (i+1) _ fun y hy=>?_;obtain ⟨u,k1,_,k3,_⟩:=zjJ (nx x) zal;rw [k1] at hy
   rcases Qu.1 hy with e |e
   ·exact h y e
   ·exact hQ x (h x (Qc hi)) y (k3 y e).2
theorem zpM{nx:Tx→List Tx}:∀(d i:Nat) (zal:List Tx),fin nx d i zal=true→(∀j x,j<i→zal[j]?=some x→∀y∈nx x,y∈zal)→∀x∈bfs nx d i zal,∀y∈nx x,y∈bfs nx d i zal
 | 0,i,zal,hf,h=>fun x hx y hy=>by
  have hl:zal.length≤i:=of_decide_eq_true hf;obtain ⟨j,hj,e⟩:=JH (show x∈zal from hx);exact h j x (by omega) (by rw [Qe hj,e]) y hy
 |d+1,i,zal,hf,h=>by
  unfold fin at hf;unfold bfs
  cases hi:zal[i]? with
  |none =>
   intro x hx y hy;have hl:zal.length≤i:=JF.1 hi;obtain ⟨j,hj,e⟩:=JH (show x∈zal from hx);exact h j x (by omega) (by rw [Qe hj,e]) y hy
  |some z =>
   rw [hi] at hf;obtain ⟨u,k1,_,k3,k4⟩:=zjJ (nx z) zal;have hlt:i<zal.length:=(Qb.1 hi).1;refine zpM d (i+1) _ hf fun j x hj hx y hy=>?_;rw [k1] at hx ⊢;rw [Qm (by omega)] at hx;by_cases e:j=i
   ·subst e;rw [hi] at hx;cases hx;exact k4 y hy
   ·exact Ja _ (h j x (by omega) hx y hy)
theorem zE9{nx:Tx→List Tx}{d:Nat}{a b:Tx}(hf:fin nx d 0 (nx a)=true):b∈bfs nx d 0 (nx a)↔Rc nx a b:=by
 constructor
 ·exact zqR (Q:=fun x=>Rc nx a x) (fun x hx y hy=>hx.snoc hy) d 0 _ (fun x hx=>.one hx) b
 ·intro h;refine h.into (F:=fun x=>x∈bfs nx d 0 (nx a)) (zpM d 0 _ hf (fun j x hj=>by omega)) fun y hy=>?_;obtain ⟨t,e⟩:=zo5 (nx:=nx) d 0 (nx a);rw [e];exact Ja _ hy
theorem zvj{R:Type}{I:List Tx→Prop}{nx:Tx→List Tx}{stop:Tx→Option R}{body:List Tx×Int→Option (Sum (List Tx×Int) (Sum Unit R))}
  (hb:∀(i:Nat) zal x,I zal→zal[i]?=some x→body (zal,(i:Int))=match stop x with |some r=>some (.inr (.inr r)) |none=>some (.inl (push zal (nx x),((i+1:Nat):Int))))
  (he:∀(i:Nat) zal,I zal→zal.length≤i→body (zal,(i:Int))=some (.inr (.inl ())))
  (hp:∀zal x,I zal→x∈zal→I (push zal (nx x))):∀(d i:Nat) (zal:List Tx),I zal→fin nx d i zal=true →
  zr body (zal,(i:Int))=some (match ((bfs nx d i zal).drop i).findSome? stop with |some r=>(Sum.inr r:Sum Unit R) |none=>Sum.inl ())
 | 0,i,zal,hI,hf=>by
  have hl:zal.length≤i:=of_decide_eq_true hf;rw [zR,he i zal hI hl]
  show _=some (match (zal.drop i).findSome? stop with |some r=>(Sum.inr r:Sum Unit R) |none=>Sum.inl ())
  rw [Ju hl];rfl
 |d+1,i,zal,hI,hf=>by
  unfold fin at hf;unfold bfs
  cases hi:zal[i]? with
  |none =>
   have hl:zal.length≤i:=JF.1 hi;rw [zR,he i zal hI hl]
   show _=some (match (zal.drop i).findSome? stop with |some r=>(Sum.inr r:Sum Unit R) |none=>Sum.inl ())
   rw [Ju hl];rfl
  |some x =>
   rw [hi] at hf;obtain ⟨t,ht⟩:=zo5 (nx:=nx) d (i+1) (push zal (nx x));obtain ⟨u,hu,_⟩:=zjJ (nx x) zal
   have hx:(bfs nx d (i+1) (push zal (nx x)))[i]?=some x:=by
    rw [ht,hu,QX,Qm (Qb.1 hi).1,hi]
   obtain ⟨hlt,hge⟩:=Qb.1 hx;rw [zR,hb i zal x hI hi]
   show _=some (match ((bfs nx d (i+1) (push zal (nx x))).drop i).findSome? stop with |some r=>(Sum.inr r:Sum Unit R) |none=>Sum.inl ())
   rw [JD hlt,Q1,hge]
   cases stop x with
   |some r=>rfl
   |none=>exact zvj hb he hp d (i+1) _ (hp _ _ hI (Qc hi)) hf
def nxA(L:List za)(n:Tx):List Tx:=match cl L n with |none=>[] |some c=>(c.Super ::c.Impl).filter (fun s=>!(s == []))
def nxI(L:List za)(n:Tx):List Tx:=match cl L n with |none=>[] |some c=>c.Impl
structure zDA(L:List za):Prop where
 nd:Nd L
 noE:zeb L []=false
 closed:∀c∈L,∀s∈c.Super ::c.Impl,s≠[]→zeb L s=true
 implE:∀c∈L,[] ∉ c.Impl
structure Wf(L:List za):Prop extends zDA L where
 acyc:∀n,¬Rc (nxA L) n n
 superF:∀c∈L,isF L c.Super=false
 implF:∀c∈L,∀s∈c.Impl,isF L s=true
theorem zDA.nxA_in{L:List za}(h:zDA L)(x y:Tx)(hy:y∈nxA L x):y∈L.map (·.Name):=by
 unfold nxA at hy;split at hy
 ·cases hy
 ·rename_i c hc;rw [Jw] at hy;exact zj2.1 (h.closed c (zbK hc).1 y hy.1 (by have:=hy.2;simpa using this))
theorem zDA.nxI_in{L:List za}(h:zDA L)(x y:Tx)(hy:y∈nxI L x):y∈L.map (·.Name):=by
 unfold nxI at hy;split at hy
 ·cases hy
 ·rename_i c hc;exact zj2.1 (h.closed c (zbK hc).1 y (Jh _ hy) (fun e=>h.implE c (zbK hc).1 (by rw [←e];exact hy)))
def sup(L:List za):Nat→Tx→List Tx
 | 0,_=>[]
 |d+1,n=>match cl L n with |none=>[] |some c=>n ::sup L d c.Super
def zyL(L:List za):Nat→Tx→Bool
 | 0,n=>!zeb L n
 |d+1,n=>match cl L n with |none=>true |some c=>zyL L d c.Super
theorem zxt{L:List za}(h:Wf L):∀(d:Nat) (n:Tx),zyL L d n=false→zeb L n=true∧∃r,sup L (d+1) n=n ::r∧r.length=d∧(n ::r).Nodup∧(∀x∈r,x∈L.map (·.Name)∧Rc (nxA L) n x)
 | 0,n,hf=>by
  have hn:zeb L n=true:=by simpa [zyL] using hf
  obtain ⟨c,hc⟩:=zgX hn;exact ⟨hn,[],by simp [sup,hc],rfl,by simp,fun x h=>(by cases h)⟩
 |d+1,n,hf=>by
  unfold zyL at hf;split at hf
  ·cases hf
  ·rename_i c hc;obtain ⟨h0,r,h1,h2,h3,h4⟩:=zxt h d c.Super hf
   have hs:c.Super∈nxA L n:=by
    unfold nxA;rw [hc];refine Jw.2 ⟨by simp,?_⟩
    have:c.Super≠[]:=fun e=>by rw [e,h.noE] at h0;cases h0
    simpa using this
   have h5:∀x∈c.Super ::r,x∈L.map (·.Name)∧Rc (nxA L) n x:=fun x hx=>by
    rcases Qr.1 hx with e |e
    ·rw [e];exact ⟨zj2.1 h0,.one hs⟩
    ·exact ⟨(h4 x e).1,.more hs (h4 x e).2⟩
   refine ⟨zh4 hc,c.Super ::r,?_,by simp [h2],Ji.2 ⟨fun hm=>h.acyc n (h5 n hm).2,h3⟩,h5⟩
   show (match cl L n with |none=>[] |some c=>n ::sup L (d+1) c.Super)=_
   rw [hc];show n ::sup L (d+1) c.Super=_;rw [h1]
theorem zxs{L:List za}(h:Wf L)(n:Tx):zyL L L.length n=true:=by
 cases hf:zyL L L.length n with
 |true=>rfl
 |false =>
  obtain ⟨h0,r,h1,h2,h3,h4⟩:=zxt h _ n hf
  have:=zAr h3 (b:=L.map (·.Name)) (fun x hx=>by
   rcases Qr.1 hx with e |e
   ·rw [e];exact zj2.1 h0
   ·exact (h4 x e).1)
  simp at this;omega
def zyM:Tx:=[79,98,106,101,99,116]
def zCN:Tx:=[84,104,114,111,119,110]
def gC(n s:Tx):za:=za.mk n s false [] [] []
def giv:List za:=[gC zyM [],gC zCN zyM,gC [78,117,108,108,69,114,114] zCN,gC [82,97,110,103,101,69,114,114] zCN,gC [77,97,116,104,69,114,114] zCN,gC [67,97,115,116,69,114,114] zCN,
 gC [83,105,122,101,69,114,114] zCN,gC [83,116,111,114,101,69,114,114] zCN,gC [73,110,105,116,69,114,114] zCN,gC [67,108,97,115,115,69,114,114] zCN]
theorem ztg:zpS=some giv:=by kernel_rfl
def zuQ(k:Nat)(m:List (Tx×Int)):List za→List (Tx×Int)
 | []=>m
 |c ::r=>zuQ (k+1) (zch c.Name (k:Int) m) r
def fresh(pre:List za):List za→Bool
 | []=>true
 |c ::r=>!zeb pre c.Name&&fresh (pre++[c]) r
theorem zw8:∀(r pre:List za) (m:List (Tx×Int)),zaW pre m→fresh pre r=true→zaW (pre++r) (zuQ pre.length m r)
 | [],pre,m,h,_=>by simpa [zuQ] using h
 |c ::r,pre,m,h,hf=>by
  simp only [fresh,Qd,Qk] at hf;have:=zw8 r (pre++[c]) _ (h.snoc hf.1) hf.2;simpa [zuQ] using this
theorem zwX:∀(r pre:List za),Nd pre→fresh pre r=true→Nd (pre++r)
 | [],pre,h,_=>by simpa using h
 |c ::r,pre,h,hf=>by
  simp only [fresh,Qd,Qk] at hf;have:=zwX r (pre++[c]) (h.snoc hf.1) hf.2;simpa using this
theorem zD9:zr (fun z=>zra giv z.1 z.2) ([],0)=some (.inl (zuQ 0 [] giv)):=by kernel_rfl
theorem zzF:zaW giv (zuQ 0 [] giv):=zw8 giv [] [] (fun n=>rfl) (by decide +kernel)
theorem zus:Nd giv:=zwX giv [] (fun i j c d h=>by simp at h) (by decide +kernel)
def lay:List za→List za→Option (List za)
 |L,[]=>some L
 |L,c ::r=>cond (zeb L c.Name||!zuK c) none (lay (L++[c]) r)
theorem zuB:∀(r L L':List za),Nd L→lay L r=some L'→L'=L++r∧Nd L'∧∀c∈r,zuK c=true
 | [],L,L',h,e=>by
  unfold lay at e;cases e;exact ⟨by simp,h,fun c hc=>by cases hc⟩
 |c ::r,L,L',h,e=>by
  unfold lay at e
  cases h1:zeb L c.Name with
  |true=>rw [h1] at e;cases e
  |false =>
   cases h2:zuK c with
   |false=>rw [h1,h2] at e;cases e
   |true =>
    rw [h1,h2] at e;obtain ⟨k1,k2,k3⟩:=zuB r (L++[c]) L' (h.snoc h1) e;refine ⟨by rw [k1];simp,k2,fun d hd=>?_⟩
    rcases Qr.1 hd with e |e
    ·rw [e];exact h2
    ·exact k3 d e
theorem zG6{w:Nat}{L:List za}{c:za}(h:L.length≤1000)(hw:w≤1000):zhj w L [c]=some (L++[c]):=by
 refine zbi ?_ (by simp;omega);have:(L.length+[c].length)*w≤1001*1000:=Nat.mul_le_mul (by simp;omega) hw;omega
theorem zw4{l:List za}(hl:l.length≤16)(hc:∀c∈l,zE1 c):∀(r pre L:List za) (m:List (Tx×Int)),l=pre++r→zaW L m→L.length=10+pre.length →
  (lay L r=none→zr (fun z=>ze2 l z.1 z.2.1 z.2.2) (L,m,(pre.length:Int))=some (.inr (none,1))) ∧
  (∀L',lay L r=some L'→∃m',zaW L' m'∧zr (fun z=>ze2 l z.1 z.2.1 z.2.2) (L,m,(pre.length:Int))=some (.inl (L',m')))
 | [],pre,L,m,e,hm,hL=>by
  rw [Qz] at e;subst e;unfold lay;refine ⟨fun h=>(by cases h),fun L' h=>?_⟩;cases h;refine ⟨m,hm,?_⟩;rw [zR];show (ze2 l L m (l.length:Int)).bind _=_;unfold ze2;rw [zfM];rfl
 |c ::r,pre,L,m,e,hm,hL=>by
  have hlen:l.length=pre.length+(r.length+1):=by rw [e];simp
  have hx:l[pre.length]?=some c:=by rw [e];simp
  have hcm:c∈l:=Qc hx
  have step:zr (fun z=>ze2 l z.1 z.2.1 z.2.2) (L,m,(pre.length:Int))=(cond (zeb L c.Name||!zuK c) (some (.inr (.inr (none,1)))) (some (.inl (L++[c],zch c.Name (L.length:Int) m,((pre.length+1:Nat):Int))))).bind (Sum.elim (zr (fun z=>ze2 l z.1 z.2.1 z.2.2)) some):=by
   rw [zR];show (ze2 l L m (pre.length:Int)).bind _=_;congr 1;unfold ze2;rw [ze8 hx,zw,hx];simp only [cond_true,Qa];rw [hm.has,zs5 (hc c hcm),zG6 (by omega) (by omega),zU (by omega)];cases zeb L c.Name <;> cases zuK c <;> rfl
  rw [step];unfold lay
  cases h1:(zeb L c.Name||!zuK c) with
  |true=>exact ⟨fun _=>rfl,fun L' h=>by cases h⟩
  |false =>
   rw [Qo] at h1;have:=zw4 hl hc r (pre++[c]) (L++[c]) _ (by rw [e];simp) (hm.snoc h1.1) (by simp;omega);rw [show (pre++[c]).length=pre.length+1 by simp] at this;exact this
structure Okc(c:za):Prop where
 name:c.Name≠[]
 impl:c.Impl.length≤4
 implE:∀s∈c.Impl,s≠[]
theorem zk0{s:Tx}(h:zcT s=true):s≠[]:=by
 intro e;subst e;unfold zcT at h;simp at h
theorem zsU{α:Type}{ok:α→Bool}{nm:α→List UInt8}:∀{l pre:List α},uB ok nm pre l=false→∀x∈l,ok x=true
 | [],_,_,x,hx=>by cases hx
 |y ::r,pre,h,x,hx=>by
  unfold uB at h;simp only [Qo,Q6] at h
  rcases Qr.1 hx with e |e
  ·rw [e];exact h.1.1
  ·exact zsU h.2 x e
theorem zEt{c:za}(h:zuK c=true):Okc c:=by
 unfold zuK at h;simp only [Qd,Qk,decide_eq_true_eq] at h;obtain ⟨_,⟨⟨⟨⟨h1,h2⟩,h3,h4⟩,h5⟩,h6⟩⟩:=h;exact ⟨zk0 h1,by omega,fun s hs=>zk0 (zsU h3 s hs)⟩
theorem zEa:∀c∈giv,Okc c:=by
 intro c hc
 have h:giv.all (fun c=>!(c.Name == [])&&(c.Impl == []))=true:=by decide +kernel
 have:=Qs.1 h c hc;simp only [Qd,Qk,beq_eq_false_iff_ne,beq_iff_eq] at this;exact ⟨this.1,by rw [this.2];simp,fun s hs=>by rw [this.2] at hs;cases hs⟩
theorem zvW{l L:List za}(h:lay giv l=some L):∀c∈L,Okc c:=by
 obtain ⟨h1,h2,h3⟩:=zuB l giv L zus h;intro c hc;rw [h1] at hc
 rcases Qu.1 hc with e |e
 ·exact zEa c e
 ·exact zEt (h3 c e)
theorem zBs{c:za}(h:c.Impl.length≤4):zhj 16 [c.Super] c.Impl=some (c.Super ::c.Impl):=zbi (by simp;omega) (by simp;omega)
theorem zlB{c:za}(h:c.Impl.length≤4):zjO c=some (c.Super ::c.Impl):=by
 unfold zjO;rw [zBs h];rfl
theorem zzi{l:List Tx}{L:List za}{m:List (Tx×Int)}(hm:zaW L m)(hl:l.length≤1000):zaH l L m=some (l.any fun s=>!zeb L s):=by
 unfold zaH zc9
 rw [show ((zr (fun z=>zbq l L m z) 0).bind fun o=>zQ o (fun b=>zeO) some)=_ from zaz (l:=l) (p:=fun s=>!zeb L s) (by omega)
  (fun i x hx=>by unfold zbq znk zbz;rw [ze8 hx,zw,hx];simp only [cond_true,Qa];rw [hm.has]) (by unfold zbq;rw [zfM];rfl)]
 exact congrArg some (zem _ 0 l)
theorem zsv{L:List za}{m:List (Tx×Int)}(hm:zaW L m){n:Tx}(hn:zeb L n=true):zdP L m n=cl L n:=by
 unfold zdP;rw [hm.idx hn];cases cl L n <;> rfl
theorem zzj{l:List Tx}{L:List za}{m:List (Tx×Int)}(hm:zaW L m)(hl:l.length≤1000)(hh:∀s∈l,zeb L s=true):zaI l L m=some (l.any fun s=>!isF L s):=by
 unfold zaI zda
 rw [show ((zr (fun z=>zbr l L m z) 0).bind fun o=>zQ o (fun b=>zeP) some)=_ from zaz (l:=l) (p:=fun s=>!isF L s) (by omega)
  (fun i x hx=>by
   obtain ⟨c,hc⟩:=zgX (hh x (Qc hx));unfold zbr zjo isF
   rw [ze8 hx,zw,hx];simp only [cond_true,Qa];rw [zsv hm (zh4 hc),hc];rfl) (by unfold zbr;rw [zfM];rfl)]
 exact congrArg some (zem _ 0 l)
def cyc(L:List za)(n:Tx):Bool:=@decide (Rc (nxA L) n n) (Classical.propDecidable _)
theorem zvy{L:List za}{n:Tx}:cyc L n=true↔Rc (nxA L) n n:=by unfold cyc;exact @decide_eq_true_iff _ (Classical.propDecidable _)
def zxP(L:List za)(c:za):Bool:=isF L c.Super||(c.Impl.any (fun s=>!isF L s)||cyc L c.Name)
theorem zrv{R:Type}{body:List Tx×Int→Option (Sum (List Tx×Int) (Sum (List Tx) R))}{l:List Tx}{p:Tx→Bool}(hl:l.length≤100)
  (hb:∀(i:Nat) x zal,zal.length≤1000→l[i]?=some x→body (zal,(i:Int))=some (.inl (cond (p x&&!(zal.any fun y=>x == y)) (zal++[x]) zal,IntKind.i64.wrap ((i:Int)+1))))
  (he:∀zal,body (zal,(l.length:Int))=some (.inr (.inl zal))):∀(r pre zal:List Tx),l=pre++r→zal.length+r.length≤1000→zr body (zal,(pre.length:Int))=some (.inl (push zal (r.filter p)))
 | [],pre,zal,e,hs=>by
  rw [Qz] at e;subst e;rw [zR,he];rfl
 |x ::r,pre,zal,e,hs=>by
  have hlen:l.length=pre.length+(r.length+1):=by rw [e];simp
  have hx:l[pre.length]?=some x:=by rw [e];simp
  simp only [Qx] at hs;rw [zR,hb _ x zal (by omega) hx,zU (by omega)];have ih:=fun s h=>zrv hl hb he r (pre++[x]) s (by rw [e];simp) h;rw [show (pre++[x]).length=pre.length+1 by simp] at ih
  cases h1:p x with
  |false =>
   rw [Yh (by rw [h1];exact Q7)];exact ih zal (by omega)
  |true =>
   rw [Yi h1];unfold push
   cases h2:(zal.any fun y=>x == y) with
   |true=>exact ih zal (by omega)
   |false=>exact ih (zal++[x]) (by simp;omega)
theorem zqC{l:List Tx}(hl:l.length≤1000)(n:Tx):zK l n=some (l.any fun y=>n == y):=ztf (by unfold zlm;omega) n
theorem zzx{l zal:List Tx}(hl:l.length≤100)(hs:zal.length+l.length≤1000):zr (fun z=>zeV l z.1 z.2) (zal,0)=some (.inl (push zal (l.filter (fun s=>!(s == []))))):=by
 refine zrv (l:=l) (p:=fun s=>!(s == [])) hl (fun i x s h hx=>?_) (fun s=>?_) l [] zal rfl hs
 ·show zeV l s (i:Int)=_;unfold zeV zhm;rw [ze8 hx,zw,hx];simp only [cond_true,Qa];rw [zqC h,zbi (w:=16) (l:=s) (x:=[x]) (by simp;omega) (by simp;omega)];cases (x == []) <;> cases (s.any fun y=>x == y) <;> rfl
 ·show zeV l s (l.length:Int)=_;unfold zeV;rw [zfM];rfl
theorem zxa{L:List za}{n:Tx}{c:za}(h:cl L n=some c):nxA L n=(c.Super ::c.Impl).filter (fun s=>!(s == [])):=by unfold nxA;rw [h]
theorem zDm{L:List za}(hL:∀c∈L,Okc c)(n:Tx):(nxA L n).length≤5:=by
 unfold nxA;split
 ·simp
 ·rename_i c hc;have:=(hL c (zbK hc).1).impl;exact QI (JQ _ _) (by simp;omega)
theorem zCp(l zal:List Tx):(push zal l).length≤zal.length+l.length:=by
 induction l generalizing zal with
 |nil=>simp [push]
 |cons x r ih =>
  unfold push
  cases (zal.any fun y=>x == y) with
  |true=>have:=ih zal;simp only [cond_true,Qx];omega
  |false=>have:=ih (zal++[x]);simp only [cond_false,Qx];simp at this;omega
theorem zD4{L:List za}{m:List (Tx×Int)}(hm:zaW L m)(h:zDA L)(hO:∀c∈L,Okc c)(hlen:L.length≤100){c:za}(hc:c∈L)(hs:c.Super≠[]):zgL L m c=some (!zxP L c):=by
 have hcs:=h.closed c hc;have hsup:zeb L c.Super=true:=hcs c.Super (by simp) hs;obtain ⟨x,hx⟩:=zgX hsup;have himp:∀s∈c.Impl,zeb L s=true:=fun s hm=>hcs s (by simp [hm]) ((hO c hc).implE s hm);have hi4:=(hO c hc).impl
 have e0:(c.Super ::c.Impl)=nxA L c.Name:=by
  rw [zxa (h.nd.cl hc),List.filter_eq_self.2];intro s hsm
  rcases Qr.1 hsm with e |e
  ·rw [e];simpa using hs
  ·simpa using (hO c hc).implE s e
 unfold zgL;rw [zsv hm hsup,hx,zzj hm (by omega) himp,zlB hi4];simp only [Qa]
 have eF:isF L c.Super=x.Interface:=by unfold isF;rw [hx]
 unfold zxP;rw [eF]
 cases x.Interface with
 |true=>rfl
 |false =>
  cases c.Impl.any (fun s=>!isF L s) with
  |true=>rfl
  |false =>
   have hfin:fin (nxA L) (5+L.length) 0 (nxA L c.Name)=true:=zzv (U:=L.map (·.Name)) (s0:=nxA L c.Name) h.nxA_in _ _ _ .start (by have:=zDm hO c.Name;simp;omega)
   have hw:=zvj (R:=Bool) (I:=fun s=>Inv (List.map (fun c:za=>c.Name) L) (nxA L c.Name) s) (nx:=nxA L) (stop:=fun y=>cond (y == c.Name) (some false) none) (body:=fun z=>zdA L m c z.1 z.2)
    (fun i zal y hI hy=>by
     have hsl:=hI.len;have h5:=zDm hO c.Name;have hym:zeb L y=true:=zj2.2 (hI.mem (fun z hz=>h.nxA_in _ z hz) y (Qc hy));obtain ⟨d,hd⟩:=zgX hym;have hd4:=(hO d (zbK hd).1).impl;have hpl:=zCp (nxA L y) zal;simp only [QQ] at hsl;show zdA L m c zal (i:Int)=_;unfold zdA zk3;rw [ze8 hy,zw,hy];simp only [cond_true,Qa];have hilt:=(Qb.1 hy).1;rw [zsv hm hym,hd];simp only [Qa];rw [zlB hd4];simp only [Qa];rw [zzx (by simp;omega) (by simp;omega),←zxa hd,zU (by omega)]
     cases y == c.Name <;> rfl)
    (fun i zal hI hle=>by
     show zdA L m c zal (i:Int)=_;unfold zdA
     rw [decide_eq_false (by omega)];rfl)
    (fun zal y hI hy=>hI.push (h.nxA_in y)) (5+L.length) 0 (nxA L c.Name) .start hfin
   rw [e0];rw [show zr (fun z=>zdA L m c z.1 z.2) (nxA L c.Name,0)=_ from hw,J3,zcK]
   have:(bfs (nxA L) (5+L.length) 0 (nxA L c.Name)).any (fun y=>y == c.Name)=cyc L c.Name:=by
    rw [Jd,zvy,←zE9 hfin,QJ];constructor
    ·rintro ⟨y,h1,h2⟩;obtain rfl:=eq_of_beq h2;exact h1
    ·intro h1;exact ⟨_,h1,beq_self_eq_true _⟩
   rw [this];cases cyc L c.Name <;> rfl
def onB(inn:List Bool)(n:Nat):Bool:=inn.getD n false
def zsc(L:List za)(inn:List Bool)(s:Tx):Bool:=zeb L s&&!onB inn (atN L s).toNat
def mk1(L:List za)(inn:List Bool)(s:Tx):List Bool:=cond (zsc L inn s) (inn.set (atN L s).toNat true) inn
def mkS(L:List za):List Bool→List Tx→List Bool
 |inn,[]=>inn
 |inn,s ::r=>mkS L (mk1 L inn s) r
theorem zy5{L:List za}{s:Tx}(h:zeb L s=true):0≤atN L s∧(atN L s).toNat<L.length:=by
 unfold zeb at h;unfold atN
 rcases zrd (fun c:za=>c.Name == s) L 0 with ⟨j,x,h1,h2,h3,h4⟩ |⟨h1,h2⟩
 ·have:=(Qb.1 h2).1;rw [h1];omega
 ·rw [QJ] at h;obtain ⟨c,k1,k2⟩:=h;have:=List.find?_eq_none.1 h2 c k1;exact absurd k2 this
theorem ztz(L:List za)(inn:List Bool)(s:Tx):(mk1 L inn s).length=inn.length:=by
 unfold mk1;cases zsc L inn s <;> simp
theorem zpW(L:List za):∀(l:List Tx) (inn:List Bool),(mkS L inn l).length=inn.length
 | [],inn=>rfl
 |s ::r,inn=>by unfold mkS;rw [zpW L r,ztz]
theorem zDo{inn:List Bool}{n k:Nat}(h:n<inn.length):onB (inn.set n true) k=(onB inn k||Nat.beq k n):=by
 unfold onB;rw [Ql,Ql,List.getElem?_set];by_cases e:n=k
 ·subst e;simp [h]
 ·rw [if_neg e]
  have:Nat.beq k n=false:=by
   cases hb:Nat.beq k n with
   |false=>rfl
   |true=>exact absurd (Qj hb).symm e
  rw [this,Q0]
theorem zFB{L:List za}{inn:List Bool}(hl:inn.length=L.length)(s:Tx)(k:Nat):onB (mk1 L inn s) k=(onB inn k||(zeb L s&&Nat.beq k (atN L s).toNat)):=by
 unfold mk1 zsc
 cases h:zeb L s with
 |false=>simp
 |true =>
  cases h2:onB inn (atN L s).toNat with
  |false =>
   simp only [QB,JI,cond_true,QD];exact zDo (by rw [hl];exact (zy5 h).2)
  |true =>
   simp only [Qp,J6,cond_false,QD]
   cases h3:Nat.beq k (atN L s).toNat with
   |false=>simp
   |true=>rw [Qj h3,h2];rfl
theorem zzZ{L:List za}:∀(l:List Tx) (inn:List Bool),inn.length=L.length→∀k,onB (mkS L inn l) k=(onB inn k||l.any (fun s=>zeb L s&&Nat.beq k (atN L s).toNat))
 | [],inn,hl,k=>by simp [mkS]
 |s ::r,inn,hl,k=>by
  unfold mkS;rw [zzZ r _ (by rw [ztz];exact hl),zFB hl,Jg,Bool.or_assoc]
theorem zuP{L:List za}:∀(l:List Tx) (inn:List Bool),l.any (zsc L inn)=false→mkS L inn l=inn
 | [],inn,_=>rfl
 |s ::r,inn,h=>by
  rw [Jg,Qo] at h;unfold mkS
  have:mk1 L inn s=inn:=by unfold mk1;rw [h.1];rfl
  rw [this,zuP r inn h.2]
theorem zsE{R:Type}{L:List za}{l:List Tx}{body:List Bool×Bool×Int→Option (Sum (List Bool×Bool×Int) (Sum (List Bool×Bool) R))}(hl:l.length≤1000)
  (hb:∀(j:Nat) s inn more,inn.length=L.length→l[j]?=some s→body (inn,more,(j:Int))=some (.inl (mk1 L inn s,more||zsc L inn s,IntKind.i64.wrap ((j:Int)+1))))
  (he:∀inn more,body (inn,more,(l.length:Int))=some (.inr (.inl (inn,more)))):
  ∀(r pre:List Tx) (inn:List Bool) (more:Bool),l=pre++r→inn.length=L.length→zr body (inn,more,(pre.length:Int))=some (.inl (mkS L inn r,more||r.any (zsc L inn)))
 | [],pre,inn,more,e,hi=>by
  rw [Qz] at e;subst e;rw [zR,he];show some _=some _;simp [mkS]
 |s ::r,pre,inn,more,e,hi=>by
  have hlen:l.length=pre.length+(r.length+1):=by rw [e];simp
  have hx:l[pre.length]?=some s:=by rw [e];simp
  rw [zR,hb _ s inn more hi hx,zU (by omega)];have ih:=fun i m h=>zsE hl hb he r (pre++[s]) i m (by rw [e];simp) h;rw [show (pre++[s]).length=pre.length+1 by simp] at ih;show zr body (mk1 L inn s,more||zsc L inn s,((pre.length+1:Nat):Int))=_;rw [ih _ _ (by rw [ztz];exact hi),Jg,show mkS L inn (s ::r)=mkS L (mk1 L inn s) r from rfl]
  cases h:zsc L inn s with
  |true=>simp
  |false =>
   have:mk1 L inn s=inn:=by unfold mk1;rw [h];rfl
   rw [this];simp
def zld(L:List za)(nx:za→List Tx)(act:Nat→Bool):List Bool→Nat→List za→List Bool
 |inn,_,[]=>inn
 |inn,k,c ::r=>zld L nx act (cond (onB inn k||act k) (mkS L inn (nx c)) inn) (k+1) r
def zpr(L:List za)(nx:za→List Tx)(act:Nat→Bool):List Bool→Nat→List za→Bool
 |_,_,[]=>false
 |inn,k,c ::r=>cond (onB inn k||act k) ((nx c).any (zsc L inn)) false||zpr L nx act (cond (onB inn k||act k) (mkS L inn (nx c)) inn) (k+1) r
section
variable {L : List za} {nx : za → List Tx} {act : Nat → Bool}
theorem zxh:∀(r:List za) (k:Nat) (inn:List Bool),(zld L nx act inn k r).length=inn.length
 | [],k,inn=>rfl
 |c ::r,k,inn=>by
  unfold zld;rw [zxh r]
  cases onB inn k||act k
  ·rfl
  ·exact zpW L _ _
theorem zEI{inn:List Bool}(hl:inn.length=L.length)(b:Bool)(l:List Tx)(n:Nat)(h:onB inn n=true):onB (cond b (mkS L inn l) inn) n=true:=by
 cases b with
 |false=>exact h
 |true=>show onB (mkS L inn l) n=true;rw [zzZ l inn hl,h];rfl
theorem zuY:∀(r:List za) (k:Nat) (inn:List Bool),inn.length=L.length→∀n,onB inn n=true→onB (zld L nx act inn k r) n=true
 | [],k,inn,hl,n,h=>h
 |c ::r,k,inn,hl,n,h=>by
  unfold zld;refine zuY r (k+1) _ ?_ n (zEI hl _ _ n h)
  cases onB inn k||act k
  ·exact hl
  ·exact (zpW L _ _).trans hl
theorem zpZ:∀(r:List za) (k:Nat) (inn:List Bool),zpr L nx act inn k r=false→zld L nx act inn k r=inn∧∀(j:Nat) c,r[j]?=some c→(onB inn (k+j)||act (k+j))=true→(nx c).any (zsc L inn)=false
 | [],k,inn,_=>⟨rfl,fun j c h=>by simp at h⟩
 |c ::r,k,inn,h=>by
  unfold zpr at h;unfold zld;rw [Qo] at h
  have e:cond (onB inn k||act k) (mkS L inn (nx c)) inn=inn:=by
   cases hb:onB inn k||act k with
   |false=>rfl
   |true=>rw [hb] at h;exact zuP _ _ h.1
  rw [e] at h ⊢;obtain ⟨h1,h2⟩:=zpZ r (k+1) inn h.2;refine ⟨h1,fun j d hj hb=>?_⟩
  cases j with
  |zero =>
   have:c=d:=by simpa using hj
   subst this;rw [Jf] at hb;rw [hb] at h;exact h.1
  |succ j=>exact h2 j d (by simpa using hj) (by rw [show k+1+j=k+(j+1) by omega];exact hb)
theorem zsH{Q:Nat→Prop}:∀(r:List za) (k:Nat) (inn:List Bool),inn.length=L.length→(∀(j:Nat) c,r[j]?=some c→(Q (k+j)∨act (k+j)=true)→∀s∈nx c,zeb L s=true→Q (atN L s).toNat) →
  (∀n,onB inn n=true→Q n)→∀n,onB (zld L nx act inn k r) n=true→Q n
 | [],k,inn,hl,hQ,h=>h
 |c ::r,k,inn,hl,hQ,h=>by
  unfold zld;refine zsH r (k+1) _ ?_ (fun j d hj hor=>?_) (fun n hn=>?_)
  ·cases onB inn k||act k
   ·exact hl
   ·exact (zpW L _ _).trans hl
  ·rw [show k+1+j=k+(j+1) by omega] at hor;exact hQ (j+1) d (by simpa using hj) hor
  ·cases hb:onB inn k||act k with
   |false=>rw [hb] at hn;exact h n hn
   |true =>
    rw [hb] at hn;have hn:onB (mkS L inn (nx c)) n=true:=hn;rw [zzZ _ _ hl,Qw] at hn
    rcases hn with hn |hn
    ·exact h n hn
    ·rw [QJ] at hn;obtain ⟨s,hs,hs2⟩:=hn;rw [Qd] at hs2;rw [Qj hs2.2];refine hQ 0 c rfl ?_ s hs hs2.1;rw [Jf];rw [Qw] at hb;exact hb.imp (h k) id
def cnt(inn:List Bool):Nat:=inn.count true
theorem zzg:∀(inn:List Bool) (n:Nat),n<inn.length→onB inn n=false→cnt (inn.set n true)=cnt inn+1
 | [],n,h,_=>by simp at h
 |b ::r,0,h,hb=>by
  have:b=false:=by simpa [onB] using hb
  subst this;simp [cnt]
 |b ::r,n+1,h,hb=>by
  have:=zzg r n (by simpa using h) (by simpa [onB] using hb);unfold cnt at this ⊢;rw [List.set_cons_succ,Yr,Yr,this];omega
theorem zDU{inn:List Bool}(hl:inn.length=L.length)(s:Tx):cnt (mk1 L inn s)=cnt inn+cond (zsc L inn s) 1 0:=by
 unfold mk1
 cases h:zsc L inn s with
 |false=>rfl
 |true =>
  unfold zsc at h;rw [Qd,Qk] at h;exact zzg inn _ (by rw [hl];exact (zy5 h.1).2) h.2
theorem zzf:∀(l:List Tx) (inn:List Bool),inn.length=L.length→cnt inn+cond (l.any (zsc L inn)) 1 0≤cnt (mkS L inn l)
 | [],inn,hl=>by simp [mkS]
 |s ::r,inn,hl=>by
  have ih:=zzf r (mk1 L inn s) (by rw [ztz];exact hl);have h1:=zDU hl s;unfold mkS;rw [Jg]
  cases h:zsc L inn s with
  |true=>rw [h] at h1;simp only [cond_true] at h1;simp only [Yp,cond_true];omega
  |false =>
   have e:mk1 L inn s=inn:=by unfold mk1;rw [h];rfl
   rw [e] at ih ⊢;simpa using ih
theorem zwJ:∀(r:List za) (k:Nat) (inn:List Bool),inn.length=L.length→cnt inn+cond (zpr L nx act inn k r) 1 0≤cnt (zld L nx act inn k r)
 | [],k,inn,hl=>by simp [zld,zpr]
 |c ::r,k,inn,hl=>by
  unfold zld zpr
  have hl2:(cond (onB inn k||act k) (mkS L inn (nx c)) inn).length=L.length:=by
   cases onB inn k||act k
   ·exact hl
   ·exact (zpW L _ _).trans hl
  have ih:=zwJ r (k+1) _ hl2
  have h1:cnt inn+cond (cond (onB inn k||act k) ((nx c).any (zsc L inn)) false) 1 0≤cnt (cond (onB inn k||act k) (mkS L inn (nx c)) inn):=by
   cases onB inn k||act k with
   |false=>simp
   |true=>exact zzf _ _ hl
  generalize cond (onB inn k||act k) ((nx c).any (zsc L inn)) false=x at *
  generalize zpr L nx act (cond (onB inn k||act k) (mkS L inn (nx c)) inn) (k+1) r=y at *
  cases x <;> cases y <;> simp only [Q0,Jv,cond_true,cond_false] at*<;> omega
theorem zFd(inn:List Bool):cnt inn≤inn.length:=List.count_le_length
theorem zuX{R X:Type}{st:List Bool→Bool→Int→X}{body:X→Option (Sum X (Sum (List Bool×Bool) R))}(hL:L.length≤1000)
  (hb:∀(k:Nat) c inn more,inn.length=L.length→L[k]?=some c→body (st inn more (k:Int))=some (.inl (cond (onB inn k||act k) (st (mkS L inn (nx c)) (more||(nx c).any (zsc L inn)) ((k+1:Nat):Int)) (st inn more ((k+1:Nat):Int)))))
  (he:∀inn more,body (st inn more (L.length:Int))=some (.inr (.inl (inn,more)))):
  ∀(r pre:List za) (inn:List Bool) (more:Bool),L=pre++r→inn.length=L.length→zr body (st inn more (pre.length:Int))=some (.inl (zld L nx act inn pre.length r,more||zpr L nx act inn pre.length r))
 | [],pre,inn,more,e,hi=>by
  rw [Qz] at e;subst e;rw [zR,he];show some _=some _;simp [zld,zpr]
 |c ::r,pre,inn,more,e,hi=>by
  have hx:L[pre.length]?=some c:=by rw [e];simp
  rw [zR,hb _ c inn more hi hx];have ih:=fun i m h=>zuX hL hb he r (pre++[c]) i m (by rw [e];simp) h;rw [show (pre++[c]).length=pre.length+1 by simp] at ih;unfold zld zpr
  cases onB inn pre.length||act pre.length with
  |false =>
   show zr body (st inn more ((pre.length+1:Nat):Int))=_;rw [ih _ _ hi];simp
  |true =>
   show zr body (st (mkS L inn (nx c)) _ ((pre.length+1:Nat):Int))=_;rw [ih _ _ (by rw [zpW];exact hi),Bool.or_assoc];rfl
def zGQ(L:List za)(nx:za→List Tx)(act:Nat→Bool)(R:List Bool):Prop:=
 ∀(k:Nat) c,L[k]?=some c→(onB R k||act k)=true→∀s∈nx c,zeb L s=true→onB R (atN L s).toNat=true
theorem zEE{inn:List Bool}(h:zpr L nx act inn 0 L=false):zGQ L nx act inn:=fun k c hk hb s hs hh=>by
 have:=(zpZ L 0 inn h).2 k c hk (by rw [QZ];exact hb);rw [Qq] at this;have:=this s hs;unfold zsc at this;rw [hh,QD,Qk,Bool.not_eq_false] at this;exact this
theorem zsG{R X:Type}{st:List Bool→Bool→X}{body:X→Option (Sum X (Sum (List Bool) R))}{Q:Nat→Prop}
  (hb:∀inn,inn.length=L.length→body (st inn true)=some (.inl (st (zld L nx act inn 0 L) (zpr L nx act inn 0 L))))
  (he:∀inn,inn.length=L.length→body (st inn false)=some (.inr (.inl inn)))
  (hQ:∀(j:Nat) c,L[j]?=some c→(Q j∨act j=true)→∀s∈nx c,zeb L s=true→Q (atN L s).toNat):
  ∀(d:Nat) (inn:List Bool),inn.length=L.length→L.length≤d+cnt inn→(∀n,onB inn n=true→Q n) →
  ∃F,zr body (st inn true)=some (.inl F)∧F.length=L.length∧zGQ L nx act F∧(∀n,onB inn n=true→onB F n=true)∧(∀n,onB F n=true→Q n)
 |d,inn,hl,hd,hq=>by
  have hl2:(zld L nx act inn 0 L).length=L.length:=(zxh L 0 inn).trans hl;rw [zR,hb inn hl]
  cases hg:zpr L nx act inn 0 L with
  |false =>
   have e:=(zpZ L 0 inn hg).1;refine ⟨inn,?_,hl,zEE hg,fun n h=>h,hq⟩;show zr body (st _ false)=_;rw [zR,he _ hl2,e];rfl
  |true =>
   have hc:=zwJ (nx:=nx) (act:=act) L 0 inn hl;rw [hg] at hc;simp only [cond_true] at hc;have hle:=zFd (zld L nx act inn 0 L);have hq2:∀n,onB (zld L nx act inn 0 L) n=true→Q n:=zsH L 0 inn hl (fun j c hj hor=>by rw [QZ] at hor;exact hQ j c hj hor) hq
   cases d with
   |zero=>omega
   |succ d =>
    obtain ⟨F,k1,k2,k3,k4,k5⟩:=zsG hb he hQ d _ hl2 (by omega) hq2;exact ⟨F,k1,k2,k3,fun n h=>k4 n (zuY L 0 inn hl n h),k5⟩
end
def mis(L:List za)(c:za):Bool:=(c.Super ::c.Impl).any (fun s=>!zeb L s)
def zyf(l:List za):Option (List za)×Int:=
 cond (decide (16<(l.length:Int))) (none,3) (match lay giv l with
  |none=>(none,1)
  |some L=>cond (l.any (mis L)) (none,4) (cond (l.any (zxP L)) (none,1) (some L,0)))
theorem zzR{l L:List za}(h:lay giv l=some L)(hm:l.any (mis L)=false):zDA L∧∀c∈l,c.Super≠[]:=by
 obtain ⟨h1,h2,h3⟩:=zuB l giv L zus h;have hO:=zvW h
 have noE:zeb L []=false:=by
  cases hh:zeb L [] with
  |false=>rfl
  |true =>
   obtain ⟨c,hc⟩:=zgX hh;exact absurd (zbK hc).2 (hO c (zbK hc).1).name
 have hl:∀c∈l,∀s∈c.Super ::c.Impl,zeb L s=true:=fun c hc s hs=>by
  have:=Qq.1 hm c hc;unfold mis at this;rw [Bool.not_eq_true,Qq] at this;simpa using this s hs
 refine ⟨⟨h2,noE,fun c hc s hs hne=>?_,fun c hc hm=>(hO c hc).implE [] hm rfl⟩,fun c hc e=>?_⟩
 ·rw [h1] at hc
  rcases Qu.1 hc with e |e
  ·have hg:giv.all (fun c=>(c.Super ::c.Impl).all (fun s=>s == []||zeb giv s))=true:=by decide +kernel
   have:=Qs.1 (Qs.1 hg c e) s hs;rw [Qw,beq_iff_eq] at this
   rcases this with e |e
   ·exact absurd e hne
   ·rw [zj2] at e ⊢;rw [h1,JY];exact Ja _ e
  ·exact hl c e s hs
 ·have:=hl c hc c.Super (by simp);rw [e,noE] at this;cases this
theorem zFH{l L:List za}{m:List (Tx×Int)}(hl:l.length≤16)(hm:zaW L m)(hO:∀c∈l,c.Impl.length≤4):
  zr (fun z=>ziD l L m z) 0=some (zqf () (cond (l.any (mis L)) (some (none,4)) none)):=by
 rw [←zcK];refine zeq (fun i c hc=>?_) ?_
 ·show ziD l L m (i:Int)=_;have:=hO c (Qc hc);have hi:=(Qb.1 hc).1;unfold ziD;rw [ze8 hc,zw,hc];simp only [cond_true,Qa];rw [zlB this];simp only [Qa];rw [zzi hm (by simp;omega),zU (by omega)];simp only [Qa];show _=some (zy3 i (cond (mis L c) _ _));unfold mis;cases ((c.Super ::c.Impl).any fun s=>!zeb L s) <;> rfl
 ·show ziD l L m (l.length:Int)=_;unfold ziD;rw [zfM];rfl
theorem zFI{l L:List za}{m:List (Tx×Int)}(hl:l.length≤16)(hf:∀c∈l,zgL L m c=some (!zxP L c)):
  zr (fun z=>ziE l L m z) 0=some (zqf () (cond (l.any (zxP L)) (some (none,1)) none)):=by
 rw [←zcK];refine zeq (fun i c hc=>?_) ?_
 ·show ziE l L m (i:Int)=_;have hi:=(Qb.1 hc).1;unfold ziE;rw [ze8 hc,zw,hc];simp only [cond_true,Qa];rw [hf c (Qc hc),zU (by omega)];simp only [Qa];cases zxP L c <;> rfl
 ·show ziE l L m (l.length:Int)=_;unfold ziE;rw [zfM];rfl
theorem zvJ{l:List za}(hc:∀c∈l,zE1 c):∃m,(∀L,(zyf l).1=some L→zaW L m)∧zkE l=some ((zyf l).1.map (fun L=>zq.mk L m),(zyf l).2):=by
 unfold zkE zyf
 cases hl:decide (16<(l.length:Int)) with
 |true=>exact ⟨[],fun L h=>(by cases h),rfl⟩
 |false =>
  have hl:=of_decide_eq_false hl;rw [ztg];simp only [cond_false,Qa];rw [zD9];simp only [Qa,zQ]
  have hl16:l.length≤16:=by omega
  obtain ⟨h1,h2⟩:=zw4 hl16 hc l [] giv _ rfl zzF rfl;unfold zq7
  cases hy:lay giv l with
  |none =>
   rw [show zr (fun z=>ze2 l z.1 z.2.1 z.2.2) (giv,zuQ 0 [] giv,0)=_ from h1 hy];exact ⟨[],fun L h=>(by cases h),rfl⟩
  |some L =>
   obtain ⟨m,hm,e⟩:=h2 L hy;rw [show zr (fun z=>ze2 l z.1 z.2.1 z.2.2) (giv,zuQ 0 [] giv,0)=_ from e];obtain ⟨k1,k2,k3⟩:=zuB l giv L zus hy;have hO:=zvW hy
   have hlL:∀c∈l,c∈L:=fun c hc=>by rw [k1];exact Jy _ hc
   have hlen:L.length≤100:=by rw [k1,Qt];have:giv.length=10:=rfl;omega
   simp only [Qa,zQ];unfold zq8;rw [zFH hl16 hm (fun c hc=>(hO c (hlL c hc)).impl)]
   cases hmis:l.any (mis L) with
   |true=>exact ⟨[],fun L h=>(by cases h),rfl⟩
   |false =>
    obtain ⟨hL,hS⟩:=zzR hy hmis;simp only [cond_false,Qa,zQ,zqf];unfold zq9;rw [zFI hl16 (fun c hc=>zD4 hm hL hO hlen (hlL c hc) (hS c hc))]
    cases hb:l.any (zxP L) with
    |true=>exact ⟨[],fun L h=>(by cases h),rfl⟩
    |false=>exact ⟨m,fun L' h=>(by cases h;exact hm),rfl⟩
theorem zo4{L:List za}(hl:L.length≤1000)(n:Tx):zcc L n=some (atN L n):=by
 unfold zcc
 rw [show ((zr (fun z=>zil L n z) 0).bind fun o=>zQ o (fun b=>zmZ) some)=_ from zaz (l:=L) (p:=fun c:za=>c.Name == n) (by omega)
  (fun i x hx=>by unfold zil;rw [ze8 hx,zw,hx];rfl) (by unfold zil;rw [zfM];rfl)]
 rfl
theorem zDn{inn:List Bool}{k:Nat}(h:k<inn.length):idx inn (k:Int)=some (onB inn k):=by
 rw [zw,Qe h];unfold onB;rw [Ql,Qe h];rfl
theorem zwG{L l:List za}(h:L=giv++l){n:Tx}{c:za}(hc:cl giv n=some c):cl L n=some c:=by
 rw [h];unfold cl at hc ⊢;rw [List.find?_append,hc];rfl
theorem zFc{L l:List za}(h:L=giv++l){n:Tx}(hn:zeb giv n=true):cl L n=cl giv n:=by
 obtain ⟨c,hc⟩:=zgX hn;rw [hc,zwG h hc]
theorem zBQ:giv.all (fun c=>(nxA giv c.Name).all (fun s=>decide (atN giv s<atN giv c.Name)&&zeb giv s))=true:=by decide +kernel
theorem zFh{L l:List za}(h:L=giv++l){a b:Tx}(hr:Rc (nxA L) a b):zeb giv a=true→atN giv b<atN giv a∧zeb giv b=true:=by
 have one:∀{a b:Tx},b∈nxA L a→zeb giv a=true→atN giv b<atN giv a∧zeb giv b=true:=fun {a b} hb ha=>by
  have e:nxA L a=nxA giv a:=by unfold nxA;rw [zFc h ha]
  rw [e] at hb;obtain ⟨c,hc⟩:=zgX ha;have h1:=Qs.1 zBQ c (zbK hc).1;rw [(zbK hc).2] at h1;have h2:=Qs.1 h1 b hb;rw [Qd,decide_eq_true_eq] at h2;exact h2
 induction hr with
 |one hb=>exact one hb
 |more hb _ ih =>
  intro ha;have h1:=one hb ha;have h2:=ih h1.2;exact ⟨by omega,h2.2⟩
theorem zD7{L l:List za}(h:L=giv++l){c:za}(hc:c∈giv):cyc L c.Name=false:=by
 cases hh:cyc L c.Name with
 |false=>rfl
 |true =>
  have:=(zFh h (zvy.1 hh) (zh4 (zus.cl hc))).1;omega
theorem zzE:giv.all (fun c=>(c.Impl == [])&&!c.Interface&&(c.Super == []||zeb giv c.Super))=true:=by decide +kernel
theorem zD6{c:za}(hc:c∈giv):c.Impl=[]∧c.Interface=false∧(c.Super=[]∨zeb giv c.Super=true):=by
 have:=Qs.1 zzE c hc;simp only [Qd,beq_iff_eq,Qk,Qw] at this;exact ⟨this.1.1,this.1.2,this.2⟩
theorem zD8{L l:List za}(h:L=giv++l){n:Tx}(hn:zeb giv n=true):isF L n=false:=by
 obtain ⟨c,hc⟩:=zgX hn;unfold isF;rw [zwG h hc];exact (zD6 (zbK hc).1).2.1
theorem zD5{L l:List za}(h:L=giv++l)(hE:zeb L []=false){c:za}(hc:c∈giv):zxP L c=false:=by
 obtain ⟨h1,h2,h3⟩:=zD6 hc;unfold zxP;rw [zD7 h hc,h1]
 rcases h3 with e |e
 ·rw [e]
  have:isF L []=false:=by
   unfold isF
   cases hcl:cl L [] with
   |none=>rfl
   |some d=>rw [zh4 hcl] at hE;cases hE
  rw [this];rfl
 ·rw [zD8 h e];rfl
theorem zrb{L:List za}{n:Tx}{c:za}(h:cl L n=some c):idx L (atN L n)=some c:=by rw [zqj,h]
structure zct(l L:List za):Prop extends Wf L where
 app:L=giv++l
 few:l.length≤16
 okc:∀c∈L,Okc c
 may:∀c∈l,zuK c=true
theorem zct.len{l L:List za}(h:zct l L):L.length≤26:=by
 rw [h.app,Qt];have:giv.length=10:=rfl;have:=h.few;omega
theorem zz5{l L:List za}(h:(zyf l).1=some L):zct l L∧(zyf l).2=0:=by
 unfold zyf at h ⊢
 cases hl:decide (16<(l.length:Int)) with
 |true=>rw [hl] at h;cases h
 |false =>
  rw [hl] at h;have hl:=of_decide_eq_false hl;simp only [cond_false] at h ⊢
  cases hy:lay giv l with
  |none=>rw [hy] at h;cases h
  |some L' =>
   rw [hy] at h;simp only at h ⊢
   cases hmis:l.any (mis L') with
   |true=>rw [hmis] at h;cases h
   |false =>
    cases hb:l.any (zxP L') with
    |true=>rw [hmis,hb] at h;cases h
    |false =>
     rw [hmis,hb] at h
     have e:L'=L:=by
      have h:some L'=some L:=h;cases h;rfl
     subst e;obtain ⟨hL,hS⟩:=zzR hy hmis;obtain ⟨k1,k2,k3⟩:=zuB l giv L' zus hy
     have bad:∀c∈L',zxP L' c=false:=fun c hc=>by
      rw [k1] at hc
      rcases Qu.1 hc with e |e
      ·exact zD5 k1 hL.noE e
      ·simpa using Qq.1 hb c e
     have bad':∀c∈L',isF L' c.Super=false∧(c.Impl.any (fun s=>!isF L' s)=false∧cyc L' c.Name=false):=fun c hc=>by
      have:=bad c hc;unfold zxP at this;rw [Qo,Qo] at this;exact this
     refine ⟨⟨⟨hL,fun n hr=>?_,fun c hc=>(bad' c hc).1,fun c hc s hs=>?_⟩,k1,by omega,zvW hy,k3⟩,rfl⟩
     ·cases hn:cl L' n with
      |none =>
       have:nxA L' n=[]:=by unfold nxA;rw [hn]
       cases hr with
       |one h=>rw [this] at h;cases h
       |more h _=>rw [this] at h;cases h
      |some c =>
       have h1:=(bad' c (zbK hn).1).2.2;rw [(zbK hn).2] at h1;rw [zvy.2 hr] at h1;cases h1
     ·have:=Qq.1 (bad' c hc).2.1 s hs;simpa using this
theorem zz6{l:List za}(h:(zyf l).1=none):(zyf l).2≠0:=by
 unfold zyf at h ⊢
 cases hl:decide (16<(l.length:Int)) with
 |true=>simp
 |false =>
  rw [hl] at h;simp only [cond_false] at h ⊢
  cases hy:lay giv l with
  |none=>simp
  |some L' =>
   rw [hy] at h;simp only at h ⊢
   cases hmis:l.any (mis L') with
   |true=>simp
   |false =>
    cases hb:l.any (zxP L') with
    |true=>simp
    |false=>rw [hmis,hb] at h;simp at h
section
variable {l L : List za} {m : List (Tx × Int)}
theorem zrF(h:zct l L)(hm:zaW L m):∀(d:Nat) (n:Tx) (acc:List Tx),zyL L d n=true→acc.length+d≤200→zr (fun z=>zbM L m z.1 z.2) (n,acc)=some (.inl (acc++sup L d n))
 | 0,n,acc,hf,hd=>by
  rw [zR];show (zbM L m n acc).bind _=_;unfold zbM zbz;rw [hm.has]
  have:zeb L n=false:=by simpa [zyL] using hf
  rw [this];simp [sup]
 |d+1,n,acc,hf,hd=>by
  rw [zR];show (zbM L m n acc).bind _=_;unfold zbM zbz;rw [hm.has];unfold zyL at hf;unfold sup
  cases hc:cl L n with
  |none=>rw [zoq hc];simp
  |some c =>
   rw [hc] at hf;rw [zh4 hc,zsv hm (zh4 hc),hc,zbi (by simp;omega) (by simp;omega)];show zr (fun z=>zbM L m z.1 z.2) (c.Super,acc++[n])=_;rw [zrF h hm d c.Super (acc++[n]) hf (by simp;omega)];simp
def zea(L:List za)(n:Tx):List Tx:=sup L L.length n
theorem zis(h:zct l L)(hm:zaW L m)(n:Tx):zad L m n=some (zea L n):=by
 unfold zad;rw [zrF h hm L.length n [] (zxs h.toWf n) (by have:=h.len;simp;omega)];rfl
theorem zm4(h:zct l L):∀(d:Nat) (n:Tx) (acc:List Tx),zyL L d n=true→acc.length+d≤200→zr (fun z=>zbR L z.1 z.2) (acc,atN L n)=some (.inl (acc++sup L d n))
 | 0,n,acc,hf,hd=>by
  rw [zR];show (zbR L acc (atN L n)).bind _=_;unfold zbR
  have:zeb L n=false:=by simpa [zyL] using hf
  rw [zuj,this];simp [sup]
 |d+1,n,acc,hf,hd=>by
  rw [zR];show (zbR L acc (atN L n)).bind _=_;unfold zbR;rw [zuj];unfold zyL at hf;unfold sup
  cases hc:cl L n with
  |none=>rw [zoq hc];simp
  |some c =>
   rw [hc] at hf;have:=h.len;rw [zh4 hc,zrb hc];simp only [cond_true,Qa];rw [zo4 (by omega),zbi (by simp;omega) (by simp;omega),(zbK hc).2];show zr (fun z=>zbR L z.1 z.2) (acc++[n],atN L c.Super)=_;rw [zm4 h d c.Super (acc++[n]) hf (by simp;omega)];simp
theorem zip(h:zct l L)(n:Tx):zcH L n=some (zea L n):=by
 have:=h.len;unfold zcH;rw [zo4 (by omega)];simp only [Qa];rw [zm4 h L.length n [] (zxs h.toWf n) (by simp;omega)];rfl
theorem zAU:∀(d:Nat) (n:Tx),(sup L d n).length≤d
 | 0,n=>by simp [sup]
 |d+1,n=>by
  unfold sup
  cases cl L n with
  |none=>simp
  |some c=>have:=zAU d c.Super;simpa using this
theorem zfI(h:zct l L)(n:Tx):(zea L n).length≤26:=QI (zAU _ n) h.len
theorem zwq(h:zct l L):∀d,sup L d []=[]
 | 0=>rfl
 |d+1=>by
  unfold sup
  cases hE:cl L [] with
  |none=>rfl
  |some c=>have:=zh4 hE;rw [h.noE] at this;cases this
theorem zjt(h:zct l L):∀(d:Nat) (n x:Tx),x∈sup L d n→zeb L x=true∧(x=n∨Rc (nxA L) n x)∧(x=n∨∃c∈L,x=c.Super)
 | 0,n,x,hx=>by simp [sup] at hx
 |d+1,n,x,hx=>by
  unfold sup at hx
  cases hc:cl L n with
  |none=>rw [hc] at hx;cases hx
  |some c =>
   rw [hc] at hx
   rcases Qr.1 hx with e |e
   ·subst e;exact ⟨zh4 hc,.inl rfl,.inl rfl⟩
   ·obtain ⟨h1,h2,h3⟩:=zjt h d c.Super x e
    have hne:c.Super≠[]:=fun e2=>by rw [e2,zwq h] at e;cases e
    have h6:c.Super∈nxA L n:=by rw [zxa hc];exact Jw.2 ⟨by simp,by simpa using hne⟩
    refine ⟨h1,.inr ?_,.inr ?_⟩
    ·rcases h2 with e2 |e2
     ·rw [e2];exact .one h6
     ·exact .more h6 e2
    ·rcases h3 with e2 |e2
     ·exact ⟨c,(zbK hc).1,e2⟩
     ·exact e2
theorem zvf(h:zct l L):∀(d:Nat) (n:Tx),(sup L d n).Nodup
 | 0,n=>by simp [sup]
 |d+1,n=>by
  unfold sup
  cases hc:cl L n with
  |none=>simp
  |some c =>
   refine Ji.2 ⟨fun hm=>?_,zvf h d c.Super⟩
   have hne:c.Super≠[]:=fun e2=>by rw [e2,zwq h] at hm;cases hm
   have h6:c.Super∈nxA L n:=by rw [zxa hc];exact Jw.2 ⟨by simp,by simpa using hne⟩
   obtain ⟨_,h2,_⟩:=zjt h d c.Super n hm
   rcases h2 with e2 |e2
   ·exact h.acyc n (.one (by rw [←e2] at h6;exact h6))
   ·exact h.acyc n (.more h6 e2)
theorem zwp(h:zct l L){n x:Tx}(hx:x∈zea L n):x∈L.map (·.Name):=zj2.1 (zjt h _ n x hx).1
theorem zAT{n:Tx}(hn:zeb L n=true):n∈zea L n:=by
 unfold zea;obtain ⟨c,hc⟩:=zgX hn
 have:L≠[]:=fun e=>by rw [e] at hn;cases hn
 cases hL:L.length with
 |zero=>exact absurd (Qf hL) this
 |succ d=>unfold sup;rw [hc];simp
theorem zlj{n:Tx}(hn:zeb L n=false):zea L n=[]:=by
 unfold zea
 cases L.length with
 |zero=>rfl
 |succ d =>
  unfold sup
  cases hc:cl L n with
  |none=>rfl
  |some c=>rw [zh4 hc] at hn;cases hn
end
theorem ztp:∀(a b:List UInt8),Op.bytesLess a b=true↔a<b
 |a,[]=>by
  have e:Op.bytesLess a []=false:=by cases a <;> rfl
  rw [e];constructor
  ·intro h;cases h
  ·intro h;exact absurd h (List.not_lt_nil a)
 | [],b ::y=>by
  constructor
  ·intro _;exact List.nil_lt_cons b y
  ·intro _;rfl
 |a ::x,b ::y=>by
  rw [List.cons_lt_cons_iff,←ztp x y];show (decide (a<b)||(a == b&&Op.bytesLess x y))=true↔_;rw [Qw,decide_eq_true_eq,Qd,beq_iff_eq]
theorem zuv:∀(s:Tx) (l:List Tx),zw1 s l=l.takeWhile (fun x=>Op.bytesLess x s)++s ::l.dropWhile (fun x=>Op.bytesLess x s)
 |s,[]=>rfl
 |s,x ::r=>by
  unfold zw1;rw [Jk,Jn];by_cases h:s≤x
  ·rw [if_pos h];have:¬(Op.bytesLess x s=true):=fun h2=>absurd ((ztp x s).1 h2) (List.not_lt.2 h);rw [if_neg this,if_neg this];rfl
  ·rw [if_neg h];have:Op.bytesLess x s=true:=(ztp x s).2 (List.not_le.1 h);rw [if_pos this,if_pos this,zuv s r];rfl
theorem zm3{s:Tx}{l:List Tx}(hl:l.length≤1000):∀(r pre:List Tx),l=pre++r→zr (fun z=>zeJ l s z) (pre.length:Int)=some (.inl ((pre.length+(r.takeWhile (fun x=>Op.bytesLess x s)).length:Nat):Int))
 | [],pre,e=>by
  rw [Qz] at e;rw [zR];show (zeJ l s (pre.length:Int)).bind _=_;unfold zeJ;rw [←e,zfM];rfl
 |x ::r,pre,e=>by
  have hlen:l.length=pre.length+(r.length+1):=by rw [e];simp
  have hx:l[pre.length]?=some x:=by rw [e];simp
  rw [zR];show (zeJ l s (pre.length:Int)).bind _=_;unfold zeJ;rw [ze8 hx,zw,hx,Jk,zU (by omega)]
  cases hb:Op.bytesLess x s with
  |false=>simp [hb]
  |true =>
   simp only [cond_true,Qa,hb,if_true];show zr (fun z=>zeJ l s z) ((pre.length+1:Nat):Int)=_;have:=zm3 (s:=s) hl r (pre++[x]) (by rw [e];simp);rw [show (pre++[x]).length=pre.length+1 by simp] at this;rw [this,Qx];congr 2;omega
theorem zAZ{α:Type}(p:α→Bool):∀(l:List α),l.take (l.takeWhile p).length=l.takeWhile p∧l.drop (l.takeWhile p).length=l.dropWhile p∧(l.takeWhile p).length≤l.length
 | []=>by simp
 |x ::r=>by
  rw [Jk,Jn]
  cases p x with
  |false=>simp
  |true =>
   obtain ⟨h1,h2,h3⟩:=zAZ p r;simp [h1,h2,h3]
theorem ztO{s:Tx}{l:List Tx}(hl:l.length≤900):zoQ l s=some (zw1 s l):=by
 unfold zoQ;obtain ⟨h1,h2,h3⟩:=zAZ (fun x=>Op.bytesLess x s) l;rw [show zr (fun z=>zeJ l s z) 0=_ from zm3 (by omega) l [] rfl];simp only [Qa,zQ,Q5,QZ];unfold zn8;rw [zpN h3,h1];simp only [Qa];rw [zbi (w:=16) (l:=[]) (by simp;omega) (by simp;omega)];simp only [Qa,Jx];rw [zih h3,h2];simp only [Qa];rw [zbi (w:=16) (x:=[s]) (by simp;omega) (by simp;omega)];simp only [Qa]
 have h4:(l.dropWhile (fun x=>Op.bytesLess x s)).length≤l.length:=by rw [←h2,List.length_drop];omega
 rw [zbi (w:=16) (by simp;omega) (by simp;omega),zuv];simp
theorem zol:∀{l:List Tx} (a:Tx),l.Nodup→l.count a=if a∈l then 1 else 0
 | [],a,_=>by simp
 |x ::r,a,h=>by
  rw [Ji] at h;rw [Yr,zol a h.2];by_cases e:x=a
  ·subst e;simp [h.1]
  ·have:a≠x:=fun e2=>e e2.symm;simp [e,this]
theorem zyn{a b:List Tx}(ha:a.Nodup)(hb:b.Nodup)(h:∀x,x∈a↔x∈b):a.Perm b:=by
 rw [List.perm_iff_count];intro x;rw [zol x ha,zol x hb];by_cases hx:x∈a
 ·rw [if_pos hx,if_pos ((h x).1 hx)]
 ·rw [if_neg hx,if_neg (fun hb=>hx ((h x).2 hb))]
theorem zAJ{a b:List Tx}(ha:a.Pairwise (·≤·))(hb:b.Pairwise (·≤·))(h:a.Perm b):a=b:=
 Ye (fun a b _ _ h1 h2=>List.le_antisymm h1 h2) ha hb h
theorem zul{nx:Tx→List Tx}:∀(d i:Nat) (zal:List Tx),zal.Nodup→(bfs nx d i zal).Nodup
 | 0,i,zal,h=>h
 |d+1,i,zal,h=>by
  unfold bfs
  cases zal[i]? with
  |none=>exact h
  |some x =>
   refine zul d (i+1) _ ?_;obtain ⟨t,k1,k2,k3,k4⟩:=zjJ (nx x) zal;rw [k1];exact List.nodup_append.2 ⟨h,k2,fun a ha b hb e=>(k3 b hb).1 (by rw [←e];exact ha)⟩
theorem zq4{R:Type}{I:List Tx→Prop}{nx:Tx→List Tx}{p:Tx→Bool}{body:List Tx×List Tx×Int→Option (Sum (List Tx×List Tx×Int) (Sum (List Tx) R))}
  (hb:∀(i:Nat) acc zal x,I zal→acc.length≤i→zal[i]?=some x→body (acc,zal,(i:Int))=some (.inl (cond (p x) (acc++[x]) acc,push zal (nx x),((i+1:Nat):Int))))
  (he:∀(i:Nat) acc zal,I zal→zal.length≤i→body (acc,zal,(i:Int))=some (.inr (.inl acc)))
  (hp:∀zal x,I zal→x∈zal→I (push zal (nx x))):∀(d i:Nat) (acc zal:List Tx),I zal→acc.length≤i→fin nx d i zal=true →
  zr body (acc,zal,(i:Int))=some (.inl (acc++((bfs nx d i zal).drop i).filter p))
 | 0,i,acc,zal,hI,ha,hf=>by
  have hl:zal.length≤i:=of_decide_eq_true hf;rw [zR,he i acc zal hI hl];show some (Sum.inl acc:Sum (List Tx) R)=some (Sum.inl (acc++((zal.drop i).filter p)));rw [Ju hl];simp
 |d+1,i,acc,zal,hI,ha,hf=>by
  unfold fin at hf;unfold bfs
  cases hi:zal[i]? with
  |none =>
   have hl:zal.length≤i:=JF.1 hi;rw [zR,he i acc zal hI hl];show some (Sum.inl acc:Sum (List Tx) R)=some (Sum.inl (acc++((zal.drop i).filter p)));rw [Ju hl];simp
  |some x =>
   rw [hi] at hf;obtain ⟨t,ht⟩:=zo5 (nx:=nx) d (i+1) (push zal (nx x));obtain ⟨u,hu,_⟩:=zjJ (nx x) zal
   have hx:(bfs nx d (i+1) (push zal (nx x)))[i]?=some x:=by
    rw [ht,hu,QX,Qm (Qb.1 hi).1,hi]
   obtain ⟨hlt,hge⟩:=Qb.1 hx;have ih:=fun a ha=>zq4 hb he hp d (i+1) a _ (hp _ _ hI (Qc hi)) ha hf;rw [zR,hb i acc zal x hI ha hi];show zr body (cond (p x) (acc++[x]) acc,push zal (nx x),((i+1:Nat):Int))=some (.inl (acc++((bfs nx d (i+1) (push zal (nx x))).drop i).filter p));rw [ih _ (by cases p x <;> simp <;> omega),JD hlt,hge]
   cases hpx:p x with
   |true=>rw [Yi hpx];simp
   |false=>rw [Yh (by rw [hpx];exact Q7)];rfl
def zmp(L:List za)(n:Tx):List Tx:=bfs (nxI L) 100 0 (zea L n)
def zfs(L:List za)(n:Tx):List Tx:=zqk ((zmp L n).filter (isF L))
section
variable {l L : List za} {m : List (Tx × Int)}
theorem zxx(h:zct l L)(n:Tx):fin (nxI L) 100 0 (zea L n)=true:=
 zzv (U:=List.map (fun c:za=>c.Name) L) (s0:=zea L n) h.nxI_in _ _ _ .start (by have:=zfI h n;have:=h.len;simp;omega)
theorem zxy(h:zct l L)(n:Tx):Inv (List.map (fun c:za=>c.Name) L) (zea L n) (zmp L n):=zy7 h.nxI_in _ _ _ .start
theorem zxz(h:zct l L)(n:Tx):(zmp L n).length≤52:=by
 have h1:=(zxy h n).len;have h2:=zfI h n;have h3:=h.len;simp only [QQ] at h1;omega
theorem ztW(h:zct l L){n x:Tx}(hx:x∈zmp L n):zeb L x=true:=zj2.2 ((zxy h n).mem (fun y hy=>zwp h hy) x hx)
theorem zz9{n:Tx}{c:za}(hc:cl L n=some c):nxI L n=c.Impl:=by unfold nxI;rw [hc]
theorem zxZ{R:Type}{body:List Tx×Int→Option (Sum (List Tx×Int) (Sum (List Tx) R))}{l:List Tx}(hl:l.length≤100)
  (hb:∀(i:Nat) x zal,zal.length≤1000→l[i]?=some x→body (zal,(i:Int))=some (.inl (cond (!(zal.any fun y=>x == y)) (zal++[x]) zal,IntKind.i64.wrap ((i:Int)+1))))
  (he:∀zal,body (zal,(l.length:Int))=some (.inr (.inl zal))) (zal:List Tx) (hs:zal.length≤800):zr body (zal,0)=some (.inl (push zal l)):=by
 have:=zrv (p:=fun _=>true) hl (fun i x s h hx=>by rw [hb i x s h hx];rfl) he l [] zal rfl (by omega);rw [List.filter_eq_self.2 (fun _ _=>rfl)] at this;exact this
theorem zq0(h:zct l L)(hm:zaW L m)(n:Tx):zec L m n=some (zfs L n):=by
 unfold zec zbz;rw [hm.has]
 cases hn:zeb L n with
 |false =>
  unfold zfs zmp;rw [zlj hn];rfl
 |true =>
  rw [zis h hm];simp only [Qp,cond_false,Qa];have h26:=h.len;have hs26:=zfI h n
  have hl:=zq4 (R:=List Tx) (I:=fun s=>Inv (List.map (fun c:za=>c.Name) L) (zea L n) s) (nx:=nxI L) (p:=isF L) (body:=fun z=>zbL L m z.1 z.2.1 z.2.2)
   (fun i acc zal x hI ha hx=>by
    have hsl:=hI.len;simp only [QQ] at hsl;have hxm:zeb L x=true:=zj2.2 (hI.mem (fun y hy=>zwp h hy) x (Qc hx));obtain ⟨c,hc⟩:=zgX hxm;have h4:=(h.okc c (zbK hc).1).impl;have hilt:=(Qb.1 hx).1
    have hp:∀acc',zdT zal (i:Int) c acc'=some (.inl (acc',push zal c.Impl,((i+1:Nat):Int))):=fun acc'=>by
     unfold zdT
     rw [zxZ (l:=c.Impl) (by omega) (fun j y s hs hy=>by
      show zdU c s (j:Int)=_;unfold zdU zft;rw [ze8 hy,zw,hy];simp only [cond_true,Qa];rw [zqC hs,zbi (w:=16) (l:=s) (x:=[y]) (by simp;omega) (by simp;omega)]
      cases (s.any fun z=>y == z) <;> rfl) (fun s=>by
      show zdU c s (c.Impl.length:Int)=_;unfold zdU
      rw [zfM];rfl) zal (by omega)]
     simp only [Qa,zQ];unfold ziw;rw [zU (by omega)]
    show zbL L m acc zal (i:Int)=_;unfold zbL;rw [ze8 hx,zw,hx];simp only [cond_true,Qa];rw [zsv hm hxm,hc];simp only [Qa];rw [hp,zbi (w:=16) (l:=acc) (x:=[c.Name]) (by simp;omega) (by simp;omega)];simp only [Qa];rw [hp,zz9 hc,(zbK hc).2]
    have e:isF L x=c.Interface:=by unfold isF;rw [hc]
    rw [e]
    cases c.Interface <;> rfl)
   (fun i acc zal hI hle=>by
    show zbL L m acc zal (i:Int)=_;unfold zbL
    rw [decide_eq_false (by omega)];rfl)
   (fun zal y hI hy=>hI.push (h.nxI_in y)) 100 0 [] (zea L n) .start (by simp) (zxx h n)
  rw [show zr (fun z=>zbL L m z.1 z.2.1 z.2.2) ([],zea L n,0)=_ from hl];simp only [Qa,zQ,J3,Jx];unfold zix zyz;have h1:((bfs (nxI L) 100 0 (zea L n)).filter (isF L)).length≤52:=QI (JQ _ _) (zxz h n);rw [if_pos (by omega)];rfl
theorem zur(n:Tx):(zfs L n).Pairwise (·≤·):=zlF _
theorem zuq{n x:Tx}:x∈zfs L n↔x∈zmp L n∧isF L x=true:=by
 unfold zfs;rw [(zhU _).mem_iff,Jw]
theorem zyH(h:zct l L)(n:Tx):(zmp L n).Nodup:=zul _ _ _ (zvf h _ n)
theorem ztX{n x:Tx}(hx:x∈zea L n):x∈zmp L n:=by
 obtain ⟨t,e⟩:=zo5 (nx:=nxI L) 100 0 (zea L n);unfold zmp;rw [e];exact Ja _ hx
theorem zrI(h:zct l L){n x y:Tx}(hx:x∈zmp L n)(hy:y∈nxI L x):y∈zmp L n:=
 zpM 100 0 _ (zxx h n) (fun j x hj=>by omega) x hx y hy
end
theorem znx{l:List Tx}(hl:l.length≤1000)(n:Tx):znv l n=some (l.any fun y=>y == n):=by
 unfold znv
 rw [show zr (fun z=>ziR l n z) 0=some (zqf () (cond (l.any fun y=>y == n) (some true) none)) from by
  rw [←zcK];refine zeq (fun i x hx=>?_) ?_
  ·show ziR l n (i:Int)=_;have hi:=(Qb.1 hx).1;unfold ziR;rw [ze8 hx,zw,hx,zU (by omega)];simp only [cond_true,Qa];cases x == n <;> rfl
  ·show ziR l n (l.length:Int)=_;unfold ziR
   rw [zfM];rfl]
 cases (l.any fun y=>y == n) <;> rfl
section
variable {l L : List za}
def zBt(L:List za)(n:Tx)(k:Nat):Bool:=match L[k]? with |some c=>(zea L n).any (fun y=>y == c.Name) |none=>false
theorem zvE(h:zct l L){c:za}(hc:c∈L){inn:List Bool}(hi:inn.length=L.length)(more:Bool):
  zr (fun z=>zdE L c z.1 z.2.1 z.2.2) (inn,more,0)=some (.inl (mkS L inn c.Impl,more||c.Impl.any (zsc L inn))):=by
 have h26:=h.len;have h4:=(h.okc c hc).impl;refine zsE (l:=c.Impl) (by omega) (fun j s inn more hi hs=>?_) (fun inn more=>?_) c.Impl [] inn more rfl hi
 ·show zdE L c inn more (j:Int)=_;have hsm:=Qc hs;have hh:zeb L s=true:=h.closed c hc s (Jh _ hsm) ((h.okc c hc).implE s hsm);unfold zdE zhZ;rw [ze8 hs,zw,hs];simp only [cond_true,Qa];rw [zo4 (by omega)];simp only [Qa];unfold mk1 zsc;obtain ⟨g1,g2⟩:=zy5 hh
  have e:idx inn (atN L s)=some (onB inn (atN L s).toNat):=by
   unfold idx onB;rw [if_pos g1,Ql,Qe (by omega)];rfl
  rw [e,hh];simp only [Qa,QD];cases onB inn (atN L s).toNat <;> simp
 ·show zdE L c inn more (c.Impl.length:Int)=_;unfold zdE;rw [zfM];rfl
theorem zxY(h:zct l L)(n:Tx){inn:List Bool}(hi:inn.length=L.length)(more:Bool):
  zr (fun z=>zdF L (zea L n) z.1 z.2.1 z.2.2) (inn,more,0)=some (.inl (zld L (·.Impl) (zBt L n) inn 0 L,more||zpr L (·.Impl) (zBt L n) inn 0 L)):=by
 have h26:=h.len;have hs26:=zfI h n;refine zuX (st:=fun a b c=>(a,b,c)) (nx:=(·.Impl)) (act:=zBt L n) (by omega) (fun k c inn more hi hc=>?_) (fun inn more=>?_) L [] inn more rfl hi
 ·show zdF L (zea L n) inn more (k:Int)=_;have hk:=(Qb.1 hc).1
  have e:zBt L n k=(zea L n).any (fun y=>y == c.Name):=by unfold zBt;rw [hc]
  unfold zdF;rw [ze8 hc,zDn (by omega),zw,hc];simp only [cond_true,Qa];rw [znx (by omega),zvE h (Qc hc) hi,e];unfold zkb zh0;rw [zU (by omega)];cases onB inn k <;> cases ((zea L n).any (fun y=>y == c.Name)) <;> rfl
 ·show zdF L (zea L n) inn more (L.length:Int)=_;unfold zdF;rw [zfM];rfl
def zj9(F:List Bool):Nat→List za→List Tx
 |_,[]=>[]
 |k,c ::r=>cond (onB F k) (c.Name ::zj9 F (k+1) r) (zj9 F (k+1) r)
theorem zoG{F:List Bool}:∀(r:List za) (k:Nat) (x:Tx),x∈zj9 F k r↔∃(j:Nat) (c:za),r[j]?=some c∧onB F (k+j)=true∧c.Name=x
 | [],k,x=>by
  constructor
  ·intro h;cases h
  ·rintro ⟨j,c,h,_⟩;simp at h
 |c ::r,k,x=>by
  have ih:=zoG (F:=F) r (k+1) x
  have back:(∃(j:Nat) (d:za),r[j]?=some d∧onB F (k+1+j)=true∧d.Name=x)↔∃(j:Nat) (d:za),0<j∧(c ::r)[j]?=some d∧onB F (k+j)=true∧d.Name=x:=by
   constructor
   ·rintro ⟨j,d,h1,h2,h3⟩;exact ⟨j+1,d,by omega,by simpa using h1,by rw [show k+(j+1)=k+1+j by omega];exact h2,h3⟩
   ·rintro ⟨j,d,h0,h1,h2,h3⟩
    cases j with
    |zero=>omega
    |succ j=>exact ⟨j,d,by simpa using h1,by rw [show k+1+j=k+(j+1) by omega];exact h2,h3⟩
  unfold zj9
  cases hb:onB F k with
  |true =>
   rw [cond_true,Qr,ih,back];constructor
   ·rintro (e |⟨j,d,_,h1⟩)
    ·exact ⟨0,c,rfl,hb,e.symm⟩
    ·exact ⟨j,d,h1⟩
   ·rintro ⟨j,d,h1,h2,h3⟩
    cases j with
    |zero=>left;have e:c=d:=(by simpa using h1);rw [e];exact h3.symm
    |succ j=>exact .inr ⟨j+1,d,by omega,h1,h2,h3⟩
  |false =>
   rw [cond_false,ih,back];constructor
   ·rintro ⟨j,d,_,h1⟩;exact ⟨j,d,h1⟩
   ·rintro ⟨j,d,h1,h2,h3⟩
    cases j with
    |zero=>rw [Jf,hb] at h2;cases h2
    |succ j=>exact ⟨j+1,d,by omega,h1,h2,h3⟩
theorem zpo{F:List Bool}:∀(r pre:List za),Nd (pre++r)→(zj9 F pre.length r).Nodup
 | [],pre,h=>by simp [zj9]
 |c ::r,pre,h=>by
  have ih:=zpo (F:=F) r (pre++[c]) (by simpa using h);rw [show (pre++[c]).length=pre.length+1 by simp] at ih;unfold zj9
  cases onB F pre.length with
  |false=>exact ih
  |true =>
   refine Ji.2 ⟨fun hm=>?_,ih⟩;obtain ⟨j,d,h1,_,h3⟩:=(zoG r _ _).1 hm;have:=h pre.length (pre.length+(j+1)) c d (by simp) (by rw [Qn (by omega),show pre.length+(j+1)-pre.length=j+1 by omega];simpa using h1) h3.symm;omega
def zsO(acc:List Tx):List Tx→List Tx
 | []=>acc
 |x ::r=>zsO (zw1 x acc) r
theorem zrD:∀(r acc:List Tx),(zsO acc r).Perm (acc++r)
 | [],acc=>by simp [zsO]
 |x ::r,acc=>(zrD r (zw1 x acc)).trans (by
  refine ((zmK x acc).append_right r).trans ?_
  exact (List.perm_middle (l₁:=acc) (l₂:=r) (a:=x)).symm)
theorem zpz:∀(r acc:List Tx),acc.Pairwise (·≤·)→(zsO acc r).Pairwise (·≤·)
 | [],acc,h=>h
 |x ::r,acc,h=>zpz r _ (zot x h)
theorem zB0(x:Tx)(l:List Tx):(zw1 x l).length=l.length+1:=by rw [(zmK x l).length_eq];rfl
theorem zqe{F:List Bool}(hl:L.length≤100)(hF:F.length=L.length):∀(r pre:List za) (acc:List Tx),L=pre++r→acc.length≤pre.length →
  zr (fun z=>zbB L F z.1 z.2) (acc,(pre.length:Int))=some (.inl (zsO acc (zj9 F pre.length r)))
 | [],pre,acc,e,ha=>by
  rw [Qz] at e;rw [zR];show (zbB L F acc (pre.length:Int)).bind _=_;unfold zbB;rw [←e,zfM];rfl
 |c ::r,pre,acc,e,ha=>by
  have hlen:L.length=pre.length+(r.length+1):=by rw [e];simp
  have hx:L[pre.length]?=some c:=by rw [e];simp
  have ih:=fun a ha=>zqe hl hF r (pre++[c]) a (by rw [e];simp) ha;rw [show (pre++[c]).length=pre.length+1 by simp] at ih;rw [zR];show (zbB L F acc (pre.length:Int)).bind _=_;unfold zbB;rw [ze8 hx,zDn (by omega),zw,hx];simp only [cond_true,Qa];rw [ztO (by omega)];unfold zh1 zj9;rw [zU (by omega)]
  cases onB F pre.length with
  |false =>
   show zr (fun z=>zbB L F z.1 z.2) (acc,((pre.length+1:Nat):Int))=_;exact ih acc (by omega)
  |true =>
   show zr (fun z=>zbB L F z.1 z.2) (zw1 c.Name acc,((pre.length+1:Nat):Int))=_;exact ih _ (by rw [zB0];omega)
theorem zwC(h:zct l L){s:Tx}(hh:zeb L s=true):∃d,L[(atN L s).toNat]?=some d∧d.Name=s:=by
 obtain ⟨d,hd⟩:=zgX hh;have e:=zqj L s;rw [hd] at e;obtain ⟨g1,g2⟩:=zy5 hh;refine ⟨d,?_,(zbK hd).2⟩;unfold idx at e;rw [if_pos g1] at e;exact e
theorem zwR(h:zct l L){n:Tx}(hn:zeb L n=true){inn:List Bool}(hi:inn.length=L.length)
  (h0:∀k,onB inn k=true↔(isF L n=true∧k=(atN L n).toNat)):zgZ L n inn=some (zfs L n):=by
 have h26:=h.len
 let Q:Nat→Prop:=fun k=>∃c,L[k]?=some c∧c.Name∈zmp L n∧c.Interface=true
 have isF_of:∀{k:Nat} {c:za},L[k]?=some c→isF L c.Name=c.Interface:=fun {k c} hk=>by
  unfold isF;rw [h.nd.cl (Qc hk)]
 have hq0:∀k,onB inn k=true→Q k:=fun k hk=>by
  obtain ⟨h1,h2⟩:=(h0 k).1 hk;obtain ⟨d,hd,hd2⟩:=zwC h hn;refine ⟨d,by rw [h2];exact hd,by rw [hd2];exact ztX (zAT hn),?_⟩;rw [←isF_of hd,hd2];exact h1
 have hQ:∀(j:Nat) c,L[j]?=some c→(Q j∨zBt L n j=true)→∀s∈c.Impl,zeb L s=true→Q (atN L s).toNat:=fun j c hj hor s hs hh=>by
  have hcT:c.Name∈zmp L n:=by
   rcases hor with ⟨c',hc',hm,_⟩ |ha
   ·rw [hj] at hc';cases hc';exact hm
   ·unfold zBt at ha;rw [hj] at ha;have ha:(zea L n).any (fun y=>y == c.Name)=true:=ha;rw [QJ] at ha;obtain ⟨y,hy,e⟩:=ha;rw [←eq_of_beq e];exact ztX hy
  obtain ⟨d,hd,hd2⟩:=zwC h hh;refine ⟨d,hd,?_,?_⟩
  ·rw [hd2];exact zrI h hcT (by rw [zz9 (h.nd.cl (Qc hj))];exact hs)
  ·rw [←isF_of hd,hd2];exact h.implF c (Qc hj) s hs
 obtain ⟨F,k1,k2,k3,k4,k5⟩:=zsG (L:=L) (nx:=(·.Impl)) (act:=zBt L n) (R:=List Tx) (st:=fun a b=>(a,b)) (body:=fun z=>zgy L (zea L n) z.1 z.2) (Q:=Q)
  (fun inn hi=>by
   show zgy L (zea L n) inn true=_;unfold zgy;rw [zxY h n hi false]
   rfl) (fun inn hi=>rfl) hQ L.length inn hi (by omega) hq0
 unfold zgZ;rw [zip h];simp only [Qa];rw [k1];simp only [Qa,zQ];unfold zkc;rw [show zr (fun z=>zbB L F z.1 z.2) ([],0)=_ from zqe (by omega) k2 L [] [] rfl (by simp)];simp only [Qa,zQ];show some (zsO [] (zj9 F 0 L))=_;congr 1;refine zAJ (zpz _ _ (by simp)) (zur n) ((zrD _ _).trans ?_);rw [Jx];refine (zyn (zpo (F:=F) L [] h.nd) ((zyH h n).filter (isF L)) fun x=>?_).trans (zhU _).symm;show x∈zj9 F 0 L↔_;rw [zoG,Jw];constructor
 ·rintro ⟨j,c,h1,h2,h3⟩;rw [QZ] at h2;obtain ⟨c',hc',hm,hI⟩:=k5 j h2;rw [h1] at hc';cases hc';rw [←h3];exact ⟨hm,by rw [isF_of h1];exact hI⟩
 ·rintro ⟨hx,hxF⟩
  have key:∀y∈zmp L n,y∈zmp L n∧(y∈zea L n∨onB F (atN L y).toNat=true):=by
   refine zqR (Q:=fun y=>y∈zmp L n∧(y∈zea L n∨onB F (atN L y).toNat=true)) (fun y hy z hz=>?_) 100 0 _ (fun y hy=>⟨ztX hy,.inl hy⟩);refine ⟨zrI h hy.1 hz,.inr ?_⟩;have hyh:=ztW h hy.1;obtain ⟨d,hd,hd2⟩:=zwC h hyh;have hzh:=ztW h (zrI h hy.1 hz);rw [←hd2,zz9 (h.nd.cl (Qc hd))] at hz;refine k3 _ d hd ?_ z hz hzh;rw [Qw]
   rcases hy.2 with h1 |h1
   ·right;unfold zBt;rw [hd];show (zea L n).any (fun w=>w == d.Name)=true;rw [hd2,QJ];exact ⟨y,h1,beq_self_eq_true _⟩
   ·exact .inl h1
  have hxh:=ztW h hx;obtain ⟨d,hd,hd2⟩:=zwC h hxh;refine ⟨(atN L x).toNat,d,hd,?_,hd2⟩;rw [QZ]
  rcases (key x hx).2 with h1 |h1
  ·rcases (zjt h _ n x h1).2.2 with e |⟨c,hc,e⟩
   ·subst e;exact k4 _ ((h0 _).2 ⟨hxF,rfl⟩)
   ·rw [e,h.superF c hc] at hxF;cases hxF
  ·exact h1
theorem zqo(h:zct l L)(n:Tx):zim L n=some (zfs L n):=by
 have h26:=h.len;unfold zim;rw [show mkP 1 (L.length:Int)=some L.length by unfold mkP;rw [if_pos (by omega),JL],zo4 (by omega)];simp only [Qa];rw [zsr]
 have hrep:(List.replicate L.length false).length=L.length:=by simp
 have hoff:∀n,onB (List.replicate L.length false) n=false:=fun n=>by
  unfold onB;rw [Ql,Yj];split <;> rfl
 cases hn:zeb L n with
 |false =>
  unfold zfs zmp;rw [zlj hn];rfl
 |true =>
  obtain ⟨c,hc⟩:=zgX hn;obtain ⟨g1,g2⟩:=zy5 hn
  have eF:isF L n=c.Interface:=by unfold isF;rw [hc]
  rw [zrb hc];simp only [Qp,cond_false,Qa]
  cases hI:c.Interface with
  |false =>
   simp only [cond_false];refine zwR h hn hrep fun k=>?_;rw [hoff,eF,hI];simp
  |true =>
   have e:idx (List.replicate L.length false) (atN L n)=some false:=by
    unfold idx;rw [if_pos g1,Yj,if_pos g2]
   rw [e];simp only [cond_true,Qa];refine zwR h hn (by simp) fun k=>?_;rw [zDo (by rw [hrep];exact g2),hoff,Jb,eF,hI,Nat.beq_eq];simp
end
def brk:Tx→Bool
 | []=>false
 |x :: _=>x == 91
def ess(s:Tx):Tx:=zgB (zgB s)
theorem znz{s:Tx}(h:brk s=false):zgB s=s:=by
 cases s with
 |nil=>rfl
 |cons x r =>
  rw [zhv,if_neg];intro e;subst e;cases h
theorem zkM{s:Tx}(h:brk s=true):zgB s=s.drop 1∧s=91 ::s.drop 1:=by
 cases s with
 |nil=>cases h
 |cons x r =>
  have:x=91:=by simpa [brk] using h
  subst this;exact ⟨rfl,rfl⟩
theorem zjM{s:Tx}(h:zcT s=true):brk s=false:=by
 cases s with
 |nil=>rfl
 |cons x r =>
  cases hb:(x == 91) with
  |false=>exact hb
  |true =>
   have:x=91:=by simpa using hb
   subst this;unfold zcT at h;rw [Qd] at h;have h2:zeW 91=true:=h.2;exact absurd h2 (by decide +kernel)
theorem zBE{s:Tx}(h:zcT s=true):(s == [73])=false:=by
 cases hb:(s == [73]) with
 |false=>rfl
 |true =>
  have:s=[73]:=by simpa using hb
  subst this;unfold zcT at h;simp at h
theorem zjN{s:Tx}(h:zcT s=true):zgm s=true:=by
 unfold zgm;rw [znz (zjM h),znz (zjM h),h,Jv]
theorem zD0{s:Tx}(h:zgm s=true):brk (ess s)=false:=by
 unfold zgm at h;rw [Qw] at h
 rcases h with h |h
 ·unfold ess;rw [eq_of_beq h];rfl
 ·exact zjM h
theorem zqH{s:Tx}(h:zgm s=true)(hb:brk s=true):zgm (s.drop 1)=true∧ess (s.drop 1)=ess s:=by
 obtain ⟨h1,h2⟩:=zkM hb;have h3:=zD0 h
 have e:zgB (zgB (s.drop 1))=zgB (zgB s):=by
  rw [h1];exact znz (show brk (zgB (s.drop 1))=false from by rw [←h1];exact h3)
 exact ⟨by unfold zgm at h ⊢;rw [e];exact h,e⟩
theorem zpO{s:Tx}(hb:brk s=false):ess s=s:=by unfold ess;rw [znz hb,znz hb]
theorem zzD:giv.all (fun c=>zcT c.Name)=true:=by decide +kernel
def zxu(L:List za)(t:Tx):Bool:=(ess t == [73])||zeb L (ess t)
def thN(L:List za)(t:Tx):Bool:=zgm t&&zxu L t
section
variable {l L : List za} {m : List (Tx × Int)}
theorem zlc(h:zct l L){n:Tx}(hn:zeb L n=true):zcT n=true:=by
 obtain ⟨c,hc⟩:=zgX hn;obtain ⟨h1,h2⟩:=zbK hc;rw [←h2];rw [h.app] at h1
 rcases Qu.1 h1 with e |e
 ·exact Qs.1 zzD c e
 ·have:=h.may c e;unfold zuK at this;simp only [Qd] at this;exact this.2.1.1.1.1
def zfg(s:Tx):Tx×Bool:=cond (zgm s&&brk s) (s.drop 1,true) ([],false)
theorem zgp{s:Tx}(h:Len s):zgG s=some (zfg s):=by
 unfold zgG zfg;rw [zhV h]
 cases hm:zgm s with
 |false=>rfl
 |true =>
  cases s with
  |nil =>
   exfalso;unfold zgm at hm;rw [show zgB (zgB [])=[] from rfl] at hm;simp at hm;exact zk0 hm rfl
  |cons x r =>
   simp only [Qa,Qp,cond_false,QD];rw [zkF]
   have e:((x.toNat:Int) == (91:Int))=(x == 91):=by
    rw [Jd,beq_iff_eq,beq_iff_eq];constructor
    ·intro h;exact JZ.1 (by simpa using (Int.ofNat_inj.1 h))
    ·intro h;rw [h];rfl
   simp only [Q9,Qa,e];rw [show (1:Int)=((1:Nat):Int) from rfl,zih (by simp)];show cond (!(x == 91)) _ _=some (cond (x == 91) _ _);cases x == 91 <;> rfl
theorem zsR{s:Tx}:∀(d:Nat) (t:Tx),t.length≤d→Len t→zr (fun z=>zdW z.1 z.2.1 z.2.2) (t,(zfg t).1,(zfg t).2)=some (.inl (cond (zgm t) (ess t) t))
 |d,t,hd,hl=>by
  rw [zR];show (zdW t (zfg t).1 (zfg t).2).bind _=_;unfold zdW
  cases hm:zgm t with
  |false =>
   have:zfg t=([],false):=by unfold zfg;rw [hm];rfl
   rw [this];rfl
  |true =>
   cases hb:brk t with
   |false =>
    have:zfg t=([],false):=by unfold zfg;rw [hm,hb];rfl
    rw [this,zpO hb];rfl
   |true =>
    have:zfg t=(t.drop 1,true):=by unfold zfg;rw [hm,hb];rfl
    obtain ⟨k1,k2⟩:=zqH hm hb
    have hlen:(t.drop 1).length=t.length-1:=by simp
    have hpos:0<t.length:=by rw [(zkM hb).2];simp
    have hl2:Len (t.drop 1):=by unfold Len at *;omega
    rw [this];show ((zgG (t.drop 1)).bind _).bind _=_;rw [zgp hl2];show zr (fun z=>zdW z.1 z.2.1 z.2.2) (t.drop 1,(zfg (t.drop 1)).1,(zfg (t.drop 1)).2)=_
    cases d with
    |zero=>omega
    |succ d =>
     rw [zsR (s:=s) d (t.drop 1) (by omega) hl2,k1,k2];rfl
theorem zxv(h:zct l L)(hm:zaW L m){t:Tx}(hl:Len t):zfu L m t=some (thN L t):=by
 unfold zfu;rw [zgp hl];simp only [Qa];rw [zsR (s:=t) t.length t (Qg _) hl];simp only [Qa,zQ];unfold zjb zbz;rw [hm.has];unfold thN zxu
 cases hmay:zgm t with
 |true=>rfl
 |false =>
  simp only [cond_false,JB];congr 1;rw [Qo];constructor
  ·cases hI:(t == [73]) with
   |false=>rfl
   |true =>
    have:t=[73]:=by simpa using hI
    rw [this] at hmay;exact absurd hmay (by decide +kernel)
  ·cases hh:zeb L t with
   |false=>rfl
   |true=>rw [zjN (zlc h hh)] at hmay;cases hmay
theorem zuk:∀(t:Tx) (k:Nat),t.length+k≤1000→zr (fun z=>zh9 z.1 z.2) (t,(k:Int))=some (.inl (t.dropWhile (· == 91),((k+(t.takeWhile (· == 91)).length:Nat):Int)))
 | [],k,hk=>by
  rw [zR];rfl
 |x ::r,k,hk=>by
  simp only [Qx] at hk;rw [zR];show (zh9 (x ::r) (k:Int)).bind _=_;unfold zh9
  have e:((x.toNat:Int) == (91:Int))=(x == 91):=by
   rw [Jd,beq_iff_eq,beq_iff_eq];constructor
   ·intro h;exact JZ.1 (by simpa using (Int.ofNat_inj.1 h))
   ·intro h;rw [h];rfl
  rw [decide_eq_true (show (0:Int)<((x ::r).length:Int) by simp only [Qx];omega),zkF];simp only [cond_true,Q9,Qa,e];rw [show (1:Int)=((1:Nat):Int) from rfl,zih (by simp),Jn,Jk]
  cases hx:(x == 91) with
  |false=>simp
  |true =>
   simp only [cond_true,Qa,if_true,List.drop_one,List.tail_cons];rw [show ((1:Nat):Int)=1 from rfl,zU (by omega)];show zr (fun z=>zh9 z.1 z.2) (r,((k+1:Nat):Int))=_;rw [zuk r (k+1) (by omega)];simp only [Qx];congr 3;omega
theorem zDL{t:Tx}(h:t.length≤900):zlg t=some (t.dropWhile (· == 91),((t.takeWhile (· == 91)).length:Int)):=by
 unfold zlg;rw [show zr (fun z=>zh9 z.1 z.2) (t,0)=_ from zuk t 0 (by omega)];simp only [Qa,zQ,QZ];rfl
theorem zwN{t:Tx}(h:brk t=false):t.dropWhile (· == 91)=t∧t.takeWhile (· == 91)=[]:=by
 cases t with
 |nil=>exact ⟨rfl,rfl⟩
 |cons x r =>
  have:(x == 91)=false:=h;simp [Jn,Jk,this]
theorem zwL{t:Tx}(h:brk t=true):t.dropWhile (· == 91)=(t.drop 1).dropWhile (· == 91)∧(t.takeWhile (· == 91)).length=((t.drop 1).takeWhile (· == 91)).length+1:=by
 cases t with
 |nil=>cases h
 |cons x r =>
  have:(x == 91)=true:=h;simp [Jn,Jk,this]
theorem zwM:∀(d:Nat) (t:Tx),t.length≤d→zgm t=true→t.dropWhile (· == 91)=ess t
 |d,t,hd,hm=>by
  cases hb:brk t with
  |false=>rw [(zwN hb).1,zpO hb]
  |true =>
   obtain ⟨k1,k2⟩:=zqH hm hb
   have hlen:(t.drop 1).length=t.length-1:=by simp
   have hpos:0<t.length:=by rw [(zkM hb).2];simp
   cases d with
   |zero=>omega
   |succ d=>rw [(zwL hb).1,zwM d (t.drop 1) (by omega) k1,k2]
theorem zs3{t:Tx}(h:t.length≤900)(hm:zgm t=true):∃k:Nat,zlg t=some (ess t,(k:Int))∧(((k:Int) == 0)=!brk t):=by
 refine ⟨_,by rw [zDL h,zwM _ t (Qg _) hm],?_⟩
 cases hb:brk t with
 |false=>rw [(zwN hb).2];rfl
 |true=>rw [(zwL hb).2];exact beq_eq_false_iff_ne.2 (by omega)
theorem zeK(h:zct l L){t:Tx}(hl:t.length≤900):zY L t=some (thN L t):=by
 have h26:=h.len;unfold zY;rw [zoI (by unfold Len;omega)];unfold thN
 cases hm:zgm t with
 |false=>rfl
 |true =>
  obtain ⟨k,hk,_⟩:=zs3 hl hm;rw [hk];simp only [Qa,Qp,cond_false];rw [zo4 (by omega)];simp only [Qa];rw [zuj];unfold zxu;cases (ess t == [73]) <;> rfl
end
def zwn(L:List za):Tx→Tx→Bool
 | [],b=>thN L []&&(thN L b&&(([]:Tx) == b))
 |x ::r,b=>thN L (x ::r)&&(thN L b&&(((x ::r) == b)||cond (x == 91) (cond (brk b) ((!(r == [73]))&&((!(b.drop 1 == [73]))&&zwn L r (b.drop 1))) (b == zyM)) ((zea L (x ::r)).any (fun y=>b == y)||(zfs L (x ::r)).any (fun y=>b == y))))
theorem zwo(L:List za)(a b:Tx):zwn L a b=(thN L a&&(thN L b&&((a == b)||cond (brk a) (cond (brk b) ((!(a.drop 1 == [73]))&&((!(b.drop 1 == [73]))&&zwn L (a.drop 1) (b.drop 1))) (b == zyM)) ((zea L a).any (fun y=>b == y)||(zfs L a).any (fun y=>b == y))))):=by
 cases a with
 |nil =>
  have:thN L []=false:=by
   unfold thN
   have:zgm []=false:=by
    cases h:zgm [] with
    |false=>rfl
    |true =>
     unfold zgm at h;rw [show zgB (zgB [])=[] from rfl] at h;simp at h;exact absurd rfl (zk0 h)
   rw [this];rfl
  rw [this];show (thN L []&&_)=_;rw [this];rfl
 |cons x r=>rfl
section
variable {l L : List za} {m : List (Tx × Int)}
theorem zqY{l:List Tx}(hl:l.length≤1000)(n:Tx):zK l n=some (l.any fun y=>n == y):=zqC hl n
theorem zmE(h:zct l L)(n:Tx):(zfs L n).length≤52:=by
 unfold zfs;rw [(zhU _).length_eq];exact QI (JQ _ _) (zxz h n)
theorem zA0{t:Tx}(h:thN L t=true):zgm t=true:=by
 unfold thN at h;rw [Qd] at h;exact h.1
theorem zzq{t:Tx}(h:thN L t=true):zfg t=cond (brk t) (t.drop 1,true) ([],false):=by
 unfold zfg;rw [zA0 h,QD]
theorem zCL(h:zct l L)(hm:zaW L m){v0:(List za)×(List (Tx×Int))×Tx×Tx→Option Bool}{a b:Tx}(ha:Len a)(hb:Len b)
  (hv:brk a=true→brk b=true→v0 (L,m,a.drop 1,b.drop 1)=some (zwn L (a.drop 1) (b.drop 1))):zcr v0 L m a b=some (zwn L a b):=by
 have h1:=zfI h a;have h2:=zmE h a;unfold zcr;rw [zxv h hm ha,zxv h hm hb,zwo]
 cases ta:thN L a with
 |false=>rfl
 |true =>
  cases tb:thN L b with
  |false=>rfl
  |true =>
   simp only [Qa,Qp,cond_false,QD];rw [zgp ha,zgp hb,zzq ta,zzq tb];simp only [Qa]
   cases hab:(a == b) with
   |true=>rfl
   |false =>
    cases ba:brk a with
    |true =>
     cases bb:brk b with
     |true =>
      simp only [cond_true,cond_false,JI,Jb];rw [hv ba bb];cases (a.drop 1 == [73]) <;> cases (b.drop 1 == [73]) <;> rfl
     |false=>rfl
    |false =>
     simp only [cond_true,cond_false,JB,Jb];rw [zis h hm,zq0 h hm];simp only [Qa];rw [zqY (by omega),zqY (by omega)];simp only [Qa];cases ((zea L a).any fun y=>b == y) <;> rfl
theorem zDt(h:zct l L)(hm:zaW L m):∀(d k:Nat) (a b:Tx),a.length≤d→d<k→Len a→Len b→zCq (fun v0 z=>zcr v0 z.1 z.2.1 z.2.2.1 z.2.2.2) k (L,m,a,b)=some (zwn L a b)
 |d,0,a,b,hd,hk,ha,hb=>by omega
 |d,k+1,a,b,hd,hk,ha,hb=>by
  show zcr (zCq (fun v0 z=>zcr v0 z.1 z.2.1 z.2.2.1 z.2.2.2) k) L m a b=_;refine zCL h hm ha hb fun b1 b2=>?_
  have hlen:(a.drop 1).length=a.length-1:=by simp
  have hlen2:(b.drop 1).length=b.length-1:=by simp
  have hpos:0<a.length:=by rw [(zkM b1).2];simp
  cases d with
  |zero=>omega
  |succ d=>exact zDt h hm d k _ _ (by omega) (by omega) (by unfold Len at *;omega) (by unfold Len at *;omega)
theorem zp8(h:zct l L)(hm:zaW L m){a b:Tx}(ha:a.length≤25)(hb:Len b):zcB L m a b=some (zwn L a b):=by
 unfold zcB zEz;rw [zDt h hm 25 30 a b ha (by omega) (by unfold Len;omega) hb]
theorem zww(l:List Tx)(n:Tx):(l.any fun y=>y == n)=l.any fun y=>n == y:=by
 congr 1;funext y;exact zGn _ _
theorem zo3{T:List Tx}(h:zct l L)(hT:∀x∈T,zeb L x=true){b:Tx}(hb:zcT b=false):(T.any fun y=>b == y)=false:=by
 rw [Qq];intro y hy e;have:=zlc h (hT y hy);rw [←eq_of_beq e,hb] at this;cases this
theorem zpa(h:zct l L){n x:Tx}(hx:x∈zfs L n):zeb L x=true:=ztW h (zuq.1 hx).1
theorem zvD{n:Tx}(hn:zeb L n=false):zfs L n=[]:=by
 unfold zfs zmp;rw [zlj hn];rfl
theorem znJ{b:Tx}(hb:brk b=true):zcT b=false:=by
 cases h:zcT b with
 |false=>rfl
 |true=>rw [zjM h] at hb;cases hb
theorem zoh:zcT [73]=false:=by
 cases h:zcT [73] with
 |false=>rfl
 |true=>exact absurd (zBE h) (by simp)
theorem zyv(h:zct l L){v0:(List za)×Tx×Tx→Option Bool}{a b:Tx}(ha:a.length≤800)(hb:b.length≤800)
  (hv:brk a=true→brk b=true→v0 (L,a.drop 1,b.drop 1)=some (zwn L (a.drop 1) (b.drop 1))):zef v0 L a b=some (zwn L a b):=by
 unfold zef;rw [zeK h (by omega),zeK h (by omega),zwo]
 cases ta:thN L a with
 |false=>rfl
 |true =>
  cases tb:thN L b with
  |false=>rfl
  |true =>
   simp only [Qa,Qp,cond_false,QD];obtain ⟨k1,e1,f1⟩:=zs3 (t:=a) (by omega) (zA0 ta);obtain ⟨k2,e2,f2⟩:=zs3 (t:=b) (by omega) (zA0 tb);rw [e1,e2];simp only [Qa]
   cases hab:(a == b) with
   |true=>rfl
   |false =>
    rw [f1,f2];simp only [cond_false,Jb]
    cases ba:brk a with
    |true =>
     cases bb:brk b with
     |true =>
      simp only [cond_true,cond_false,Qp,JI,JB];rw [show (1:Int)=((1:Nat):Int) from rfl,zih (by rw [(zkM ba).2];simp),zih (by rw [(zkM bb).2];simp)];simp only [Qa];rw [hv ba bb];cases (a.drop 1 == [73]) <;> cases (b.drop 1 == [73]) <;> rfl
     |false =>
      simp only [cond_true,cond_false,Qp,QB,JB];rw [zpO bb];rfl
    |false =>
     cases bb:brk b with
     |true =>
      simp only [cond_true,cond_false,Qp,QB,J6];rw [zo3 (T:=zea L a) h (fun x hx=>(zjt h _ a x hx).1) (znJ bb),zo3 (T:=zfs L a) h (fun x hx=>zpa h hx) (znJ bb)];rfl
     |false =>
      simp only [cond_true,cond_false,QB,JI];rw [zpO ba,zpO bb];have h1:=zfI h a;have h2:=zmE h a
      cases hI:(a == [73]) with
      |true =>
       have e:a=[73]:=by simpa using hI
       have hn:zeb L a=false:=by
        cases hh:zeb L a with
        |false=>rfl
        |true=>have:=zlc h hh;rw [e,zoh] at this;cases this
       rw [zlj hn,zvD hn];rfl
      |false =>
       cases hI2:(b == [73]) with
       |true =>
        have e:b=[73]:=by simpa using hI2
        have hc:zcT b=false:=by rw [e];exact zoh
        rw [zo3 (T:=zea L a) h (fun x hx=>(zjt h _ a x hx).1) hc,zo3 (T:=zfs L a) h (fun x hx=>zpa h hx) hc];rfl
       |false =>
        simp only [QB,JI,cond_true];rw [zip h,zqo h];simp only [Qa];rw [znx (by omega),znx (by omega),zww,zww];simp only [Qa];cases ((zea L a).any fun y=>b == y) <;> rfl
theorem zxl(h:zct l L):∀(d k:Nat) (a b:Tx),a.length≤d→d<k→a.length≤800→b.length≤800→zCq (fun v0 z=>zef v0 z.1 z.2.1 z.2.2) k (L,a,b)=some (zwn L a b)
 |d,0,a,b,hd,hk,ha,hb=>by omega
 |d,k+1,a,b,hd,hk,ha,hb=>by
  show zef (zCq (fun v0 z=>zef v0 z.1 z.2.1 z.2.2) k) L a b=_;refine zyv h ha hb fun b1 b2=>?_
  have hlen:(a.drop 1).length=a.length-1:=by simp
  have hlen2:(b.drop 1).length=b.length-1:=by simp
  have hpos:0<a.length:=by rw [(zkM b1).2];simp
  cases d with
  |zero=>omega
  |succ d=>exact zxl h d k _ _ (by omega) (by omega) (by omega) (by omega)
theorem zsK(h:zct l L){a b:Tx}(ha:a.length≤25)(hb:b.length≤800):zhP L a b=some (zwn L a b):=by
 unfold zhP zEz;rw [zxl h 25 30 a b ha (by omega) (by omega) hb]
end
abbrev I64(n:Int):Prop:=-9223372036854775808≤n∧n≤9223372036854775807
abbrev FS(s:List UInt8):Prop:=s.length≤10000
structure FL{α:Type}(Q:α→Prop)(l:List α):Prop where
 len:l.length≤10000
 all:∀x∈l,Q x
structure zE2(f:zj):Prop where
 name:FS f.Name
 type:FS f.Type_
structure zG3(x:zn):Prop where
 op:I64 x.Op
 a:I64 x.A
 c:FS x.C
 m:FS x.M
structure zG4(x:zX):Prop where
 pl:I64 x.At
 locals:FL FS x.Locals
 stack:FL FS x.Stack
structure zGh(x:zT):Prop where
 lo:I64 x.From
 hi:I64 x.To
 pl:I64 x.At
 c:FS x.C
structure zDy(m:zc):Prop where
 name:FS m.Name
 params:FL FS m.Params
 ret:FS m.Ret
 locals:I64 m.Locals
 stack:I64 m.Stack
 code:FL zG3 m.Code
 maps:FL zG4 m.Maps
 traps:FL zGh m.Traps
structure zdt(c:za):Prop where
 name:FS c.Name
 super:FS c.Super
 impl:FL FS c.Impl
 fields:FL zE2 c.Fields
 methods:FL zDy c.Methods
theorem FL.le{α:Type}{Q:α→Prop}{l:List α}(h:FL Q l):zlm l:=by have:=h.len;unfold zlm;omega
theorem FS.le{s:List UInt8}(h:FS s):Len s:=by unfold FS at h;unfold Len;omega
theorem zdt.cg{c:za}(h:zdt c):zE1 c where
 name:=h.name.le
 super:=h.super.le
 impl:=⟨h.impl.le,fun s hs=>(h.impl.all s hs).le⟩
 fields:=⟨h.fields.le,fun f hf=>⟨(h.fields.all f hf).name.le,(h.fields.all f hf).type.le⟩⟩
 methods:=⟨h.methods.le,fun m hm=>by
  have g:=h.methods.all m hm;have g1:=g.params.len;have g2:=g.code.len;have g3:=g.maps.len;have g4:=g.traps.len
  exact ⟨g.name.le,⟨by omega,fun s hs=>(g.params.all s hs).le⟩,g.ret.le,
   ⟨g.maps.le,g.code.le,fun x hx=>⟨⟨(g.maps.all x hx).locals.le,fun s hs=>((g.maps.all x hx).locals.all s hs).le⟩,(g.maps.all x hx).stack.le,fun s hs=>((g.maps.all x hx).stack.all s hs).le⟩⟩,
   ⟨⟨g.code.le,fun x hx=>⟨(g.code.all x hx).c.le,(g.code.all x hx).m.le⟩⟩,⟨g.traps.le,fun x hx=>(g.traps.all x hx).c.le⟩⟩,⟨by omega,by omega,by omega⟩⟩⟩
theorem zen{s:List UInt8}{n:Nat}:zcC s (n:Int)=some (s.take n):=by
 unfold zcC;by_cases h:n<s.length
 ·rw [decide_eq_true (show (n:Int)<(s.length:Int) by omega),zpN (by omega)];rfl
 ·rw [decide_eq_false (show ¬(n:Int)<(s.length:Int) by omega),Jt (by omega)];rfl
theorem zkj{α β R:Type}{body:List β×Int→Option (Sum (List β×Int) (Sum (List β) R))}{l:List α}{n:Nat}{f:α→β}(hn:n≤1000)
  (hb:∀acc (i:Nat) x,l[i]?=some x→i<n→acc.length=i→body (acc,(i:Int))=some (.inl (acc++[f x],IntKind.i64.wrap ((i:Int)+1))))
  (he:∀acc (i:Nat),(decide ((i:Int)<(l.length:Int))&&decide ((i:Int)<(n:Int)))=false→body (acc,(i:Int))=some (.inr (.inl acc))):zr body ([],0)=some (.inl ((l.take n).map f)):=by
 have key:∀d i,(l.take n).length-i=d→i≤(l.take n).length→zr body (((l.take n).take i).map f,(i:Int))=some (.inl ((l.take n).map f)):=by
  intro d
  induction d with
  |zero =>
   intro i hd hi
   have e:i=(l.take n).length:=by omega
   rw [zR,he _ i (by
    rw [QO] at e;rw [Yt]
    rcases Nat.le_total n l.length with h |h
    ·exact .inr (decide_eq_false (by omega))
    ·exact .inl (decide_eq_false (by omega))),e,Yk]
   rfl
  |succ d ih =>
   intro i hd hi
   have hlt:i<(l.take n).length:=by omega
   have h2:i<n∧i<l.length:=by rw [QO] at hlt;omega
   have hx:l[i]?=some l[i]:=Qe h2.2;rw [zR,hb _ i l[i] hx h2.1 (by rw [QQ,QO];omega),zU (by omega)];have:=ih (i+1) (by omega) (by omega);rw [Yb,Yf h2.1,hx] at this;simp only [Option.toList_some,JY,Yc,List.map_nil] at this;exact this
 exact key _ 0 rfl (Qv _)
theorem more{α:Type}{l:List α}{n i:Nat}{x:α}(h:l[i]?=some x)(hi:i<n):(decide ((i:Int)<(l.length:Int))&&decide ((i:Int)<(n:Int)))=true:=by
 rw [ze8 h,decide_eq_true (by omega)];rfl
def zGS(f:zj):zj:=zj.mk (f.Name.take 10) (f.Type_.take 12) f.Static
def zGp(x:zn):zn:=zn.mk x.Op x.A (x.C.take 14) (x.M.take 12)
def zDa(n:Nat)(l:List (List UInt8)):List (List UInt8):=(l.take n).map (·.take 12)
def zC9(x:zX):zX:=zX.mk x.At (zDa 20 x.Locals) (zDa 20 x.Stack)
def zGT(x:zT):zT:=zT.mk x.From x.To x.At (x.C.take 10)
def zF2(m:zc):zc:=zc.mk (m.Name.take 10) (zDa 8 m.Params) (m.Ret.take 12) m.Static m.Abstract m.Locals m.Stack ((m.Code.take 104).map zGp) ((m.Maps.take 104).map zC9) ((m.Traps.take 8).map zGT)
def zC8(c:za):za:=za.mk (c.Name.take 10) (c.Super.take 10) c.Interface (zDa 6 c.Impl) ((c.Fields.take 10).map zGS) ((c.Methods.take 10).map zF2)
theorem zjF{l:List (List UInt8)}{n:Nat}(hn:n≤100):zfk l (n:Int)=some (zDa n l):=by
 unfold zfk
 rw [show zr (fun z=>zhq l (n:Int) z.1 z.2) ([],0)=some (.inl (zDa n l)) from zkj (by omega) (fun acc i x hx hi ha=>by
  show zhq l (n:Int) acc (i:Int)=_;unfold zhq;rw [more hx hi,zw,hx];simp only [Qa,cond_true]
  rw [show zcC x 12=_ from zen (n:=12),Qa,zbi (by simp;omega) (by simp;omega)];rfl) (fun acc i h=>by
  show zhq l (n:Int) acc (i:Int)=_;unfold zhq
  rw [h];rfl)]
 rfl
theorem zvO(x:zn):zqE x=some (zGp x):=by
 unfold zqE;rw [show zcC x.C 14=_ from zen (n:=14),show zcC x.M 12=_ from zen (n:=12)];rfl
theorem zr4(m:zc):zlJ m=some (zF2 m):=by
 unfold zlJ;rw [show zcC m.Name 10=_ from zen (n:=10),show zcC m.Ret 12=_ from zen (n:=12),show zfk m.Params 8=_ from zjF (n:=8) (by decide)];simp only [Qa]
 rw [show zr (fun z=>zgM m z.1 z.2) ([],0)=some (.inl ((m.Code.take 104).map zGp)) from zkj (by decide) (fun acc i x hx hi ha=>by
  show zgM m acc (i:Int)=_;unfold zgM;rw [show (decide ((i:Int)<(m.Code.length:Int))&&decide ((i:Int)<104))=true from more hx hi,zw,hx];simp only [Qa,cond_true]
  rw [zvO,Qa,zbi (by simp;omega) (by simp;omega)];rfl) (fun acc i h=>by
  show zgM m acc (i:Int)=_;unfold zgM
  rw [show (decide ((i:Int)<(m.Code.length:Int))&&decide ((i:Int)<104))=false from h];rfl)]
 simp only [Qa];show zkT m _ _ _ _=_;unfold zkT
 rw [show zr (fun z=>zgN m z.1 z.2) ([],0)=some (.inl ((m.Maps.take 104).map zC9)) from zkj (by decide) (fun acc i x hx hi ha=>by
  show zgN m acc (i:Int)=_;unfold zgN;rw [show (decide ((i:Int)<(m.Maps.length:Int))&&decide ((i:Int)<104))=true from more hx hi,zw,hx];simp only [Qa,cond_true];rw [show zfk x.Locals 20=_ from zjF (n:=20) (by decide),show zfk x.Stack 20=_ from zjF (n:=20) (by decide)];simp only [Qa]
  rw [zbi (by simp;omega) (by simp;omega)];rfl) (fun acc i h=>by
  show zgN m acc (i:Int)=_;unfold zgN
  rw [show (decide ((i:Int)<(m.Maps.length:Int))&&decide ((i:Int)<104))=false from h];rfl)]
 simp only [Qa];show zkU m _ _ _ _ _=_;unfold zkU
 rw [show zr (fun z=>zgO m z.1 z.2) ([],0)=some (.inl ((m.Traps.take 8).map zGT)) from zkj (by decide) (fun acc i x hx hi ha=>by
  show zgO m acc (i:Int)=_;unfold zgO;rw [show (decide ((i:Int)<(m.Traps.length:Int))&&decide ((i:Int)<8))=true from more hx hi,zw,hx];simp only [Qa,cond_true]
  rw [show zcC x.C 10=_ from zen (n:=10),Qa,zbi (by simp;omega) (by simp;omega)];rfl) (fun acc i h=>by
  show zgO m acc (i:Int)=_;unfold zgO
  rw [show (decide ((i:Int)<(m.Traps.length:Int))&&decide ((i:Int)<8))=false from h];rfl)]
 rfl
theorem zvS(c:za):zqG c=some ((zC8 c).Name,(zC8 c).Super,(zC8 c).Impl,(zC8 c).Fields,(zC8 c).Methods):=by
 unfold zqG;rw [show zcC c.Name 10=_ from zen (n:=10),show zcC c.Super 10=_ from zen (n:=10),show zfk c.Impl 6=_ from zjF (n:=6) (by decide)];simp only [Qa]
 rw [show zr (fun z=>ziI c z.1 z.2) ([],0)=some (.inl ((c.Fields.take 10).map zGS)) from zkj (by decide) (fun acc i x hx hi ha=>by
  show ziI c acc (i:Int)=_;unfold ziI;rw [show (decide ((i:Int)<(c.Fields.length:Int))&&decide ((i:Int)<10))=true from more hx hi,zw,hx];simp only [Qa,cond_true];rw [show zcC x.Name 10=_ from zen (n:=10),show zcC x.Type_ 12=_ from zen (n:=12)];simp only [Qa]
  rw [zbi (by simp;omega) (by simp;omega)];rfl) (fun acc i h=>by
  show ziI c acc (i:Int)=_;unfold ziI
  rw [show (decide ((i:Int)<(c.Fields.length:Int))&&decide ((i:Int)<10))=false from h];rfl)]
 simp only [Qa];show zoD c _ _ _ _=_;unfold zoD
 rw [show zr (fun z=>ziJ c z.1 z.2) ([],0)=some (.inl ((c.Methods.take 10).map zF2)) from zkj (by decide) (fun acc i x hx hi ha=>by
  show ziJ c acc (i:Int)=_;unfold ziJ;rw [show (decide ((i:Int)<(c.Methods.length:Int))&&decide ((i:Int)<10))=true from more hx hi,zw,hx];simp only [Qa,cond_true]
  rw [zr4,Qa,zbi (by simp;omega) (by simp;omega)];rfl) (fun acc i h=>by
  show ziJ c acc (i:Int)=_;unfold ziJ
  rw [show (decide ((i:Int)<(c.Methods.length:Int))&&decide ((i:Int)<10))=false from h];rfl)]
 rfl
theorem zuu{n:Int}(h:wI .i64 n):I64 n:=by
 have h:(Lit.int .i64 n).wf=true:=h;unfold Lit.wf at h;simp [IntKind.min,IntKind.max,IntKind.bits,IntKind.signed] at h;exact ⟨by omega,by omega⟩
theorem FS.take(s:List UInt8){n:Nat}(hn:n≤100):FS (s.take n):=by unfold FS;rw [QO];omega
theorem ztc{l:List (List UInt8)}{n:Nat}(hn:n≤100):FL FS (zDa n l):=by
 refine ⟨by unfold zDa;rw [QQ,QO];omega,fun x hx=>?_⟩;obtain ⟨y,_,rfl⟩:=QS.1 hx;exact FS.take y (by decide)
theorem zqZ{α:Type}{Q:α→Prop}{l:List α}{f:α→α}{n:Nat}(hn:n≤200)(h:∀x∈l,Q (f x)):FL Q ((l.take n).map f):=by
 refine ⟨by rw [QQ,QO];omega,fun x hx=>?_⟩;obtain ⟨y,hy,rfl⟩:=QS.1 hx;exact h y (JU hy)
theorem zDW{m:zc}(h:zp9 m):zDy (zF2 m):=by
 obtain ⟨_,_,_,_,_,h1,h2,h3,h4,h5⟩:=h
 exact ⟨FS.take _ (by decide),ztc (by decide),FS.take _ (by decide),zuu h1,zuu h2,
  zqZ (by decide) fun x hx=>⟨zuu (h3.2 x hx).1,zuu (h3.2 x hx).2.1,FS.take _ (by decide),FS.take _ (by decide)⟩,
  zqZ (by decide) fun x hx=>⟨zuu (h4.2 x hx).1,ztc (by decide),ztc (by decide)⟩,
  zqZ (by decide) fun x hx=>⟨zuu (h5.2 x hx).1,zuu (h5.2 x hx).2.1,zuu (h5.2 x hx).2.2.1,FS.take _ (by decide)⟩⟩
theorem zDV{c:za}(h:zji c):zdt (zC8 c):=by
 obtain ⟨_,_,_,_,_,h1⟩:=h;exact ⟨FS.take _ (by decide),FS.take _ (by decide),ztc (by decide),zqZ (by decide) fun x hx=>⟨FS.take _ (by decide),FS.take _ (by decide)⟩,zqZ (by decide) fun x hx=>zDW (h1.2 x hx)⟩
def zqy(l:List za):List za:=(l.take 18).map zC8
theorem zvP(l:List za):zqF l=some (zqy l):=by
 unfold zqF
 rw [show zr (fun z=>ziH l z.1 z.2) ([],0)=some (.inl (zqy l)) from zkj (by decide) (fun acc i x hx hi ha=>by
  show ziH l acc (i:Int)=_;unfold ziH;rw [show (decide ((i:Int)<(l.length:Int))&&decide ((i:Int)<18))=true from more hx hi,zw,hx];simp only [Qa,cond_true]
  rw [zvS,Qa,zbi (by simp;omega) (by simp;omega)];rfl) (fun acc i h=>by
  show ziH l acc (i:Int)=_;unfold ziH
  rw [show (decide ((i:Int)<(l.length:Int))&&decide ((i:Int)<18))=false from h];rfl)]
 rfl
structure zE5(c:za):Prop where
 fc:zdt c
 name:c.Name.length≤10
 super:c.Super.length≤10
 impl:∀s∈c.Impl,s.length≤12
theorem zxV{c:za}(h:zji c):zE5 (zC8 c):=by
 refine ⟨zDV h,?_,?_,fun s hs=>?_⟩
 ·show (c.Name.take 10).length≤10;rw [QO];omega
 ·show (c.Super.take 10).length≤10;rw [QO];omega
 ·obtain ⟨y,_,rfl⟩:=QS.1 (show s∈(c.Impl.take 6).map (·.take 12) from hs);rw [QO];omega
theorem zsm{l:List za}(h:∀c∈l,zji c):∀c∈zqy l,zE5 c:=fun c hc=>by
 obtain ⟨d,hd,rfl⟩:=QS.1 hc;exact zxV (h d (JU hd))
section
variable {l L : List za} {m : List (Tx × Int)}
theorem zFg:∀c∈giv,zdt c:=by
 intro c hc
 have hg:giv.all (fun c=>decide (c.Name.length≤10)&&decide (c.Super.length≤10)&&(c.Impl == [])&&decide (c.Fields.length=0)&&decide (c.Methods.length=0))=true:=by decide +kernel
 have:=Qs.1 hg c hc;simp only [Qd,decide_eq_true_eq,beq_iff_eq] at this;obtain ⟨⟨⟨⟨h1,h2⟩,h3⟩,h4⟩,h5⟩:=this;refine ⟨by unfold FS;omega,by unfold FS;omega,⟨by rw [h3];simp,fun s hs=>by rw [h3] at hs;cases hs⟩,⟨by omega,fun s hs=>?_⟩,⟨by omega,fun s hs=>?_⟩⟩
 ·rw [Qf h4] at hs;cases hs
 ·rw [Qf h5] at hs;cases hs
theorem zvX(h:zct l L)(hs:∀c∈l,zdt c):∀c∈L,zdt c:=by
 intro c hc;rw [h.app] at hc
 rcases Qu.1 hc with e |e
 ·exact zFg c e
 ·exact hs c e
def zC:za:=za.mk [] [] false [] [] []
theorem zwH(hm:zaW L m)(n:Tx):zG L m n=some (match cl L n with |some c=>(c,true) |none=>(zC,false)):=by
 show cond (!(zbz L m n)) (some (zC,false)) ((zdP L m n).bind fun v4=>some (v4,true))=_;unfold zbz;rw [hm.has]
 cases hc:cl L n with
 |none=>rw [zoq hc];rfl
 |some c=>rw [zh4 hc,zsv hm (zh4 hc),hc];rfl
end
section
variable {l L : List za} {m : List (Tx × Int)}
theorem Rc.trans{nx:Tx→List Tx}{a b c:Tx}(h:Rc nx a b)(k:Rc nx b c):Rc nx a c:=by
 induction h with
 |one h=>exact .more h k
 |more h _ ih=>exact .more h (ih k)
end
theorem zpT{α:Type}(p:α→Bool)(l:List α):idx l (ixF p 0 l)=l.find? p:=by
 rcases zrd p l 0 with ⟨j,x,h1,h2,h3,h4⟩ |⟨h1,h2⟩
 ·rw [h1,h4,zw,QZ,h2]
 ·rw [h1,h2];rfl
theorem zlG{α:Type}(p:α→Bool)(l:List α):decide (0≤ixF p 0 l)=(l.find? p).isSome:=by
 rw [zem,Jd,QJ,Ya]
theorem zqh{α β:Type}{f g:α→Option β}:∀{l:List α},(∀x∈l,f x=g x)→l.findSome? f=l.findSome? g
 | [],_=>rfl
 |x ::l,h=>by
  rw [Q1,Q1,h x (by simp),zqh fun y hy=>h y (by simp [hy])]
def zF:zj:=zj.mk [] [] false
def zM:zc:=zc.mk [] [] [] false false 0 0 [] [] []
abbrev FR:=List UInt8×zj×Bool
abbrev MR:=List UInt8×zc×Bool
def zvn(L:List za)(n s:Tx):Option FR:=match cl L s with |some x=>(match x.Fields.find? (fun y=>y.Name == n) with |some f=>some (s,f,true) |none=>none) |none=>none
def znp(L:List za)(may:zc→Bool)(n s:Tx):Option MR:=match cl L s with |some x=>(match x.Methods.find? (fun y=>y.Name == n) with |some f=>cond (may f) (some (s,f,true)) none |none=>none) |none=>none
theorem ziK{R:Type}(o:Option R)(z:R):(some (zqf () o):Option (Sum Unit R)).bind (fun o=>zQ o (fun _=>some z) some)=some (o.getD z):=by cases o <;> rfl
section
variable {l L : List za} {m : List (Tx × Int)}
theorem zdu(hm:zaW L m)(n:Tx):zG L m n=some (match cl L n with |some c=>(c,true) |none=>(zC,false)):=zwH hm n
def znd(L:List za):Prop:=∀c∈L,zlm c.Fields∧zlm c.Methods
theorem zpU(h:∀c∈L,zdt c):znd L:=fun c hc=>⟨(h c hc).fields.le,(h c hc).methods.le⟩
theorem zpc(h:zct l L)(hm:zaW L m)(hL:znd L)(c n:Tx):zfy L m c n=some (((zea L c).findSome? (zvn L n)).getD ([],zF,false)):=by
 have h26:=zfI h c;unfold zfy;rw [zis h hm];simp only [Qa]
 rw [show zr (fun z=>zfl L m n (zea L c) z) 0=some (zqf () ((zea L c).findSome? (zvn L n))) from zeq (fun i s hs=>by
  have hi:=(Qb.1 hs).1;obtain ⟨x,hx⟩:=zgX (zjt h _ c s (Qc hs)).1;show zfl L m n (zea L c) (i:Int)=_;unfold zfl;rw [ze8 hs,zw,hs];simp only [cond_true,Qa];rw [zdu hm,hx];simp only [Qa];rw [zrS (hL x (zbK hx).1).1];simp only [Qa];rw [zlG,zpT,zU (by omega)];unfold zvn;rw [hx]
  show _=some (zy3 i (match x.Fields.find? (fun y=>y.Name == n) with |some f=>some (s,f,true) |none=>none))
  cases x.Fields.find? (fun y=>y.Name == n) <;> rfl) (by
  show zfl L m n (zea L c) ((zea L c).length:Int)=_;unfold zfl
  rw [zfM];rfl)]
 exact ziK _ _
theorem zu5(h:zct l L)(hL:znd L)(c n:Tx):zkd L c n=some (((zea L c).findSome? (zvn L n)).getD ([],zF,false)):=by
 have h26:=zfI h c;have hl:=h.len;unfold zkd;rw [zip h];simp only [Qa]
 rw [show zr (fun z=>zee L n (zea L c) z) 0=some (zqf () ((zea L c).findSome? (zvn L n))) from zeq (fun i s hs=>by
  have hi:=(Qb.1 hs).1;obtain ⟨x,hx⟩:=zgX (zjt h _ c s (Qc hs)).1;show zee L n (zea L c) (i:Int)=_;unfold zee;rw [ze8 hs,zw,hs];simp only [cond_true,Qa];rw [zo4 (by omega)];simp only [Qa];rw [zrb hx];simp only [Qa];rw [ztL (hL x (zbK hx).1).1];simp only [Qa];rw [zlG,zpT,zU (by omega)];unfold zvn;rw [hx]
  show _=some (zy3 i (match x.Fields.find? (fun y=>y.Name == n) with |some f=>some (s,f,true) |none=>none))
  cases x.Fields.find? (fun y=>y.Name == n) <;> rfl) (by
  show zee L n (zea L c) ((zea L c).length:Int)=_;unfold zee
  rw [zfM];rfl)]
 exact ziK _ _
theorem zty(h:zct l L)(hm:zaW L m)(hL:znd L){may:zc→Bool}{T:List Tx}(hT:T.length≤1000)(n:Tx){body:Int→Option (Sum Int (Sum Unit MR))}
  (hT2:∀s∈T,zeb L s=true)
  (hb:∀(i:Nat) s x,T[i]?=some s→cl L s=some x→body (i:Int)=((zeC x n).bind fun v15=>(cond (decide (0≤v15)) ((idx x.Methods v15).bind fun v16=>some (may v16)) (some false)).bind fun v17=>cond v17 ((idx x.Methods v15).bind fun v18=>some (.inr (.inr (s,v18,true)))) (some (.inl (IntKind.i64.wrap ((i:Int)+1))))))
  (he:body (T.length:Int)=some (.inr (.inl ()))):zr body 0=some (zqf () (T.findSome? (znp L may n))):=by
 refine zeq (fun i s hs=>?_) he;have hi:=(Qb.1 hs).1;obtain ⟨x,hx⟩:=zgX (hT2 s (Qc hs));rw [hb i s x hs hx,zmw (hL x (zbK hx).1).2];simp only [Qa];rw [zlG,zpT,zU (by omega)];unfold znp;rw [hx]
 show _=some (zy3 i (match x.Methods.find? (fun y=>y.Name == n) with |some f=>cond (may f) (some (s,f,true)) none |none=>none))
 cases x.Methods.find? (fun y=>y.Name == n) with
 |none=>rfl
 |some f =>
  simp only [Option.isSome_some,cond_true,Qa];cases may f <;> rfl
theorem zBH(h:zct l L)(hm:zaW L m)(hL:znd L){T:List Tx}(hT:T.length≤1000)(hT2:∀s∈T,zeb L s=true)(n:Tx):zjd L m T n=some ((T.findSome? (znp L za2 n)).getD ([],zM,false)):=by
 unfold zjd
 rw [show zr (fun z=>zgc L m T n z) 0=some (zqf () (T.findSome? (znp L za2 n))) from zty h hm hL hT n hT2 (fun i s x hs hx=>by
  show zgc L m T n (i:Int)=_;unfold zgc;rw [ze8 hs,zw,hs];simp only [cond_true,Qa]
  rw [zdu hm,hx];rfl) (by
  show zgc L m T n (T.length:Int)=_;unfold zgc
  rw [zfM];rfl)]
 exact ziK _ _
theorem zBI(h:zct l L)(hm:zaW L m)(hL:znd L){T:List Tx}(hT:T.length≤1000)(hT2:∀s∈T,zeb L s=true)(n:Tx):zkH L m T n=some ((T.findSome? (znp L zfQ n)).getD ([],zM,false)):=by
 unfold zkH
 rw [show zr (fun z=>zgd L m T n z) 0=some (zqf () (T.findSome? (znp L zfQ n))) from zty h hm hL hT n hT2 (fun i s x hs hx=>by
  show zgd L m T n (i:Int)=_;unfold zgd;rw [ze8 hs,zw,hs];simp only [cond_true,Qa]
  rw [zdu hm,hx];rfl) (by
  show zgd L m T n (T.length:Int)=_;unfold zgd
  rw [zfM];rfl)]
 exact ziK _ _
theorem zBG(h:zct l L)(hm:zaW L m)(hL:znd L){T:List Tx}(hT:T.length≤1000)(hT2:∀s∈T,zeb L s=true)(n:Tx):zkG L m T n=some ((T.findSome? (znp L zb1 n)).getD ([],zM,false)):=by
 unfold zkG
 rw [show zr (fun z=>zgb L m T n z) 0=some (zqf () (T.findSome? (znp L zb1 n))) from zty h hm hL hT n hT2 (fun i s x hs hx=>by
  show zgb L m T n (i:Int)=_;unfold zgb;rw [ze8 hs,zw,hs];simp only [cond_true,Qa]
  rw [zdu hm,hx];rfl) (by
  show zgb L m T n (T.length:Int)=_;unfold zgb
  rw [zfM];rfl)]
 exact ziK _ _
theorem zpB(h:zct l L)(c:Tx):∀s∈zea L c,zeb L s=true:=fun s hs=>(zjt h _ c s hs).1
theorem zmT(h:zct l L)(hm:zaW L m)(hL:znd L)(c n:Tx):zfR L m c n=some (((zea L c).findSome? (znp L za2 n)).getD ([],zM,false)):=by
 have h26:=zfI h c;unfold zfR;rw [zis h hm];simp only [Qa];rw [zBH h hm hL (by omega) (zpB h c)];rfl
theorem ztN(h:zct l L)(hL:znd L)(c n:Tx):zjq L c n=some (((zea L c).findSome? (znp L za2 n)).getD ([],zM,false)):=by
 have h26:=zfI h c;have hl:=h.len;unfold zjq;rw [zip h];simp only [Qa]
 rw [show zr (fun z=>zdG L n (zea L c) z) 0=some (zqf () ((zea L c).findSome? (znp L za2 n))) from zeq (fun i s hs=>by
  have hi:=(Qb.1 hs).1;obtain ⟨x,hx⟩:=zgX (zpB h c s (Qc hs));show zdG L n (zea L c) (i:Int)=_;unfold zdG;rw [ze8 hs,zw,hs];simp only [cond_true,Qa];rw [zo4 (by omega)];simp only [Qa];rw [zrb hx];simp only [Qa];rw [zn6 (hL x (zbK hx).1).2];simp only [Qa];rw [zlG,zpT,zU (by omega)];unfold znp;rw [hx]
  show _=some (zy3 i (match x.Methods.find? (fun y=>y.Name == n) with |some f=>cond (za2 f) (some (s,f,true)) none |none=>none))
  cases hf:x.Methods.find? (fun y=>y.Name == n) with
  |none=>rfl
  |some f =>
   have e:f.Name=n:=by have:=List.find?_some hf;simpa using this
   simp only [za2,Option.isSome_some,QD,Qa,e]
   cases (n == [36,105,110,105,116]) <;> rfl) (by
  show zdG L n (zea L c) ((zea L c).length:Int)=_;unfold zdG
  rw [zfM];rfl)]
 exact ziK _ _
def zoo(L:List za)(c n:Tx):MR:=cond (isF L c) (((c ::zfs L c).findSome? (znp L zfQ n)).getD ([],zM,false)) ([],zM,false)
theorem zvL{c:Tx}(h:isF L c=true):zeb L c=true:=by
 unfold isF at h
 cases hc:cl L c with
 |none=>rw [hc] at h;cases h
 |some x=>exact zh4 hc
theorem zvC(h:zct l L)(hm:zaW L m)(hL:znd L)(c n:Tx):zh8 L m c n=some (zoo L c n):=by
 have h52:=zmE h c;unfold zh8 zoo;rw [zdu hm]
 have e:isF L c=(match cl L c with |some c=>(c,true) |none=>(zC,false)).1.Interface:=by
  unfold isF;cases cl L c <;> rfl
 cases hF:isF L c with
 |false =>
  rw [hF] at e;simp only [Qa];rw [←e];rfl
 |true =>
  rw [hF] at e;simp only [Qa];rw [←e];simp only [Qp,cond_false];rw [zq0 h hm];simp only [Qa];rw [zbi (by simp;omega) (by simp;omega)];simp only [Qa]
  rw [zBI h hm hL (by simp;omega) (fun s hs=>by
   rcases Qr.1 (show s∈c ::zfs L c from hs) with e |e
   ·rw [e];exact zvL hF
   ·exact zpa h e)]
  rfl
theorem zwc(h:zct l L)(hL:znd L)(c n:Tx):zkW L c n=some (zoo L c n):=by
 have h52:=zmE h c;have hl:=h.len;unfold zkW zoo;rw [zo4 (by omega)];simp only [Qa];rw [zsr,zqj]
 have e:(cond (!zeb L c) (some true) ((cl L c).bind fun v5=>some (!v5.Interface)))=some (!isF L c):=by
  unfold isF
  cases hc:cl L c with
  |none=>rw [zoq hc];rfl
  |some x=>rw [zh4 hc];rfl
 rw [e];simp only [Qa]
 cases hF:isF L c with
 |false=>rfl
 |true =>
  simp only [Qp,cond_false,cond_true];rw [zqo h];simp only [Qa];rw [zbi (by simp;omega) (by simp;omega)];simp only [Qa]
  rw [show zr (fun z=>zeX L n ([c]++zfs L c) z) 0=some (zqf () ((c ::zfs L c).findSome? (znp L zfQ n))) from zeq (l:=c ::zfs L c) (fun i s hs=>by
   have hi:=(Qb.1 hs).1;simp only [Qx] at hi
   have hsh:zeb L s=true:=by
    rcases Qr.1 (Qc hs) with e |e
    ·rw [e];exact zvL hF
    ·exact zpa h e
   obtain ⟨x,hx⟩:=zgX hsh;show zeX L n (c ::zfs L c) (i:Int)=_;unfold zeX;rw [ze8 hs,zw,hs];simp only [cond_true,Qa];rw [zo4 (by omega)];simp only [Qa];rw [zrb hx];simp only [Qa];rw [zn6 (hL x (zbK hx).1).2];simp only [Qa];rw [zlG,zpT,zU (by omega)];unfold znp zfQ;rw [hx]
   show _=some (zy3 i (match x.Methods.find? (fun y=>y.Name == n) with |some f=>cond true (some (s,f,true)) none |none=>none))
   cases x.Methods.find? (fun y=>y.Name == n) <;> rfl) (by
   show zeX L n (c ::zfs L c) ((c ::zfs L c).length:Int)=_;unfold zeX
   rw [zfM];rfl)]
  exact ziK _ _
theorem zof(h:zct l L){x:za}(hx:x∈L){f:zc}(hf:f∈x.Methods):f.Abstract=x.Interface:=by
 rw [h.app] at hx
 rcases Qu.1 hx with e |e
 ·have hg:giv.all (fun c=>decide (c.Methods.length=0))=true:=by decide +kernel
  have:=of_decide_eq_true (Qs.1 hg x e);rw [Qf this] at hf;cases hf
 ·have:=h.may x e;unfold zuK at this;simp only [Qd,Qk,decide_eq_true_eq] at this;have h2:=zsU this.2.2.1 f hf;rw [Qd,beq_iff_eq] at h2;exact h2.1
def chG(L:List za)(n s:Tx):Option (List UInt8×Bool):=match cl L s with |some x=>(match x.Methods.find? (fun y=>y.Name == n) with |some f=>cond (!f.Static) (some (s,true)) none |none=>none) |none=>none
theorem zzd(h:zct l L)(hm:zaW L m)(hL:znd L)(c n:Tx):zhG L m c n=some ((((zea L c).findSome? (znp L zb1 n)).getD ([],zM,false)).1,(((zea L c).findSome? (znp L zb1 n)).getD ([],zM,false)).2.2):=by
 have h26:=zfI h c;unfold zhG;rw [zis h hm];simp only [Qa];rw [zBG h hm hL (by omega) (zpB h c)];rfl
theorem zqi{α β γ:Type}{f:α→Option β}{g:β→γ}:∀{l:List α},(l.findSome? f).map g=l.findSome? (fun x=>(f x).map g)
 | []=>rfl
 |x ::l=>by
  rw [Q1,Q1]
  cases f x with
  |some y=>rfl
  |none=>exact zqi
theorem zpd{α β:Type}{f:α→Option β}:∀{l:List α},(∀x∈l,f x=none)→l.findSome? f=none
 | [],_=>rfl
 |x ::l,h=>by
  rw [Q1,h x (by simp)];exact zpd fun y hy=>h y (by simp [hy])
theorem zCe(h:zct l L)(may:zc→Bool)(n:Tx):znp L may n zyM=none:=by
 have e:cl L zyM=some (gC zyM []):=zwG h.app rfl;unfold znp;rw [e];rfl
theorem zEK(h:zct l L){c s:Tx}(hs:s∈zea L c)(hF:isF L c=false):isF L s=false:=by
 rcases (zjt h _ c s hs).2.2 with e |⟨x,hx,e⟩
 ·rw [e];exact hF
 ·rw [e];exact h.superF x hx
theorem zCM(h:zct l L){c s:Tx}(hs:s∈zea L c)(hF:isF L c=true):s=c∨s=zyM:=by
 unfold zea at hs;have hn:=zvL hF
 cases hd:L.length with
 |zero=>rw [hd] at hs;simp [sup] at hs
 |succ d =>
  rw [hd] at hs;unfold sup at hs;obtain ⟨x,hx⟩:=zgX hn;rw [hx] at hs
  rcases Qr.1 hs with e |e
  ·exact .inl e
  ·right
   have hI:x.Interface=true:=by unfold isF at hF;rw [hx] at hF;exact hF
   have hxS:x.Super=zyM:=by
    have hxm:=(zbK hx).1;rw [h.app] at hxm
    rcases Qu.1 hxm with e |e
    ·rw [(zD6 e).2.1] at hI;cases hI
    ·have:=h.may x e;unfold zuK at this;rw [hI] at this;simp only [Qd,Qk,QD,Qo,Q6] at this;exact eq_of_beq this.1.1
   rw [hxS] at e
   cases d with
   |zero=>simp [sup] at e
   |succ d =>
    unfold sup at e;have eo:cl L zyM=some (gC zyM []):=zwG h.app rfl;rw [eo] at e
    rcases Qr.1 e with e |e
    ·exact e
    ·rw [show (gC zyM []).Super=[] from rfl,zwq h] at e;cases e
def chN(L:List za)(c n:Tx):List UInt8×Bool:=cond (zeb L c&&!isF L c) (((zea L c).findSome? (chG L n)).getD ([],false)) ([],false)
theorem zBD(h:zct l L)(hm:zaW L m)(hL:znd L)(c n:Tx):zhG L m c n=some (chN L c n):=by
 rw [zzd h hm hL];congr 1;unfold chN
 cases hn:zeb L c with
 |false=>rw [zlj hn];rfl
 |true =>
  cases hF:isF L c with
  |true =>
   rw [zpd (fun s hs=>?_)]
   ·rfl
   ·rcases zCM h hs hF with e |e
    ·subst e;obtain ⟨x,hx⟩:=zgX hn
     have hI:x.Interface=true:=by unfold isF at hF;rw [hx] at hF;exact hF
     unfold znp;rw [hx]
     show (match x.Methods.find? (fun y=>y.Name == n) with |some f=>cond (zb1 f) (some (s,f,true)) none |none=>none)=none
     cases hf:x.Methods.find? (fun y=>y.Name == n) with
     |none=>rfl
     |some f =>
      have:=zof h (zbK hx).1 (QY hf);simp only [zb1,this,hI,Qp,J6,cond_false]
    ·rw [e];exact zCe h _ _
  |false =>
   simp only [QB,JI,cond_true]
   have e:(zea L c).findSome? (chG L n)=((zea L c).findSome? (znp L zb1 n)).map (fun z:MR=>(z.1,z.2.2)):=by
    rw [zqi];refine zqh fun s hs=>?_;obtain ⟨x,hx⟩:=zgX (zpB h c s hs)
    have hI:x.Interface=false:=by
     have:=zEK h hs hF;unfold isF at this;rw [hx] at this;exact this
    unfold chG znp;rw [hx]
    show (match x.Methods.find? (fun y=>y.Name == n) with |some f=>cond (!f.Static) (some (s,true)) none |none=>none)=Option.map _ (match x.Methods.find? (fun y=>y.Name == n) with |some f=>cond (zb1 f) (some (s,f,true)) none |none=>none)
    cases hf:x.Methods.find? (fun y=>y.Name == n) with
    |none=>rfl
    |some f =>
     have:=zof h (zbK hx).1 (QY hf);simp only [zb1,this,hI,QB,Bool.and_true];cases f.Static <;> rfl
   rw [e];cases (zea L c).findSome? (znp L zb1 n) <;> rfl
end
section
variable {l L : List za} {m : List (Tx × Int)}
def zsQ(L:List za)(t:Tx):Bool:=((t == [78])||(t == [84]))||thN L t
def zAw(L:List za)(t:Tx):Bool:=!(t == [73])&&thN L t
def znR(L:List za)(a b:Tx):Bool:=
 (zsQ L a&&zsQ L b)&&cond ((b == [84])||(a == b)) true (cond (a == [78]) (zAw L b) ((zAw L a&&zAw L b)&&(isF L b||zwn L a b)))
theorem sub_self(t:Tx):zwn L t t=thN L t:=by
 rw [zwo];simp
theorem zEp:zgm [78]=false:=by decide +kernel
theorem zEq:zgm [84]=false:=by decide +kernel
theorem zG0:thN L [78]=false:=by unfold thN;rw [zEp];rfl
theorem zHl:thN L [84]=false:=by unfold thN;rw [zEq];rfl
theorem zoY(h:zct l L)(hm:zaW L m){t:Tx}(ht:t.length≤25):zdQ L m t=some (zsQ L t):=by
 unfold zdQ zsQ;rw [zp8 h hm ht (by unfold Len;omega),sub_self]
 cases ((t == [78])||(t == [84])) <;> rfl
theorem zAx(h:zct l L)(hm:zaW L m){t:Tx}(ht:t.length≤25):zic L m t=some (zAw L t):=by
 unfold zic zAw;rw [zp8 h hm ht (by unfold Len;omega),sub_self];cases (t == [73]) <;> rfl
theorem zuw(b:Tx):isF L b=(match cl L b with |some c=>(c,true) |none=>(zC,false)).1.Interface:=by
 unfold isF;cases cl L b <;> rfl
theorem zqB(h:zct l L)(hm:zaW L m){a b:Tx}(ha:a.length≤25)(hb:b.length≤25):zfJ L m a b=some (znR L a b):=by
 unfold zfJ znR;rw [zoY h hm ha,zoY h hm hb,zAx h hm ha,zAx h hm hb,zp8 h hm ha (by unfold Len;omega)]
 have e:zG L m b=some (match cl L b with |some c=>(c,true) |none=>(zC,false)):=zwH hm b
 rw [e];simp only [Qa];rw [←zuw]
 cases zsQ L a <;> cases zsQ L b <;> cases ((b == [84])||(a == b)) <;> cases (a == [78]) <;> cases zAw L a <;> cases zAw L b <;> cases isF L b <;> rfl
theorem zl8{a b:Tx}(h:a≠b):(a == b)=false:=beq_eq_false_iff_ne.2 h
theorem zzw(a b:Tx):znR L a b=cond (b == [84]) (((a == [84])||(a == [78]))||thN L a) (cond (a == [78]) ((b == [78])||(!(b == [73])&&thN L b)) (cond (a == b) (thN L a)
  (cond (((a == [73])||(b == [73]))||!thN L a) false (cond (!thN L b) false (isF L b||zwn L a b))))):=by
 unfold znR;by_cases hbT:b=[84]
 ·subst hbT;unfold zsQ;cases (a == [84]) <;> cases (a == [78]) <;> cases thN L a <;> simp
 ·rw [zl8 hbT];by_cases haN:a=[78]
  ·subst haN;by_cases hbN:b=[78]
   ·subst hbN;unfold zsQ;simp
   ·have e:(([78]:Tx) == b)=false:=zl8 (Ne.symm hbN);unfold zsQ zAw;rw [e,zl8 hbN,zl8 hbT,zG0];cases (b == [73]) <;> cases thN L b <;> simp
  ·rw [zl8 haN];by_cases hab:a=b
   ·subst hab;unfold zsQ;rw [zl8 haN,zl8 hbT];cases thN L a <;> simp
   ·rw [zl8 hab];by_cases haT:a=[84]
    ·subst haT;unfold zAw;rw [zHl];simp
    ·by_cases hbN:b=[78]
     ·subst hbN;unfold zAw;rw [zG0];simp
     ·unfold zsQ zAw;rw [zl8 haN,zl8 haT,zl8 hbN,zl8 hbT];cases (a == [73]) <;> cases (b == [73]) <;> cases thN L a <;> cases thN L b <;> simp
theorem zib(h:zct l L){a b:Tx}(ha:a.length≤25)(hb:b.length≤25):zcM L a b=some (znR L a b):=by
 have h26:=h.len;rw [zzw];unfold zcM;rw [zeK h (by omega),zeK h (by omega),zo4 (by omega),zsK h ha (by omega)];simp only [Qa]
 have e:(cond (decide (0≤atN L b)) ((idx L (atN L b)).bind fun v15=>some v15.Interface) (some false))=some (isF L b):=by
  rw [zuj,zqj];unfold isF
  cases hc:cl L b with
  |none=>rw [zoq hc];rfl
  |some c=>rw [zh4 hc];rfl
 rw [e];simp only [Qa];cases (b == [84]) <;> cases (a == [84]) <;> cases (a == [78]) <;> cases (b == [78]) <;> cases (a == [73]) <;> cases (b == [73]) <;> cases (a == b) <;> cases thN L a <;> cases thN L b <;> cases isF L b <;> rfl
end
def ShL(l:List Tx):Prop:=l.length≤100∧∀t∈l,t.length≤25
theorem ShL.add{l:List Tx}{t:Tx}(h:l.length≤99∧∀t∈l,t.length≤25)(ht:t.length≤25):ShL (l++[t]):=
 ⟨by simp;omega,fun x hx=>by
  rcases Qu.1 hx with h1 |h1
  ·exact h.2 x h1
  ·rw [QV.1 h1];exact ht⟩
theorem ShL.drop{l:List Tx}(h:ShL l):ShL l.dropLast:=⟨by rw [List.length_dropLast];have:=h.1;omega,fun x hx=>h.2 x (List.dropLast_subset l hx)⟩
def zb5(e:Tx)(s:List Tx)(b:Bool):Tx×List Tx×Bool:=match s.getLast? with |some t=>(t,s.dropLast,b) |none=>(e,s,true)
theorem zlQ(e:Tx)(s:List Tx)(t:Tx)(b:Bool):zb5 e (s++[t]) b=(t,s,b):=by simp [zb5]
theorem ziM(s:List Tx):s=[]∨∃r t,s=r++[t]:=by
 rcases List.eq_nil_or_concat s with h |⟨r,t,h⟩
 ·exact .inl h
 ·exact .inr ⟨r,t,by simpa using h⟩
theorem zey{e:Tx}{s:List Tx}{b:Bool}(h:ShL s)(he:e.length≤25):(zb5 e s b).1.length≤25∧ShL (zb5 e s b).2.1:=by
 rcases ziM s with rfl |⟨r,t,rfl⟩
 ·exact ⟨he,h⟩
 ·rw [zlQ];refine ⟨h.2 t (by simp),⟨?_,fun x hx=>h.2 x (by simp [hx])⟩⟩;have:=h.1;simp at this;show r.length≤100;omega
theorem zhN{e:Tx}{s:List Tx}{b:Bool}(h:b=true):(zb5 e s b).2.2=true:=by
 unfold zb5;split <;> simp [h]
section
variable {l L : List za} {m : List (Tx × Int)} {c : Tx} {mt : zc} {loc stk : List Tx} {b : Bool}
theorem zn5(hs:stk.length≤1000):zat L m c mt loc stk b=some (zb5 [84] stk b):=by
 unfold zat
 rcases ziM stk with rfl |⟨r,t,rfl⟩
 ·rfl
 ·have hl:((r++[t]).length:Int)=(r.length:Int)+1:=by simp
  have h0:(((r++[t]).length:Int) == 0)=false:=beq_eq_false_iff_ne.2 (by omega)
  have hw:IntKind.i64.wrap (((r++[t]).length:Int)-1)=(r.length:Int):=by
   rw [hl,znG (by omega) (by simp at hs;omega)];omega
  rw [h0,hw,zlQ,zw]
  have h1:(r++[t])[r.length]?=some t:=by simp
  have h2:zkS (r++[t]) 0 (r.length:Int)=some r:=by
   unfold zkS;rw [if_pos ⟨by omega,by omega,by omega⟩];simp
  rw [h1,h2];rfl
theorem zfS{t:Tx}(hs:stk.length≤1000):zI L m c mt loc stk b t=some (stk++[t]):=by
 unfold zI zhj;rw [if_pos (by simp;omega)];rfl
theorem zs9{x:List Tx}(hs:x.length≤1000):zkx x=some x:=by
 unfold zkx zhj;rw [if_pos (by simp;omega)];rfl
def zap(L:List za)(e:Tx):List Tx→List Tx→Bool→List Tx×Bool
 | [],s,b=>(s,b)
 |w ::r,s,b=>zap L e r (zb5 e s b).2.1 ((zb5 e s b).2.2||!znR L (zb5 e s b).1 w)
theorem zeA{e:Tx}(he:e.length≤25):∀(ts s:List Tx) (b:Bool),ShL s→ShL (zap L e ts s b).1:=by
 intro ts
 induction ts with
 |nil=>intro s b h;exact h
 |cons w r ih=>intro s b h;exact ih _ _ (zey h he).2
theorem zbH{e:Tx}:∀(ts s:List Tx) (b:Bool),b=true→(zap L e ts s b).2=true:=by
 intro ts
 induction ts with
 |nil=>intro s b h;exact h
 |cons w r ih=>intro s b h;exact ih _ _ (by rw [zhN h];rfl)
theorem zEM(h:zct l L)(hm:zaW L m){ts:List Tx}(ht:ShL ts):∀(k:Nat),k≤ts.length→∀(s:List Tx) (b:Bool),ShL s →
  zr (fun z=>zaV L m c mt loc ts z.1 z.2.1 z.2.2) (s,b,(k:Int)-1)=some (.inl (zap L [84] (ts.take k).reverse s b)):=by
 intro k
 induction k with
 |zero =>
  intro _ s b hs;rw [zR];show (zaV L m c mt loc ts s b (((0:Nat):Int)-1)).bind _=_;unfold zaV;rw [decide_eq_false (by omega)];rfl
 |succ k ih =>
  intro hk s b hs;rw [zR];show (zaV L m c mt loc ts s b (((k+1:Nat):Int)-1)).bind _=_
  have e1:(((k+1:Nat):Int)-1)=(k:Int):=by omega
  have hlt:k<ts.length:=by omega
  obtain ⟨h1,h2⟩:=zey (b:=b) hs (e:=[84]) (by decide);have hw:IntKind.i64.wrap ((k:Int)-1)=(k:Int)-1:=znG (by omega) (by have:=ht.1;omega)
  have step:zaV L m c mt loc ts s b (((k+1:Nat):Int)-1)=some (.inl ((zb5 [84] s b).2.1,(zb5 [84] s b).2.2||!znR L (zb5 [84] s b).1 ts[k],(k:Int)-1)):=by
   unfold zaV;rw [e1,decide_eq_true (by omega),zw,Qe hlt,zn5 (by have:=hs.1;omega)];simp only [cond_true,Qa];rw [zqB h hm h1 (ht.2 _ (Qi hlt)),hw];rfl
  rw [step];simp only [Qa,JM];rw [show zr (fun z=>zaV L m c mt loc ts z.1 z.2.1 z.2.2) ((zb5 [84] s b).2.1,(zb5 [84] s b).2.2||!znR L (zb5 [84] s b).1 ts[k],(k:Int)-1)=_ from ih (by omega) _ _ h2]
  have e2:(ts.take (k+1)).reverse=ts[k]::(ts.take k).reverse:=by
   rw [Yb,Qe hlt];simp
  rw [e2];rfl
theorem zgA(h:zct l L)(hm:zaW L m){ts:List Tx}(ht:ShL ts)(hs:ShL stk):zP L m c mt loc stk b ts=some (zap L [84] ts.reverse stk b):=by
 unfold zP;have hw:IntKind.i64.wrap ((ts.length:Int)-1)=(ts.length:Int)-1:=znG (by omega) (by have:=ht.1;omega);rw [hw,show zr (fun z=>zaV L m c mt loc ts z.1 z.2.1 z.2.2) (stk,b,(ts.length:Int)-1)=_ from zEM h hm ht ts.length (Qg _) stk b hs,Yk];rfl
end
theorem sh1{t:Tx}(h:t.length≤25):ShL [t]:=⟨by simp,fun x hx=>by rw [QV.1 hx];exact h⟩
theorem sh2{t u:Tx}(h:t.length≤25)(k:u.length≤25):ShL [t,u]:=⟨by simp,fun x hx=>by
 rcases Qr.1 hx with rfl |hx
 ·exact h
 ·rw [QV.1 hx];exact k⟩
theorem sh3{t u v:Tx}(h:t.length≤25)(k:u.length≤25)(j:v.length≤25):ShL [t,u,v]:=⟨by simp,fun x hx=>by
 rcases Qr.1 hx with rfl |hx
 ·exact h
 ·exact (sh2 k j).2 x hx⟩
theorem ShL.len{l:List Tx}(h:ShL l):l.length≤1000:=by have:=h.1;omega
theorem zwl{t:Tx}(h:t.length≤25):Len t:=by
 show t.length≤9223372036854775807;omega
section
variable {l L : List za} {m : List (Tx × Int)} {c : Tx} {mt : zc} {loc stk : List Tx} {b : Bool}
def zia(e:Tx)(s:List Tx)(b:Bool):Tx×List Tx×Bool:=
 ((zb5 e s b).1,(zb5 e s b).2.1,(zb5 e s b).2.2||!(((zb5 e s b).1 == [78])||zsf (zb5 e s b).1))
theorem ztM{e:Tx}{s:List Tx}{b:Bool}(h:ShL s)(he:e.length≤25):(zia e s b).1.length≤25∧ShL (zia e s b).2.1:=zey h he
theorem zsJ(hs:ShL stk):zcs L m c mt loc stk b=some (zia [84] stk b):=by
 unfold zcs zia;obtain ⟨h1,h2⟩:=zey (b:=b) hs (e:=[84]) (by decide);rw [zn5 hs.len];simp only [Qa];rw [ziF (zwl h1)];cases (zb5 [84] stk b).1 == [78] <;> rfl
def zlp(e:Tx)(s:List Tx)(b:Bool):Tx×List Tx×Bool:=
 (cond ((zb5 e s b).1 == [78]) (zb5 e s b).1 (zfg (zb5 e s b).1).1,(zb5 e s b).2.1,(zb5 e s b).2.2||!(((zb5 e s b).1 == [78])||((zfg (zb5 e s b).1).2&&!((zfg (zb5 e s b).1).1 == [73]))))
theorem zzp{t:Tx}(h:t.length≤25):(zfg t).1.length≤25:=by
 unfold zfg;cases zgm t&&brk t
 ·exact Qv _
 ·show (t.drop 1).length≤25;simp;omega
theorem zvw{e:Tx}{s:List Tx}{b:Bool}(h:ShL s)(he:e.length≤25):(zlp e s b).1.length≤25∧ShL (zlp e s b).2.1:=by
 obtain ⟨h1,h2⟩:=zey (b:=b) h he;refine ⟨?_,h2⟩;unfold zlp;cases (zb5 e s b).1 == [78]
 ·exact zzp h1
 ·exact h1
theorem zwB(hs:ShL stk):zet L m c mt loc stk b=some (zlp [84] stk b):=by
 unfold zet zlp;obtain ⟨h1,h2⟩:=zey (b:=b) hs (e:=[84]) (by decide);rw [zn5 hs.len];simp only [Qa];rw [zgp (zwl h1)];cases (zb5 [84] stk b).1 == [78] <;> rfl
theorem zle(e f:Tx)(s:List Tx)(b:Bool):(zb5 e s b).2=(zb5 f s b).2:=by
 unfold zb5;split <;> rfl
theorem zgf(e f:Tx)(s:List Tx)(b:Bool)(h:(zb5 e s b).2.2=false):(zb5 e s b).1=(zb5 f s b).1:=by
 unfold zb5 at h ⊢;split
 ·rfl
 ·rename_i hq;rw [hq] at h;cases h
theorem zrs{a p q:Bool}(h:a=false→p=q):(a||p)=(a||q):=by
 cases a
 ·rw [h rfl]
 ·rfl
theorem zfV(e f:Tx):∀(ts s:List Tx) (b:Bool),zap L e ts s b=zap L f ts s b:=by
 intro ts
 induction ts with
 |nil=>intro s b;rfl
 |cons w r ih =>
  intro s b;show zap L e r (zb5 e s b).2.1 ((zb5 e s b).2.2||!znR L (zb5 e s b).1 w)=zap L f r (zb5 f s b).2.1 ((zb5 f s b).2.2||!znR L (zb5 f s b).1 w);rw [ih,←zle e f s b,zrs (fun h=>by rw [zgf e f s b h])]
theorem zDs(e f:Tx)(s:List Tx)(b:Bool):(zia e s b).2=(zia f s b).2:=by
 unfold zia;rw [←zle e f s b,zrs (fun h=>by rw [zgf e f s b h])]
theorem zys(e f:Tx)(s:List Tx)(b:Bool)(h:(zia e s b).2.2=false):(zia e s b).1=(zia f s b).1:=
 zgf e f s b (by unfold zia at h;simp only [Qo] at h;exact h.1)
theorem zC3(e f:Tx)(s:List Tx)(b:Bool):(zlp e s b).2=(zlp f s b).2:=by
 unfold zlp;rw [←zle e f s b,zrs (fun h=>by rw [zgf e f s b h])]
theorem zxO(e f:Tx)(s:List Tx)(b:Bool)(h:(zlp e s b).2.2=false):(zlp e s b).1=(zlp f s b).1:=by
 have h1:(zb5 e s b).2.2=false:=by unfold zlp at h;simp only [Qo] at h;exact h.1
 unfold zlp;rw [zgf e f s b h1]
end
section
variable {l L : List za} {c : Tx} {mt : zc} {loc stk : List Tx} {b : Bool}
theorem zkf(hs:stk.length≤1000):zaO L c mt loc stk b=some (zb5 [78] stk b):=by
 unfold zaO
 rcases ziM stk with rfl |⟨r,t,rfl⟩
 ·rfl
 ·have hl:((r++[t]).length:Int)=(r.length:Int)+1:=by simp
  have h0:(((r++[t]).length:Int) == 0)=false:=beq_eq_false_iff_ne.2 (by omega)
  have hw:IntKind.i64.wrap (((r++[t]).length:Int)-1)=(r.length:Int):=by
   rw [hl,znG (by omega) (by simp at hs;omega)];omega
  rw [h0,hw,zlQ,zw]
  have h1:(r++[t])[r.length]?=some t:=by simp
  have h2:zkS (r++[t]) 0 (r.length:Int)=some r:=by
   unfold zkS;rw [if_pos ⟨by omega,by omega,by omega⟩];simp
  rw [h1,h2];rfl
theorem zCu(h:zct l L){ts:List Tx}(ht:ShL ts):∀(k:Nat),k≤ts.length→∀(s:List Tx) (b:Bool),ShL s →
  zr (fun z=>zbd L c mt loc ts z.1 z.2.1 z.2.2) (s,b,(k:Int)-1)=some (.inl (zap L [78] (ts.take k).reverse s b)):=by
 intro k
 induction k with
 |zero =>
  intro _ s b hs;rw [zR];show (zbd L c mt loc ts s b (((0:Nat):Int)-1)).bind _=_;unfold zbd;rw [decide_eq_false (by omega)];rfl
 |succ k ih =>
  intro hk s b hs;rw [zR];show (zbd L c mt loc ts s b (((k+1:Nat):Int)-1)).bind _=_
  have e1:(((k+1:Nat):Int)-1)=(k:Int):=by omega
  have hlt:k<ts.length:=by omega
  obtain ⟨h1,h2⟩:=zey (b:=b) hs (e:=[78]) (by decide);have hw:IntKind.i64.wrap ((k:Int)-1)=(k:Int)-1:=znG (by omega) (by have:=ht.1;omega)
  have step:zbd L c mt loc ts s b (((k+1:Nat):Int)-1)=some (.inl ((zb5 [78] s b).2.1,(zb5 [78] s b).2.2||!znR L (zb5 [78] s b).1 ts[k],(k:Int)-1)):=by
   unfold zbd;rw [e1,decide_eq_true (by omega),zw,Qe hlt,zkf hs.len];simp only [cond_true,Qa];rw [zib h h1 (ht.2 _ (Qi hlt)),hw];rfl
  rw [step];simp only [Qa,JM];rw [show zr (fun z=>zbd L c mt loc ts z.1 z.2.1 z.2.2) ((zb5 [78] s b).2.1,(zb5 [78] s b).2.2||!znR L (zb5 [78] s b).1 ts[k],(k:Int)-1)=_ from ih (by omega) _ _ h2]
  have e2:(ts.take (k+1)).reverse=ts[k]::(ts.take k).reverse:=by
   rw [Yb,Qe hlt];simp
  rw [e2];rfl
theorem zfd(h:zct l L){ts:List Tx}(ht:ShL ts)(hs:ShL stk):zab L c mt loc stk b ts=some (zap L [78] ts.reverse stk b):=by
 unfold zab;have hw:IntKind.i64.wrap ((ts.length:Int)-1)=(ts.length:Int)-1:=znG (by omega) (by have:=ht.1;omega);rw [hw,show zr (fun z=>zbd L c mt loc ts z.1 z.2.1 z.2.2) (stk,b,(ts.length:Int)-1)=_ from zCu h ht ts.length (Qg _) stk b hs,Yk];rfl
def zqn(most:Int)(s:List Tx)(b:Bool)(t:Tx):List Tx×Bool:=(s++[t],b||!decide (((s++[t]).length:Int)≤most))
theorem zfT{t:Tx}(hs:stk.length≤1000):zW L c mt loc stk b t=some (zqn mt.Stack stk b t):=by
 unfold zW zqn zhj;rw [if_pos (by simp;omega)];simp only [Jx,Qa];rw [if_pos (by simp;omega)];rfl
def zoR(s:List Tx)(b:Bool):Tx×List Tx×Bool:=((zb5 [78] s b).1,(zb5 [78] s b).2.1,(zb5 [78] s b).2.2||!(!((zb5 [78] s b).1 == [73])))
theorem zoS(hs:ShL stk):zcD L c mt loc stk b=some (zoR stk b):=by
 unfold zcD;rw [zkf hs.len];rfl
theorem zzk{p q:List Tx}(hp:p.length≤1000)(hq:q.length≤1000):zgh (zkY.mk p q)=some (p,q):=by
 unfold zgh zhj;simp only;rw [if_pos (by simp;omega),if_pos (by simp;omega)];rfl
end
def zpJ(most:Int)(p r:List Tx×List Tx×Bool):Prop:=
 (p.2.2||!decide ((p.2.1.length:Int)≤most))=r.2.2∧(r.2.2=false→p.1=r.1∧p.2.1=r.2.1)
section
variable {L : List za} {most : Int} {loc s : List Tx} {b : Bool}
theorem zfF(t:Tx):zpJ most (loc,s++[t],b) (loc,(zqn most s b t).1,(zqn most s b t).2):=⟨rfl,fun _=>⟨rfl,rfl⟩⟩
theorem zvb(t u:Tx):zpJ most (loc,s++[t]++[u],b) (loc,(zqn most (zqn most s b t).1 (zqn most s b t).2 u).1,(zqn most (zqn most s b t).1 (zqn most s b t).2 u).2):=by
 refine ⟨?_,fun _=>⟨rfl,rfl⟩⟩;show (b||!decide (((s++[t]++[u]).length:Int)≤most))=((b||!decide (((s++[t]).length:Int)≤most))||!decide (((s++[t]++[u]).length:Int)≤most));by_cases h:((s++[t]++[u]).length:Int)≤most
 ·have h2:((s++[t]).length:Int)≤most:=by simp at h ⊢;omega
  rw [decide_eq_true h,decide_eq_true h2];simp
 ·rw [decide_eq_false h];simp
theorem zgi(h:b=false→(s.length:Int)≤most):zpJ most (loc,s,b) (loc,s,b):=by
 refine ⟨?_,fun _=>⟨rfl,rfl⟩⟩;show (b||!decide ((s.length:Int)≤most))=b
 cases b with
 |true=>rfl
 |false=>rw [decide_eq_true (h rfl)];rfl
theorem zg2{p r:List Tx×List Tx×Bool}(hp:p.2.2=true)(hr:r.2.2=true):zpJ most p r:=
 ⟨by rw [hp,hr];rfl,fun h=>by rw [hr] at h;cases h⟩
theorem zrt(e:Tx)(s:List Tx)(b:Bool):(zb5 e s b).2.1.length≤s.length:=by
 rcases ziM s with rfl |⟨r,t,rfl⟩
 ·exact Qg _
 ·rw [zlQ];simp
theorem zkL(e:Tx):∀(ts s:List Tx) (b:Bool),(zap L e ts s b).1.length≤s.length:=by
 intro ts
 induction ts with
 |nil=>intro s b;exact Qg _
 |cons w r ih=>intro s b;exact QI (ih _ _) (zrt e s b)
theorem zAX(e w w':Tx)(s:List Tx)(b:Bool):zap L e [w,w'] s b=zap L e [w'] (zap L e [w] s b).1 (zap L e [w] s b).2:=rfl
end
def onS(t:Tx):Prop:=t=[78]∨zgm t=true
theorem zpw{s:List Tx}{b:Bool}(h:∀t∈s,onS t):(zoR s b).2=(zia [84] s b).2∧((zoR s b).2.2=false→(zoR s b).1=(zia [84] s b).1):=by
 have key:(zoR s b).2=(zia [78] s b).2:=by
  unfold zoR zia
  rcases ziM s with rfl |⟨r,t,rfl⟩
  ·rfl
  ·rw [zlQ];have ht:=h t (by simp);show (r,b||!(!(t == [73])))=(r,b||!((t == [78])||zsf t))
   rcases ht with rfl |ht
   ·rfl
   ·unfold zsf;rw [ht]
    have:(t == [78])=false:=beq_eq_false_iff_ne.2 fun e=>by rw [e,zEp] at ht;cases ht
    rw [this];cases t == [73] <;> rfl
 refine ⟨key.trans (zDs [78] [84] s b),fun hf=>?_⟩
 have:(zoR s b).2.2=(zia [84] s b).2.2:=by rw [key,zDs [78] [84] s b]
 rw [this] at hf;exact (zys [84] [78] s b hf).symm
def zBp(t:Tx):Prop:=t.length≤25∧onS t
theorem zmF:zBp [73]:=⟨by decide,.inr (by decide +kernel)⟩
theorem zBJ:zBp [78]:=⟨by decide,.inl rfl⟩
theorem zx2{t:Tx}(h:zgm t=true)(hl:t.length≤25):zBp t:=⟨hl,.inr h⟩
def znA(loc stk:List Tx)(b:Bool)(p:List Tx×List Tx×Bool):Prop:=
 (b=true→p.2.2=true) ∧
 (p.1.length=loc.length∧p.2.1.length≤stk.length+2∧(∀t∈p.1,t.length≤25)∧∀t∈p.2.1,t.length≤25) ∧
 (p.2.2=false→(∀t∈p.2.1,t∈stk∨zBp t)∧∀t∈p.1,t∈loc∨t∈stk)
theorem zhO(e:Tx)(s:List Tx)(b:Bool):(zb5 e s b).2.1<+:s:=by
 rcases ziM s with rfl |⟨r,t,rfl⟩
 ·exact QP _
 ·rw [zlQ];exact List.prefix_append _ _
theorem zmW{e:Tx}{s:List Tx}{b:Bool}(h:(zb5 e s b).2.2=false):(zb5 e s b).1∈s:=by
 rcases ziM s with rfl |⟨r,t,rfl⟩
 ·cases h
 ·rw [zlQ];simp
theorem zlV(e:Tx)(s:List Tx)(b:Bool):(zia e s b).2.1<+:s:=zhO e s b
theorem zwy(e:Tx)(s:List Tx)(b:Bool):(zlp e s b).2.1<+:s:=zhO e s b
theorem znw{e:Tx}{s:List Tx}{b:Bool}(h:b=true):(zia e s b).2.2=true:=by unfold zia;rw [zhN h];rfl
theorem zwx{e:Tx}{s:List Tx}{b:Bool}(h:b=true):(zlp e s b).2.2=true:=by unfold zlp;rw [zhN h];rfl
theorem zd8(L:List za)(e:Tx):∀(ts s:List Tx) (b:Bool),(zap L e ts s b).1<+:s:=by
 intro ts
 induction ts with
 |nil=>intro s b;exact QP _
 |cons w r ih=>intro s b;exact (ih _ _).trans (zhO e s b)
section
variable {L : List za} {loc stk s : List Tx} {b0 b : Bool}
theorem zga(hb0:b0=true→b=true)(hl:ShL loc)(hs:ShL stk)(h:s<+:stk):znA loc stk b0 (loc,s,b):=
 ⟨hb0,⟨rfl,by have:=h.length_le;show s.length≤_;omega,hl.2,fun t ht=>hs.2 t (h.subset ht)⟩,fun _=>⟨fun t ht=>.inl (h.subset ht),fun t ht=>.inl ht⟩⟩
theorem ze9{u:Tx}(hb0:b0=true→b=true)(hl:ShL loc)(hs:ShL stk)(h:s<+:stk)(h1:u.length≤25)(hu:b=false→u∈stk∨zBp u):znA loc stk b0 (loc,s++[u],b):=
 ⟨hb0,⟨rfl,by have:=h.length_le;show (s++[u]).length≤_;simp;omega,hl.2,fun t ht=>by
  rcases Qu.1 ht with k |k
  ·exact hs.2 t (h.subset k)
  ·rw [QV.1 k];exact h1⟩,fun hb=>⟨fun t ht=>by
  rcases Qu.1 ht with k |k
  ·exact .inl (h.subset k)
  ·rw [QV.1 k];exact hu hb,fun t ht=>.inl ht⟩⟩
theorem zux{u v:Tx}(hb0:b0=true→b=true)(hl:ShL loc)(hs:ShL stk)(h:s<+:stk)(h1:u.length≤25)(hu:b=false→u∈stk∨zBp u)(h2:v.length≤25)(hv:b=false→v∈stk∨zBp v):znA loc stk b0 (loc,s++[u]++[v],b):=
 ⟨hb0,⟨rfl,by have:=h.length_le;show (s++[u]++[v]).length≤_;simp;omega,hl.2,fun t ht=>by
  rcases Qu.1 ht with k |k
  ·rcases Qu.1 k with k |k
   ·exact hs.2 t (h.subset k)
   ·rw [QV.1 k];exact h1
  ·rw [QV.1 k];exact h2⟩,fun hb=>⟨fun t ht=>by
  rcases Qu.1 ht with k |k
  ·rcases Qu.1 k with k |k
   ·exact .inl (h.subset k)
   ·rw [QV.1 k];exact hu hb
  ·rw [QV.1 k];exact hv hb,fun t ht=>.inl ht⟩⟩
theorem zsy{k:Nat}{u:Tx}(hb0:b0=true→b=true)(hl:ShL loc)(hs:ShL stk)(h:s<+:stk)(h1:u.length≤25)(hu:b=false→u∈stk):znA loc stk b0 (loc.set k u,s,b):=
 ⟨hb0,⟨Q3 ..,by have:=h.length_le;show s.length≤_;omega,fun t ht=>by
  rcases J9 ht with k |rfl
  ·exact hl.2 t k
  ·exact h1,fun t ht=>hs.2 t (h.subset ht)⟩,fun hb=>⟨fun t ht=>.inl (h.subset ht),fun t ht=>by
  rcases J9 ht with k |rfl
  ·exact .inl k
  ·exact .inr (hu hb)⟩⟩
end
theorem bt{n a b:Int}(h:a≤n∧n≤b):zaJ n a b=true:=by
 unfold zaJ;rw [decide_eq_true h.1,decide_eq_true h.2];rfl
theorem bf{n a b:Int}(h:¬(a≤n∧n≤b)):zaJ n a b=false:=by
 unfold zaJ;rw [Yt,decide_eq_false_iff_not,decide_eq_false_iff_not];omega
theorem ct{n a b:Int}(h:a≤n∧n≤b):(decide (a≤n)&&decide (n≤b))=true:=bt h
theorem cf{n a b:Int}(h:¬(a≤n∧n≤b)):(decide (a≤n)&&decide (n≤b))=false:=bf h
theorem qt{n k:Int}(h:n=k):(n == k)=true:=by rw [h];exact beq_self_eq_true k
theorem qf{n k:Int}(h:n≠k):(n == k)=false:=beq_eq_false_iff_ne.2 h
structure zf1(l L:List za)(m:List (Tx×Int))(mt:zc)(loc stk:List Tx)(b:Bool):Prop where
 made:zct l L
 map:zaW L m
 lens:znd L
 shL:ShL loc
 shS:ShL stk
 on:∀t∈stk,onS t
 room:(stk.length:Int)≤mt.Stack
 onL:∀t∈loc,t=[84]∨onS t
section
variable {l L : List za} {m : List (Tx × Int)} {c : Tx} {mt : zc} {loc stk : List Tx} {b : Bool} {x : zn}
theorem zyA(h:zf1 l L m mt loc stk b)(ho:8≤x.Op∧x.Op≤19):
  ∃p r,zk L m c mt loc stk b x=some p∧zp L c mt loc stk b x=some r∧zpJ mt.Stack p r∧znA loc stk b p:=by
 have h73:([73]:Tx).length≤25:=by decide
 by_cases hn:x.Op=13
 ·refine ⟨(loc,(zap L [84] [[73]] stk b).1++[[73]],(zap L [84] [[73]] stk b).2),_,?_,?_,zfF _,ze9 (zbH _ _ _) h.shL h.shS (zd8 _ _ _ _ _) (by decide) fun _=>.inr zmF⟩
  ·unfold zk;rw [bf (by omega),qt hn,zgA h.made h.map (sh1 h73) h.shS];simp only [cond_false,cond_true,Qa,Qy];rw [zfS (zeA (by decide) _ _ _ h.shS).len];rfl
  ·unfold zp;rw [ct ho,zfd h.made (sh1 h73) h.shS,qt hn];simp only [cond_false,cond_true,Qa,Qy,Qp];unfold zfC;rw [zfT (zeA (by decide) _ _ _ h.shS).len,zfV [78] [84]];rfl
 ·refine ⟨(loc,(zap L [84] [[73],[73]] stk b).1++[[73]],(zap L [84] [[73],[73]] stk b).2),_,?_,?_,zfF _,ze9 (zbH _ _ _) h.shL h.shS (zd8 _ _ _ _ _) (by decide) fun _=>.inr zmF⟩
  ·unfold zk;rw [bf (by omega),qf hn,bt ho,zgA h.made h.map (sh2 h73 h73) h.shS];simp only [cond_false,cond_true,Qa];rw [show ([[73],[73]]:List Tx).reverse=[[73],[73]] from rfl,zfS (zeA (by decide) _ _ _ h.shS).len];rfl
  ·unfold zp;have hs:=zeA (L:=L) (e:=[78]) (by decide) [[73]] stk b h.shS;rw [ct ho,zfd h.made (sh1 h73) h.shS,qf hn];simp only [cond_false,cond_true,Qa,Qy,QB];rw [zfd h.made (sh1 h73) hs];simp only [Qa,Qy];unfold zfC;rw [zfT (zeA (by decide) _ _ _ hs).len];rw [←zAX,zfV [78] [84]];rfl
theorem instr_plain(h1:¬(8≤x.Op∧x.Op≤45))(h2:¬(49≤x.Op∧x.Op≤55)):zp L c mt loc stk b x=(zaa L c mt loc stk b x).bind fun v=>some (v.1,v.2.1,v.2.2):=by
 unfold zp;rw [cf (by omega),cf (by omega),qf (show x.Op≠20 by omega),cf (by omega),cf (by omega),cf (by omega)];rfl
theorem zlO(h:1≤x.Op∧x.Op≤7):zk L m c mt loc stk b x=(za6 L m c mt loc stk b x).bind fun v=>some (v.1,v.2.1,v.2.2):=by
 unfold zk;rw [bt h];rfl
theorem zpp(h:56≤x.Op∧x.Op≤61):zk L m c mt loc stk b x=(zcf L m c mt loc stk b x).bind fun v=>some (loc,v.1,v.2):=by
 unfold zk;rw [bf (by omega),qf (by omega),bf (by omega),qf (by omega),bf (by omega),bf (by omega),bf (by omega),bf (by omega),qf (by omega),bf (by omega),bf (by omega),bf (by omega),bf (by omega)];rfl
theorem zyB(h:zf1 l L m mt loc stk b)(ho:x.Op=1∨x.Op=2):
  ∃p r,zk L m c mt loc stk b x=some p∧zp L c mt loc stk b x=some r∧zpJ mt.Stack p r∧znA loc stk b p:=by
 rcases ho with ho |ho
 ·refine ⟨(loc,stk++[[73]],b),_,?_,?_,zfF _,ze9 id h.shL h.shS (QP _) (by decide) fun _=>.inr zmF⟩
  ·rw [zlO (by omega)];unfold za6;rw [qt ho,zfS h.shS.len];rfl
  ·rw [instr_plain (by omega) (by omega)];unfold zaa;rw [qt ho,zfT h.shS.len];rfl
 ·refine ⟨(loc,stk++[[78]],b),_,?_,?_,zfF _,ze9 id h.shL h.shS (QP _) (by decide) fun _=>.inr zBJ⟩
  ·rw [zlO (by omega)];unfold za6;rw [qf (show x.Op≠1 by omega),qt ho];simp only [cond_false,cond_true];rw [zfS h.shS.len];rfl
  ·rw [instr_plain (by omega) (by omega)];unfold zaa;rw [qf (show x.Op≠1 by omega),qt ho];simp only [cond_false,cond_true];rw [zfT h.shS.len];rfl
theorem zCJ(h:zf1 l L m mt loc stk b)(ho:x.Op=5):
  ∃p r,zk L m c mt loc stk b x=some p∧zp L c mt loc stk b x=some r∧zpJ mt.Stack p r∧znA loc stk b p:=by
 obtain ⟨g1,g2⟩:=zey (b:=b) h.shS (e:=[84]) (by decide);obtain ⟨k1,k2⟩:=zey (b:=b) h.shS (e:=[78]) (by decide)
 ·refine ⟨(loc,(zb5 [84] stk b).2.1,(zb5 [84] stk b).2.2),(loc,(zb5 [84] stk b).2.1,(zb5 [84] stk b).2.2),?_,?_,zgi fun _=>?_,zga zhN h.shL h.shS (zhO _ _ _)⟩
  ·rw [zlO (by omega)];unfold za6;rw [qf (show x.Op≠1 by omega),qf (show x.Op≠2 by omega),qf (show x.Op≠3 by omega),qf (show x.Op≠4 by omega),qt ho];simp only [cond_false,cond_true];rw [zn5 h.shS.len];rfl
  ·rw [instr_plain (by omega) (by omega)];unfold zaa;rw [qf (show x.Op≠1 by omega),qf (show x.Op≠2 by omega),qf (show x.Op≠3 by omega),qf (show x.Op≠4 by omega),qt ho];simp only [cond_false,cond_true];rw [zkf h.shS.len,zle [84] [78]];rfl
  ·have:=zrt [84] stk b;have:=h.room;omega
end
section
variable {l L : List za} {m : List (Tx × Int)} {c : Tx} {mt : zc} {loc stk : List Tx} {b : Bool} {x : zn}
theorem zpt{most:Int}{s:List Tx}{b:Bool}{t:Tx}(h:b=true):(zqn most s b t).2=true:=by
 unfold zqn;rw [h];rfl
theorem zCG(h:zf1 l L m mt loc stk b)(ho:x.Op=6):
  ∃p r,zk L m c mt loc stk b x=some p∧zp L c mt loc stk b x=some r∧zpJ mt.Stack p r∧znA loc stk b p:=by
 obtain ⟨g1,g2⟩:=zey (b:=b) h.shS (e:=[84]) (by decide);obtain ⟨k1,k2⟩:=zey (b:=b) h.shS (e:=[78]) (by decide)
 refine ⟨(loc,(zb5 [84] stk b).2.1++[(zb5 [84] stk b).1]++[(zb5 [84] stk b).1],(zb5 [84] stk b).2.2),
  (loc,(zqn mt.Stack (zqn mt.Stack (zb5 [78] stk b).2.1 (zb5 [78] stk b).2.2 (zb5 [78] stk b).1).1 (zqn mt.Stack (zb5 [78] stk b).2.1 (zb5 [78] stk b).2.2 (zb5 [78] stk b).1).2 (zb5 [78] stk b).1).1,
   (zqn mt.Stack (zqn mt.Stack (zb5 [78] stk b).2.1 (zb5 [78] stk b).2.2 (zb5 [78] stk b).1).1 (zqn mt.Stack (zb5 [78] stk b).2.1 (zb5 [78] stk b).2.2 (zb5 [78] stk b).1).2 (zb5 [78] stk b).1).2),?_,?_,?_,zux zhN h.shL h.shS (zhO _ _ _) g1 (fun hb=>.inl (zmW hb)) g1 fun hb=>.inl (zmW hb)⟩
 ·rw [zlO (by omega)];unfold za6;rw [qf (show x.Op≠1 by omega),qf (show x.Op≠2 by omega),qf (show x.Op≠3 by omega),qf (show x.Op≠4 by omega),qf (show x.Op≠5 by omega),qt ho];simp only [cond_false,cond_true];rw [zn5 h.shS.len];simp only [Qa];rw [zfS g2.len];simp only [Qa];rw [zfS (by have:=g2.1;simp;omega)];rfl
 ·rw [instr_plain (by omega) (by omega)];unfold zaa;rw [qf (show x.Op≠1 by omega),qf (show x.Op≠2 by omega),qf (show x.Op≠3 by omega),qf (show x.Op≠4 by omega),qf (show x.Op≠5 by omega),qt ho];simp only [cond_false,cond_true];rw [zkf h.shS.len];simp only [Qa];rw [zfT k2.len];simp only [Qa];rw [zfT (by have:=k2.1;show ((zb5 [78] stk b).2.1++[(zb5 [78] stk b).1]).length≤1000;simp;omega)];rfl
 ·cases hb:(zb5 [84] stk b).2.2 with
  |true =>
   refine zg2 rfl ?_
   have:(zb5 [78] stk b).2.2=true:=by rw [←zle [84] [78]];exact hb
   exact zpt (zpt this)
  |false =>
   have e1:=zgf [84] [78] stk b hb;have e2:=zle [84] [78] stk b;rw [←e1,←e2,hb];exact zvb _ _
theorem zxi{e:Tx}{s:List Tx}{b:Bool}(h:(zb5 e s b).2.2=false):b=false:=by
 cases b with
 |false=>rfl
 |true=>rw [zhN rfl] at h;cases h
theorem zAS(h:zf1 l L m mt loc stk b)(ho:x.Op=7):
  ∃p r,zk L m c mt loc stk b x=some p∧zp L c mt loc stk b x=some r∧zpJ mt.Stack p r∧znA loc stk b p:=by
 obtain ⟨g1,g2⟩:=zey (b:=b) h.shS (e:=[84]) (by decide);obtain ⟨k1,k2⟩:=zey (b:=b) h.shS (e:=[78]) (by decide);generalize hP:zb5 [84] stk b=P at g1 g2;generalize hR:zb5 [78] stk b=R at k1 k2;obtain ⟨g3,g4⟩:=zey (b:=P.2.2) g2 (e:=[84]) (by decide);obtain ⟨k3,k4⟩:=zey (b:=R.2.2) k2 (e:=[78]) (by decide)
 have hPs:P.2.1<+:stk:=by rw [←hP];exact zhO _ _ _
 have hPb:b=true→P.2.2=true:=by rw [←hP];exact zhN
 have hPi:P.2.2=false→P.1∈stk:=by rw [←hP];exact zmW
 refine ⟨(loc,(zb5 [84] P.2.1 P.2.2).2.1++[P.1]++[(zb5 [84] P.2.1 P.2.2).1],(zb5 [84] P.2.1 P.2.2).2.2),
  (loc,(zqn mt.Stack (zqn mt.Stack (zb5 [78] R.2.1 R.2.2).2.1 (zb5 [78] R.2.1 R.2.2).2.2 R.1).1 (zqn mt.Stack (zb5 [78] R.2.1 R.2.2).2.1 (zb5 [78] R.2.1 R.2.2).2.2 R.1).2 (zb5 [78] R.2.1 R.2.2).1).1,
   (zqn mt.Stack (zqn mt.Stack (zb5 [78] R.2.1 R.2.2).2.1 (zb5 [78] R.2.1 R.2.2).2.2 R.1).1 (zqn mt.Stack (zb5 [78] R.2.1 R.2.2).2.1 (zb5 [78] R.2.1 R.2.2).2.2 R.1).2 (zb5 [78] R.2.1 R.2.2).1).2),?_,?_,?_,zux (fun e=>zhN (hPb e)) h.shL h.shS ((zhO _ _ _).trans hPs) g1 (fun hb=>.inl (hPi (zxi hb))) g3 fun hb=>.inl (hPs.subset (zmW hb))⟩
 ·rw [zlO (by omega)];unfold za6;rw [qf (show x.Op≠1 by omega),qf (show x.Op≠2 by omega),qf (show x.Op≠3 by omega),qf (show x.Op≠4 by omega),qf (show x.Op≠5 by omega),qf (show x.Op≠6 by omega),qt ho];simp only [cond_false,cond_true];rw [zn5 h.shS.len,hP];simp only [Qa];rw [zn5 g2.len];simp only [Qa];rw [zfS g4.len];simp only [Qa];rw [zfS (by have:=g4.1;simp;omega)];rfl
 ·rw [instr_plain (by omega) (by omega)];unfold zaa;rw [qf (show x.Op≠1 by omega),qf (show x.Op≠2 by omega),qf (show x.Op≠3 by omega),qf (show x.Op≠4 by omega),qf (show x.Op≠5 by omega),qf (show x.Op≠6 by omega),qt ho];simp only [cond_false,cond_true];rw [zkf h.shS.len,hR];simp only [Qa];rw [zkf k2.len];simp only [Qa];rw [zfT k4.len];simp only [Qa];rw [zfT (by have:=k4.1;show ((zb5 [78] R.2.1 R.2.2).2.1++[R.1]).length≤1000;simp;omega)];rfl
 ·have e2:P.2=R.2:=by rw [←hP,←hR];exact zle [84] [78] stk b
  cases hb:(zb5 [84] P.2.1 P.2.2).2.2 with
  |true =>
   refine zg2 rfl ?_
   have:(zb5 [78] R.2.1 R.2.2).2.2=true:=by rw [←e2,←zle [84] [78]];exact hb
   exact zpt (zpt this)
  |false =>
   have e1:P.1=R.1:=by
    rw [←hP,←hR];exact zgf [84] [78] stk b (by rw [hP];exact zxi hb)
   have e3:=zgf [84] [78] P.2.1 P.2.2 hb;have e4:=zle [84] [78] P.2.1 P.2.2;rw [←e2,←e1,←e3,←e4,hb];exact zvb _ _
theorem zp0(h:58≤x.Op):∀k:Int,k<58→(x.Op == k)=false:=fun k hk=>qf (by omega)
theorem zEG(h:zf1 l L m mt loc stk b)(ho:x.Op=59):
  ∃p r,zk L m c mt loc stk b x=some p∧zp L c mt loc stk b x=some r∧zpJ mt.Stack p r∧znA loc stk b p:=by
 have hq:=zp0 (x:=x) (by omega);refine ⟨(loc,stk++[[73]],b),_,?_,?_,zfF _,ze9 id h.shL h.shS (QP _) (by decide) fun _=>.inr zmF⟩
 ·rw [zpp (by omega)];unfold zcf;rw [hq 56 (by omega),hq 57 (by omega)];unfold zbb;rw [qf (show x.Op≠58 by omega),qt ho];simp only [cond_false,cond_true];rw [zfS h.shS.len];rfl
 ·rw [instr_plain (by omega) (by omega)];unfold zaa;rw [hq 1 (by omega),hq 2 (by omega),hq 3 (by omega),hq 4 (by omega),hq 5 (by omega),hq 6 (by omega),hq 7 (by omega),hq 46 (by omega),hq 47 (by omega),hq 48 (by omega),hq 56 (by omega),hq 57 (by omega),qf (show x.Op≠58 by omega),qt ho];simp only [cond_false,cond_true];rw [zfT h.shS.len];rfl
theorem zCI(h:zf1 l L m mt loc stk b)(ho:x.Op=60∨x.Op=61):
  ∃p r,zk L m c mt loc stk b x=some p∧zp L c mt loc stk b x=some r∧zpJ mt.Stack p r∧znA loc stk b p:=by
 have hq:=zp0 (x:=x) (by omega)
 have h73:([73]:Tx).length≤25:=by decide
 refine ⟨(loc,(zap L [84] [[73]] stk b).1,(zap L [84] [[73]] stk b).2),(loc,(zap L [84] [[73]] stk b).1,(zap L [84] [[73]] stk b).2),?_,?_,zgi fun _=>?_,zga (zbH _ _ _) h.shL h.shS (zd8 _ _ _ _ _)⟩
 ·rw [zpp (by omega)];unfold zcf;rw [hq 56 (by omega),hq 57 (by omega)];unfold zbb;rw [qf (show x.Op≠58 by omega),qf (show x.Op≠59 by omega)];simp only [cond_false,cond_true];rw [zgA h.made h.map (sh1 h73) h.shS];rfl
 ·rw [instr_plain (by omega) (by omega)];unfold zaa;rw [hq 1 (by omega),hq 2 (by omega),hq 3 (by omega),hq 4 (by omega),hq 5 (by omega),hq 6 (by omega),hq 7 (by omega),hq 46 (by omega),hq 47 (by omega),hq 48 (by omega),hq 56 (by omega),hq 57 (by omega),qf (show x.Op≠58 by omega),qf (show x.Op≠59 by omega)];simp only [cond_false]
  have key:∀v,v=true→(zfD L c mt loc stk b v).bind (fun v=>some (v.1,v.2.1,v.2.2))=some (loc,(zap L [84] [[73]] stk b).1,(zap L [84] [[73]] stk b).2):=fun v hv=>by
   unfold zfD;rw [hv,zfd h.made (sh1 h73) h.shS,zfV [78] [84]];rfl
  rcases ho with ho |ho
  ·rw [qt ho];exact key _ rfl
  ·rw [qf (show x.Op≠60 by omega),qt ho];exact key _ rfl
 ·have:=zkL (L:=L) [84] [[73]] stk b;have:=h.room;omega
theorem zyE(h:zf1 l L m mt loc stk b)(ho:x.Op=58):
  ∃p r,zk L m c mt loc stk b x=some p∧zp L c mt loc stk b x=some r∧zpJ mt.Stack p r∧znA loc stk b p:=by
 have hq:=zp0 (x:=x) (by omega)
 have ht:([84,104,114,111,119,110]:Tx).length≤25:=by decide
 obtain ⟨k1,k2⟩:=zey (b:=b) h.shS (e:=[78]) (by decide);refine ⟨(loc,(zap L [84] [[84,104,114,111,119,110]] stk b).1,(zap L [84] [[84,104,114,111,119,110]] stk b).2),(loc,(zap L [84] [[84,104,114,111,119,110]] stk b).1,(zap L [84] [[84,104,114,111,119,110]] stk b).2),?_,?_,zgi fun _=>?_,zga (zbH _ _ _) h.shL h.shS (zd8 _ _ _ _ _)⟩
 ·rw [zpp (by omega)];unfold zcf;rw [hq 56 (by omega),hq 57 (by omega)];unfold zbb;rw [qt ho];simp only [cond_false,cond_true];rw [zgA h.made h.map (sh1 ht) h.shS];rfl
 ·rw [instr_plain (by omega) (by omega)];unfold zaa;rw [hq 1 (by omega),hq 2 (by omega),hq 3 (by omega),hq 4 (by omega),hq 5 (by omega),hq 6 (by omega),hq 7 (by omega),hq 46 (by omega),hq 47 (by omega),hq 48 (by omega),hq 56 (by omega),hq 57 (by omega),qt ho];simp only [cond_false,cond_true];rw [zkf h.shS.len];simp only [Qa];rw [zib h.made k1 ht,zfV [84] [78]];rfl
 ·have:=zkL (L:=L) [84] [[84,104,114,111,119,110]] stk b;have:=h.room;omega
theorem zv5(h:46≤x.Op∧x.Op≤48):zk L m c mt loc stk b x=(zel L m c mt loc stk b x.Op).bind fun v=>some (loc,v.1,v.2):=by
 unfold zk;rw [bf (by omega),qf (show x.Op≠13 by omega),bf (by omega),qf (show x.Op≠20 by omega),bf (by omega),bf (by omega),bf (by omega),bf (by omega),qf (show x.Op≠37 by omega),bf (by omega),bf (by omega),bt h];rfl
theorem zCK(h:zf1 l L m mt loc stk b)(ho:x.Op=46∨x.Op=47):
  ∃p r,zk L m c mt loc stk b x=some p∧zp L c mt loc stk b x=some r∧zpJ mt.Stack p r∧znA loc stk b p:=by
 have h73:([73]:Tx).length≤25:=by decide
 have hq:∀k:Int,k<46→(x.Op == k)=false:=fun k hk=>qf (by omega)
 rcases ho with ho |ho
 ·refine ⟨(loc,stk,b||!(mt.Ret == [86])),(loc,stk,b||!(mt.Ret == [86])),?_,?_,zgi fun _=>h.room,zga (fun e=>by rw [e];rfl) h.shL h.shS (QP _)⟩
  ·rw [zv5 (by omega)];unfold zel;rw [qt ho];rfl
  ·rw [instr_plain (by omega) (by omega)];unfold zaa;rw [hq 1 (by omega),hq 2 (by omega),hq 3 (by omega),hq 4 (by omega),hq 5 (by omega),hq 6 (by omega),hq 7 (by omega),qt ho];rfl
 ·refine ⟨(loc,(zap L [84] [[73]] stk (b||!(mt.Ret == [73]))).1,(zap L [84] [[73]] stk (b||!(mt.Ret == [73]))).2),(loc,(zap L [84] [[73]] stk b).1,(zap L [84] [[73]] stk b).2||!(mt.Ret == [73])),?_,?_,?_,zga (fun e=>zbH _ _ _ (by rw [e];rfl)) h.shL h.shS (zd8 _ _ _ _ _)⟩
  ·rw [zv5 (by omega)];unfold zel;rw [qf (show x.Op≠46 by omega),qt ho];simp only [cond_false,cond_true];rw [zgA h.made h.map (sh1 h73) h.shS];rfl
  ·rw [instr_plain (by omega) (by omega)];unfold zaa;rw [hq 1 (by omega),hq 2 (by omega),hq 3 (by omega),hq 4 (by omega),hq 5 (by omega),hq 6 (by omega),hq 7 (by omega),qf (show x.Op≠46 by omega),qt ho];simp only [cond_false,cond_true];rw [zfd h.made (sh1 h73) h.shS,zfV [78] [84]];rfl
  ·have hl:=zkL (L:=L) [84] [[73]] stk b;have hr:=h.room
   cases mt.Ret == [73] with
   |true =>
    rw [show (b||!true)=b by simp];rw [show ((zap L [84] [[73]] stk b).2||!true)=(zap L [84] [[73]] stk b).2 by simp]
    exact zgi fun _=>by omega
   |false=>exact zg2 (zbH _ _ _ (by simp)) (by simp)
end

end
end Go.Proofs.YthmnlfenkhmmhaaGreat
