/- What the proofs of this seat's laws rest on: how the program's functions compute, each for every input. No further condition. Part 4 of 8. -/
import Derived.Test.YtjbdfkapnffjnaaGreatVf3
namespace Go.Proofs.YtjbdfkapnffjnaaGreat
noncomputable section
open List (length map)
set_option linter.unusedSimpArgs false
set_option linter.unusedVariables false
set_option maxRecDepth 100000
set_option maxHeartbeats 4000000
set_option linter.unusedSectionVars false
structure zad where
  l:List za
  at_:T2
def zeT(x:zad):List AV:=[.isl 6 (map zd x.l),.imp (map (rKV (fun x=>iA x)) x.at_)]
def zcS(a:T0)(b:Int):Option (T0):=
  cond (decide (b<(length a:Int))) ((zkh a 0 b).bind fun c=>some c) (some a)
theorem zb8(e:T0)(d:Int){r:T0}(h:zcS e d=some r):zG Tryz.prog 47 [sA e,iA d] (sA r):=by
 refine zr Tryz.func47 y kz y y ?_
 unfold zcS at h
 refine rg y<|u<|asg y<|zb ?_
 refine zi ?_
 refine rg y<|u<|mv y<|u<|lnS ti y y<|u<|mv y<|u<|gtr ti y y<|zb ?_
 refine ze y (fun c=>?_) (fun c=>?_)
 ·
  replace h:=bT c h
  obtain ⟨g,f,h⟩:=bs h
  refine rg y<|u<|mv y<|u<|mv y<|u<|slS (a:=0) (b:=d) ti y y y (zov y f) f<|u<|asg y<|zb ?_
  refine zj ?_
  obtain rfl:=sm h
  exact ⟨_,y,zz []⟩
 ·
  replace h:=bF c h
  refine zg ?_
  refine rg y<|u<|mv y<|u<|asg y<|zb ?_
  refine zj ?_
  obtain rfl:=sm h
  exact ⟨_,y,zz []⟩
def zkD(a:T1):Option (T1):=
  some a
def zex(b:T1)(g:Int)(c:T1)(a:Int):Option (Sum (T1×Int) (Sum (T1) (T1))):=
  cond ((decide (a<(length b:Int)))&&(decide (a<g))) ((idx b a).bind fun d=>(zcS d 12).bind fun e=>(zh2 16 c [e]).bind fun f=>some (.inl (f,(IntKind.i64.wrap (a+1))))) (some (.inr (.inl c)))
def zeq(a:T1)(c:Int):Option (T1):=
  (zw (fun z=>zex a c z.1 z.2) ([],0)).bind fun o=>zU o (fun b=>zkD b) some
theorem zd2(d:T1)(e:Int){r:T1}(h:zeq d e=some r):zG Tryz.prog 114 [.isl 1 (map zf d),iA e] (.isl 1 (map zf r)):=by
 refine zr Tryz.func114 y kz y y ?_
 unfold zeq at h
 refine rg y<|u<|asg y<|zb ?_
 refine rg y<|u<|asg y<|zb ?_
 refine zi ?_
 refine rg y<|u<|asg y<|zb ?_
 obtain ⟨o,ho,h⟩:=bs h
 refine zY (X:=T1×Int) (B:=T1) (R:=T1) (fun z=>[(0,.isl 1 (map zf d)),(1,iA e),(5,.msl 0 0 (length z.1)),(6,iA z.2)]) (fun z=>[some (1,map zf z.1)]) (fun b=>[(5,.msl 0 0 (length b))]) (fun b=>[some (1,map zf b)]) (fun r env st=>zaO Tryz.prog Tryz.f114 0 (.isl 1 (map zf r)) [] env st) ho ⟨[.fresh 1],ce y y<|ce y y<|cv y (.nilown y)<|ce y y<|cn,y,⟨w,t⟩,y,k⟩ ?_ ?_ ?_
 ·
  rintro ⟨q,s⟩ r h
  replace h:zex d e q s=some r:=h
  unfold zex at h
  refine zi ?_
  refine rg y<|u<|mv y<|u<|mv y<|u<|lnI ti y y<|u<|lss ti y y<|u<|mv y<|z7 (j:=4) 3 y y y y y gpn (fun a=>g y a<|mv y<|g y a<|mv y<|g y a<|lss ti y y<|zb (egA [12,13,14] 3 a y y y y)) ze3<|zb ?_
  refine ze y (fun c=>?_) (fun c=>?_)
  ·
   replace h:=bT c h
   refine zg ?_
   refine zi ?_
   refine zs ?_
   obtain ⟨i,l,h⟩:=bs h
   obtain ⟨m,v,h⟩:=bs h
   obtain ⟨x,n,h⟩:=bs h
   refine rl y<|u<|mv y<|u<|mv y<|u<|mv y<|u<|ixI ti y ti y y y l<|u<|ldI ti y (zl l).2.2 y<|u<|pc (zb8 i 12 v) y y y<|u<|bl 1 ti y ti y (by decide) (by decide) y y y<|u<|apM 2 ti y ti y y (by decide) ti y y y y (roX (f:=zf) (z:=[m]) y y) (fun _=>y) y n<|u<|asg y<|zb ?_
   refine rl y<|u<|mv y<|u<|add ti y y<|u<|asg y<|zb ?_
   obtain rfl:=sm h
   exact ⟨_,y,zo [.old 2]⟩
  ·
   replace h:=bF c h
   refine zE ?_
   obtain rfl:=sm h
   exact ⟨y,_,y,zo [.old 0]⟩
 ·
  rintro p rfl
  replace h:zkD p=some r:=h
  unfold zkD at h
  refine zy ?_
  refine rg y<|u<|mv y<|u<|asg y<|zb ?_
  refine zj ?_
  obtain rfl:=sm h
  exact ⟨_,y,zz []⟩
 ·
  rintro r' rfl env st hp
  obtain rfl:=sm h
  exact hp
def zns(a:zp):Option (zp):=
  (zcS a.C 14).bind fun b=>(zcS a.M 12).bind fun c=>some (zp.mk a.Op a.A b c)
theorem ztE(a:zp){r:zp}(h:zns a=some r):zG Tryz.prog 194 [.agg (zu a)] (.agg (zu r)):=by
 refine zr Tryz.func194 y kz y y ?_
 unfold zns at h
 refine rg y<|u<|bx 0 4 y y y y<|u<|al 1 ti y<|zb ?_
 obtain ⟨b,d,h⟩:=bs h
 obtain ⟨c,e,h⟩:=bs h
 refine rdA [(1,.mpt 0 0 0),(2,.mpt 1 0 0)] [some (4,[[iA a.Op,iA a.A,sA b,sA c]]),some (4,[[iA 0,iA 0,sA [],sA []]])] [7,9] [6,5,4,3,2,1,0] [(9,.mpt 0 0 2),(8,sA c),(7,sA a.M),(6,.mpt 0 0 3),(5,sA b),(4,sA a.C),(3,.mpt 0 0 2)] 2 (zeo ⟨pe,(pb y (pc (zb8 a.M 12 e) y y y w)),pe,pe,(pb y (pc (zb8 a.C 14 d) y y y w)),pe,pe,t⟩ ⟨(fun _ _=>⟨_,y,y,sto ti y y y<|⟨.any,[8],[(10,.mpt 0 0 3)],y,y,kz,t,zmt ⟨nv,(fun _ _=>⟨_,y,y,sto ti y y y<|⟨.any,[],[],y,y,kz,t,zh3 (zo [.old 0,.old 1])⟩⟩),t⟩⟩⟩),nw,t⟩) ?_
 refine rg y<|u<|ld ti y y<|u<|sto ti y y y<|zb ?_
 refine zj ?_
 obtain rfl:=sm h
 exact ⟨_,y,zz []⟩
def zjH(a:zc)(e:T0)(f:T1)(g:T0)(b:List zp)(c:List z8)(d:List zaF):Option (zc):=
  some (zc.mk e f g a.Static a.Abstract a.Locals a.Stack b c d)
def zd7(d:zc)(c:List zaF)(a:Int):Option (Sum ((List zaF)×Int) (Sum ((List zaF)) (zc))):=
  cond ((decide (a<(length d.Traps:Int)))&&(decide (a<8))) ((idx d.Traps a).bind fun b=>(zcS b.C 10).bind fun e=>(zh2 40 c [(zaF.mk b.From b.To b.At e)]).bind fun f=>some (.inl (f,(IntKind.i64.wrap (a+1))))) (some (.inr (.inl c)))
def zgL(a:zc)(e:T0)(f:T1)(g:T0)(c:List zp)(d:List z8):Option (zc):=
  (zw (fun z=>zd7 a z.1 z.2) ([],0)).bind fun o=>zU o (fun b=>zjH a e f g c d b) some
def zd6(b:zc)(c:List z8)(a:Int):Option (Sum ((List z8)×Int) (Sum ((List z8)) (zc))):=
  cond ((decide (a<(length b.Maps:Int)))&&(decide (a<104))) ((idx b.Maps a).bind fun d=>(idx b.Maps a).bind fun e=>(zeq e.Locals 20).bind fun f=>(idx b.Maps a).bind fun g=>(zeq g.Stack 20).bind fun h=>(zh2 56 c [(z8.mk d.At f h)]).bind fun i=>some (.inl (i,(IntKind.i64.wrap (a+1))))) (some (.inr (.inl c)))
def zgK(a:zc)(d:T0)(e:T1)(f:T0)(c:List zp):Option (zc):=
  (zw (fun z=>zd6 a z.1 z.2) ([],0)).bind fun o=>zU o (fun b=>zgL a d e f c b) some
def zd5(c:zc)(b:List zp)(a:Int):Option (Sum ((List zp)×Int) (Sum ((List zp)) (zc))):=
  cond ((decide (a<(length c.Code:Int)))&&(decide (a<104))) ((idx c.Code a).bind fun d=>(zns d).bind fun e=>(zh2 48 b [e]).bind fun f=>some (.inl (f,(IntKind.i64.wrap (a+1))))) (some (.inr (.inl b)))
def zi9(a:zc):Option (zc):=
  (zcS a.Name 10).bind fun c=>(zeq a.Params 8).bind fun d=>(zcS a.Ret 12).bind fun e=>(zw (fun z=>zd5 a z.1 z.2) ([],0)).bind fun o=>zU o (fun b=>zgK a c d e b) some
theorem zqj(a:zc){r:zc}(h:zi9 a=some r):zG Tryz.prog 115 [.agg (zh a)] (.agg (zh r)):=by
 refine zr Tryz.func115 y kz y y ?_
 unfold zi9 at h
 refine rg y<|u<|bx 0 10 y y y y<|u<|al 1 ti y<|zb ?_
 obtain ⟨d,Y,h⟩:=bs h
 obtain ⟨e,Z,h⟩:=bs h
 obtain ⟨i,q3,h⟩:=bs h
 refine rdA [(1,.mpt 0 0 0),(2,.mpt 1 0 0),(3,.mpt 2 0 0)] [some (10,[(zh a)]),some (10,[[sA [],.lit (.slice none 0 0),sA [],bA false,bA false,iA 0,iA 0,.lit (.slice none 0 0),.lit (.slice none 0 0),.lit (.slice none 0 0)]]),some (10,[[sA d,.isl 1 (map zf e),sA i,bA a.Static,bA a.Abstract,iA a.Locals,iA a.Stack,.lit (.slice none 0 0),.lit (.slice none 0 0),.lit (.slice none 0 0)]])] [18,19] [17,16,15,14,13,12,11,10,9,8,7,6,5,4,3,2,1,0] [(25,.agg [sA d,.isl 1 (map zf e),sA i,bA a.Static,bA a.Abstract,iA a.Locals,iA a.Stack,.lit (.slice none 0 0),.lit (.slice none 0 0),.lit (.slice none 0 0)]),(24,iA a.Stack),(23,.mpt 0 0 6),(22,iA a.Locals),(21,.mpt 0 0 5),(20,bA a.Abstract),(19,.mpt 0 0 4),(18,bA a.Static),(17,.mpt 0 0 3),(16,sA i),(15,sA a.Ret),(14,.mpt 0 0 2),(13,.isl 1 (map zf e)),(12,.isl 1 (map zf a.Params)),(11,.mpt 0 0 1),(10,sA d),(9,sA a.Name),(8,.mpt 0 0 0)] 2 (zeo ⟨(pb y (bd (parts:=[(0,sA d),(1,.isl 1 (map zf e)),(2,sA i),(3,bA a.Static),(4,bA a.Abstract),(5,iA a.Locals),(6,iA a.Stack)]) (cs:=[sA d,.isl 1 (map zf e),sA i,bA a.Static,bA a.Abstract,iA a.Locals,iA a.Stack,.lit (.slice none 0 0),.lit (.slice none 0 0),.lit (.slice none 0 0)]) ti y y kz w)),pe,pe,pe,pe,pe,pe,pe,pe,(pb y (pc (zb8 a.Ret 12 q3) y y y w)),pe,pe,(pb y (pc (zd2 a.Params 8 Z) y y y w)),pe,pe,(pb y (pc (zb8 a.Name 10 Y) y y y w)),pe,pe,t⟩ ⟨(fun _ _=>⟨_,y,y,al 2 ti y<|⟨(.mpt 2 0 0),[],[(3,.mpt 2 0 0)],y,y,kz,y,zeo ⟨(pb y (bd (parts:=[(0,sA d),(1,.isl 1 (map zf e)),(2,sA i),(3,bA a.Static),(4,bA a.Abstract),(5,iA a.Locals),(6,iA a.Stack)]) (cs:=[sA d,.isl 1 (map zf e),sA i,bA a.Static,bA a.Abstract,iA a.Locals,iA a.Stack,.lit (.slice none 0 0),.lit (.slice none 0 0),.lit (.slice none 0 0)]) ti y y kz w)),pe,pe,pe,pe,pe,pe,pe,pe,(pb y (pc (zb8 a.Ret 12 q3) y y y w)),pe,pe,(pb y (pc (zd2 a.Params 8 Z) y y y w)),pe,pe,(pb y (pc (zb8 a.Name 10 Y) y y y w)),pe,pe,t⟩ ⟨nv,(fun _ _=>⟨_,y,y,sto ti y y y<|⟨.any,[],[],y,y,kz,t,zh3 (zo [.old 0,.old 1,.old 2])⟩⟩),t⟩⟩⟩),nw,t⟩) ?_
 refine zi ?_
 refine rg y<|u<|asg y<|zb ?_
 obtain ⟨o,ho,h⟩:=bs h
 refine zY (X:=(List zp)×Int) (B:=(List zp)) (R:=zc) (fun z=>[(1,.mpt 0 0 0),(2,.mpt 1 0 0),(3,.mpt 2 0 0),(4,iA z.2)]) (fun z=>[some (10,[(zh a)]),some (10,[[sA [],.lit (.slice none 0 0),sA [],bA false,bA false,iA 0,iA 0,.lit (.slice none 0 0),.lit (.slice none 0 0),.lit (.slice none 0 0)]]),some (10,[[sA d,.isl 1 (map zf e),sA i,bA a.Static,bA a.Abstract,iA a.Locals,iA a.Stack,.msl 3 0 (length z.1),.lit (.slice none 0 0),.lit (.slice none 0 0)]]),some (4,map zu z.1)]) (fun b=>[(1,.mpt 0 0 0),(2,.mpt 1 0 0),(3,.mpt 2 0 0)]) (fun b=>[some (10,[(zh a)]),some (10,[[sA [],.lit (.slice none 0 0),sA [],bA false,bA false,iA 0,iA 0,.lit (.slice none 0 0),.lit (.slice none 0 0),.lit (.slice none 0 0)]]),some (10,[[sA d,.isl 1 (map zf e),sA i,bA a.Static,bA a.Abstract,iA a.Locals,iA a.Stack,.msl 3 0 (length b),.lit (.slice none 0 0),.lit (.slice none 0 0)]]),some (4,map zu b)]) (fun r env st=>zaO Tryz.prog Tryz.f115 0 (.agg (zh r)) [] env st) ho ⟨[.old 0,.old 1,.old 2,.fresh 4],cv y (.mpt y)<|cv y (.mpt y)<|cv y (.mpt y)<|ce y y<|cn,y,⟨⟨_,y,ziT (ciL y)⟩,⟨_,y,ziT (ciL y)⟩,⟨_,y,ziT ⟨ci y,ci y,ci y,ci y,ci y,ci y,ci y,.nilown y,ci y,ci y,t⟩⟩,w,t⟩,y,k⟩ ?_ ?_ ?_
 ·
  rintro ⟨Q,F⟩ r h
  replace h:zd5 a Q F=some r:=h
  unfold zd5 at h
  refine zi ?_
  refine rg y<|u<|mv y<|u<|fa ti y y y<|u<|ld ti y y<|u<|lnI ti y y<|u<|lss ti y y<|u<|mv y<|z7 (j:=5) 2 y y y y y gpn (fun K=>g y K<|mv y<|g y K<|lss ti y y<|zb (egA [32,33] 2 K y y y y)) ze3<|zb ?_
  refine ze y (fun v=>?_) (fun v=>?_)
  ·
   replace h:=bT v h
   refine zg ?_
   refine zi ?_
   refine zs ?_
   obtain ⟨S,m,h⟩:=bs h
   obtain ⟨T,q12,h⟩:=bs h
   obtain ⟨G,q13,h⟩:=bs h
   refine zjw [(1,.mpt 0 0 0),(2,.mpt 1 0 0),(3,.mpt 2 0 0),(4,iA F)] [some (10,[(zh a)]),some (10,[[sA [],.lit (.slice none 0 0),sA [],bA false,bA false,iA 0,iA 0,.lit (.slice none 0 0),.lit (.slice none 0 0),.lit (.slice none 0 0)]]),some (10,[[sA d,.isl 1 (map zf e),sA i,bA a.Static,bA a.Abstract,iA a.Locals,iA a.Stack,.msl 3 0 (length G),.lit (.slice none 0 0),.lit (.slice none 0 0)]]),some (4,map zu G)] [8,9,11] [7,6,5,4,3,2,1,0] [(44,.agg (zu T)),(43,.agg (zu S)),(42,.ipt 4 (map zu a.Code) (Int.toNat F) 0),(41,iA F),(40,.isl 4 (map zu a.Code)),(39,.mpt 0 0 7),(38,.msl 3 0 (length Q)),(37,.mpt 2 0 7)] 3 (zeo ⟨(pb y (pc (ztE S q12) y y y w)),(pb y (ldI ti y (zl m).2.2 y w)),(pb y (ixI ti y ti y y y m w)),pe,pe,pe,pe,pe,t⟩ ⟨(fun _ _=>⟨_,y,y,bl 4 ti y ti y (by decide) (by decide) y y y<|⟨(.msl 4 0 1),[],[(45,.msl 4 0 1)],y,y,kz,y,zeo ⟨pe,(pb y (ldI ti y (zl m).2.2 y w)),(pb y (ixI ti y ti y y y m w)),pe,pe,pe,pe,pe,t⟩ ⟨nv,(fun _ _=>⟨_,y,y,apM 5 ti y ti y y (by decide) ti y y y y (roX (f:=zu) (z:=[T]) y y) (fun _=>y) y q13<|⟨(.msl 5 0 (length G)),[10],[(47,.mpt 2 0 7),(46,.msl 5 0 (length G))],y,y,kz,y,zeo ⟨pe,pe,(pb y (ldI ti y (zl m).2.2 y w)),(pb y (ixI ti y ti y y y m w)),pe,pe,pe,pe,pe,t⟩ ⟨nv,nv,(fun _ _=>⟨_,y,y,sto ti y y y<|⟨.any,[],[],y,y,kz,t,zh3 (zo [.old 0,.old 1,.old 2,.old 5])⟩⟩),t⟩⟩⟩),nw,t⟩⟩⟩),nw,nw,t⟩) ?_
   refine rl y<|u<|mv y<|u<|add ti y y<|u<|asg y<|zb ?_
   obtain rfl:=sm h
   exact ⟨_,y,zo [.old 0,.old 1,.old 2,.old 3]⟩
  ·
   replace h:=bF v h
   refine zE ?_
   obtain rfl:=sm h
   exact ⟨y,_,y,zo [.old 0,.old 1,.old 2,.old 3]⟩
 ·
  rintro c rfl
  replace h:zgK a d e i c=some r:=h
  unfold zgK at h
  refine zy ?_
  refine zi ?_
  refine rg y<|u<|asg y<|zb ?_
  obtain ⟨o,ho,h⟩:=bs h
  refine zY (X:=(List z8)×Int) (B:=(List z8)) (R:=zc) (fun z=>[(1,.mpt 0 0 0),(2,.mpt 1 0 0),(3,.mpt 2 0 0),(5,iA z.2)]) (fun z=>[some (10,[(zh a)]),some (10,[[sA [],.lit (.slice none 0 0),sA [],bA false,bA false,iA 0,iA 0,.lit (.slice none 0 0),.lit (.slice none 0 0),.lit (.slice none 0 0)]]),some (10,[[sA d,.isl 1 (map zf e),sA i,bA a.Static,bA a.Abstract,iA a.Locals,iA a.Stack,.msl 3 0 (length c),.msl 4 0 (length z.1),.lit (.slice none 0 0)]]),some (4,map zu c),some (3,map zL z.1)]) (fun b=>[(1,.mpt 0 0 0),(2,.mpt 1 0 0),(3,.mpt 2 0 0)]) (fun b=>[some (10,[(zh a)]),some (10,[[sA [],.lit (.slice none 0 0),sA [],bA false,bA false,iA 0,iA 0,.lit (.slice none 0 0),.lit (.slice none 0 0),.lit (.slice none 0 0)]]),some (10,[[sA d,.isl 1 (map zf e),sA i,bA a.Static,bA a.Abstract,iA a.Locals,iA a.Stack,.msl 3 0 (length c),.msl 4 0 (length b),.lit (.slice none 0 0)]]),some (4,map zu c),some (3,map zL b)]) (fun r env st=>zaO Tryz.prog Tryz.f115 0 (.agg (zh r)) [] env st) ho ⟨[.old 0,.old 1,.old 2,.old 3,.fresh 3],cv y (.mpt y)<|cv y (.mpt y)<|cv y (.mpt y)<|ce y y<|cn,y,⟨⟨_,y,ziT (ciL y)⟩,⟨_,y,ziT (ciL y)⟩,⟨_,y,ziT ⟨ci y,ci y,ci y,ci y,ci y,ci y,ci y,.msl y,.nilown y,ci y,t⟩⟩,⟨_,y,zkb (fun _=>y)⟩,w,t⟩,y,k⟩ ?_ ?_ ?_
  ·
   rintro ⟨U,l⟩ r h
   replace h:zd6 a U l=some r:=h
   unfold zd6 at h
   refine zi ?_
   refine rg y<|u<|mv y<|u<|fa ti y y y<|u<|ld ti y y<|u<|lnI ti y y<|u<|lss ti y y<|u<|mv y<|z7 (j:=5) 2 y y y y y gpn (fun x=>g y x<|mv y<|g y x<|lss ti y y<|zb (egA [54,55] 2 x y y y y)) ze3<|zb ?_
   refine ze y (fun A=>?_) (fun A=>?_)
   ·
    replace h:=bT A h
    refine zg ?_
    refine zi ?_
    refine zs ?_
    obtain ⟨L,n,h⟩:=bs h
    obtain ⟨H,p,h⟩:=bs h
    obtain ⟨M,N,h⟩:=bs h
    obtain ⟨O,q,h⟩:=bs h
    obtain ⟨P,V,h⟩:=bs h
    obtain ⟨I,q29,h⟩:=bs h
    refine zjw [(1,.mpt 0 0 0),(2,.mpt 1 0 0),(3,.mpt 2 0 0),(5,iA l)] [some (10,[(zh a)]),some (10,[[sA [],.lit (.slice none 0 0),sA [],bA false,bA false,iA 0,iA 0,.lit (.slice none 0 0),.lit (.slice none 0 0),.lit (.slice none 0 0)]]),some (10,[[sA d,.isl 1 (map zf e),sA i,bA a.Static,bA a.Abstract,iA a.Locals,iA a.Stack,.msl 3 0 (length c),.msl 4 0 (length I),.lit (.slice none 0 0)]]),some (4,map zu c),some (3,map zL I)] [23,24,26] [22,21,20,19,18,17,16,15,14,13,12,11,10,9,8,7,6,5,4,3,2,1,0] [(81,.agg [iA L.At,.isl 1 (map zf M),.isl 1 (map zf P)]),(80,.isl 1 (map zf P)),(79,.isl 1 (map zf O.Stack)),(78,.ipt 3 (map zL a.Maps) (Int.toNat l) 2),(77,.ipt 3 (map zL a.Maps) (Int.toNat l) 0),(76,iA l),(75,.isl 3 (map zL a.Maps)),(74,.mpt 0 0 8),(73,.isl 1 (map zf M)),(72,.isl 1 (map zf H.Locals)),(71,.ipt 3 (map zL a.Maps) (Int.toNat l) 1),(70,.ipt 3 (map zL a.Maps) (Int.toNat l) 0),(69,iA l),(68,.isl 3 (map zL a.Maps)),(67,.mpt 0 0 8),(66,iA L.At),(65,.ipt 3 (map zL a.Maps) (Int.toNat l) 0),(64,.ipt 3 (map zL a.Maps) (Int.toNat l) 0),(63,iA l),(62,.isl 3 (map zL a.Maps)),(61,.mpt 0 0 8),(60,.msl 4 0 (length U)),(59,.mpt 2 0 8)] 3 (zeo ⟨(pb y (bd ti y y y w)),(pb y (pc (zd2 O.Stack 20 V) y y y w)),(pb y (ldI ti y (zl q).2.2 y w)),pe,(pb y (ixI ti y ti y y y q w)),pe,pe,pe,(pb y (pc (zd2 H.Locals 20 N) y y y w)),(pb y (ldI ti y (zl p).2.2 y w)),pe,(pb y (ixI ti y ti y y y p w)),pe,pe,pe,(pb y (ldI ti y (zl n).2.2 y w)),pe,(pb y (ixI ti y ti y y y n w)),pe,pe,pe,pe,pe,t⟩ ⟨(fun _ _=>⟨_,y,y,bl 5 ti y ti y (by decide) (by decide) y y y<|⟨(.msl 5 0 1),[],[(82,.msl 5 0 1)],y,y,kz,y,zeo ⟨pe,(pb y (pc (zd2 O.Stack 20 V) y y y w)),(pb y (ldI ti y (zl q).2.2 y w)),pe,(pb y (ixI ti y ti y y y q w)),pe,pe,pe,(pb y (pc (zd2 H.Locals 20 N) y y y w)),(pb y (ldI ti y (zl p).2.2 y w)),pe,(pb y (ixI ti y ti y y y p w)),pe,pe,pe,(pb y (ldI ti y (zl n).2.2 y w)),pe,(pb y (ixI ti y ti y y y n w)),pe,pe,pe,pe,pe,t⟩ ⟨nv,(fun _ _=>⟨_,y,y,apM 6 ti y ti y y (by decide) ti y y y y (roX (f:=zL) (z:=[(z8.mk L.At M P)]) y y) (fun _=>y) y q29<|⟨(.msl 6 0 (length I)),[25],[(84,.mpt 2 0 8),(83,.msl 6 0 (length I))],y,y,kz,y,zeo ⟨pe,pe,pe,(pb y (ldI ti y (zl q).2.2 y w)),pe,(pb y (ixI ti y ti y y y q w)),pe,pe,pe,(pb y (pc (zd2 H.Locals 20 N) y y y w)),(pb y (ldI ti y (zl p).2.2 y w)),pe,(pb y (ixI ti y ti y y y p w)),pe,pe,pe,(pb y (ldI ti y (zl n).2.2 y w)),pe,(pb y (ixI ti y ti y y y n w)),pe,pe,pe,pe,pe,t⟩ ⟨nv,nv,(fun _ _=>⟨_,y,y,sto ti y y y<|⟨.any,[],[],y,y,kz,t,zh3 (zo [.old 0,.old 1,.old 2,.old 3,.old 6])⟩⟩),t⟩⟩⟩),nw,t⟩⟩⟩),nw,nw,t⟩) ?_
    refine rl y<|u<|mv y<|u<|add ti y y<|u<|asg y<|zb ?_
    obtain rfl:=sm h
    exact ⟨_,y,zo [.old 0,.old 1,.old 2,.old 3,.old 4]⟩
   ·
    replace h:=bF A h
    refine zE ?_
    obtain rfl:=sm h
    exact ⟨y,_,y,zo [.old 0,.old 1,.old 2,.old 3,.old 4]⟩
  ·
   rintro s rfl
   replace h:zgL a d e i c s=some r:=h
   unfold zgL at h
   refine zy ?_
   refine zi ?_
   refine rg y<|u<|asg y<|zb ?_
   obtain ⟨o,ho,h⟩:=bs h
   refine zY (X:=(List zaF)×Int) (B:=(List zaF)) (R:=zc) (fun z=>[(1,.mpt 0 0 0),(2,.mpt 1 0 0),(3,.mpt 2 0 0),(6,iA z.2)]) (fun z=>[some (10,[(zh a)]),some (10,[[sA [],.lit (.slice none 0 0),sA [],bA false,bA false,iA 0,iA 0,.lit (.slice none 0 0),.lit (.slice none 0 0),.lit (.slice none 0 0)]]),some (10,[[sA d,.isl 1 (map zf e),sA i,bA a.Static,bA a.Abstract,iA a.Locals,iA a.Stack,.msl 3 0 (length c),.msl 4 0 (length s),.msl 5 0 (length z.1)]]),some (4,map zu c),some (3,map zL s),some (4,map za9 z.1)]) (fun b=>[(2,.mpt 0 0 0),(3,.mpt 1 0 0)]) (fun b=>[some (10,[[sA [],.lit (.slice none 0 0),sA [],bA false,bA false,iA 0,iA 0,.lit (.slice none 0 0),.lit (.slice none 0 0),.lit (.slice none 0 0)]]),some (10,[[sA d,.isl 1 (map zf e),sA i,bA a.Static,bA a.Abstract,iA a.Locals,iA a.Stack,.msl 2 0 (length c),.msl 3 0 (length s),.msl 4 0 (length b)]]),some (4,map zu c),some (3,map zL s),some (4,map za9 b)]) (fun r env st=>zaO Tryz.prog Tryz.f115 0 (.agg (zh r)) [] env st) ho ⟨[.old 0,.old 1,.old 2,.old 3,.old 4,.fresh 4],cv y (.mpt y)<|cv y (.mpt y)<|cv y (.mpt y)<|ce y y<|cn,y,⟨⟨_,y,ziT (ciL y)⟩,⟨_,y,ziT (ciL y)⟩,⟨_,y,ziT ⟨ci y,ci y,ci y,ci y,ci y,ci y,ci y,.msl y,.msl y,.nilown y,t⟩⟩,⟨_,y,zkb (fun _=>y)⟩,⟨_,y,zkb (fun _=>y)⟩,w,t⟩,y,k⟩ ?_ ?_ ?_
   ·
    rintro ⟨v38,v39⟩ r h
    replace h:zd7 a v38 v39=some r:=h
    unfold zd7 at h
    refine zi ?_
    refine rg y<|u<|mv y<|u<|fa ti y y y<|u<|ld ti y y<|u<|lnI ti y y<|u<|lss ti y y<|u<|mv y<|z7 (j:=5) 2 y y y y y gpn (fun D=>g y D<|mv y<|g y D<|lss ti y y<|zb (egA [91,92] 2 D y y y y)) ze3<|zb ?_
    refine ze y (fun E=>?_) (fun E=>?_)
    ·
     replace h:=bT E h
     refine zg ?_
     refine zi ?_
     refine zs ?_
     obtain ⟨J,W,h⟩:=bs h
     refine rg y<|u<|fa ti y y y<|u<|ld ti y y<|u<|mv y<|u<|ixI ti y ti y y y W<|u<|ldI ti y (zl W).2.2 y<|u<|al 6 ti y<|u<|sto ti y y y<|zb ?_
     obtain ⟨v41,q38,h⟩:=bs h
     refine rg y<|u<|fa ti y y y<|u<|ld ti y y<|u<|pc (zb8 J.C 10 q38) y y y<|u<|fa ti y y y<|u<|sto ti y y y<|zb ?_
     obtain ⟨v42,q39,h⟩:=bs h
     refine rl y<|u<|fa ti y y y<|u<|ld ti y y<|u<|ld ti y y<|u<|bl 7 ti y ti y (by decide) (by decide) y y y<|u<|apM 8 ti y ti y y (by decide) ti y y y y (roX (f:=za9) (z:=[(zaF.mk J.From J.To J.At v41)]) y y) (fun _=>y) y q39<|u<|fa ti y y y<|u<|sto ti y y y<|zb ?_
     refine rl y<|u<|mv y<|u<|add ti y y<|u<|asg y<|zb ?_
     obtain rfl:=sm h
     exact ⟨_,y,zo [.old 0,.old 1,.old 2,.old 3,.old 4,.old 8]⟩
    ·
     replace h:=bF E h
     refine zE ?_
     obtain rfl:=sm h
     exact ⟨y,_,y,zo [.old 1,.old 2,.old 3,.old 4,.old 5]⟩
   ·
    rintro v43 rfl
    replace h:zjH a d e i c s v43=some r:=h
    unfold zjH at h
    refine zy ?_
    refine rg y<|u<|ld ti y y<|u<|sto ti y y y<|zb ?_
    refine zj ?_
    obtain rfl:=sm h
    exact ⟨_,y,zz []⟩
   ·
    rintro r' rfl env st hp
    obtain rfl:=sm h
    exact hp
  ·
   rintro r' rfl env st hp
   obtain rfl:=sm h
   exact hp
 ·
  rintro r' rfl env st hp
  obtain rfl:=sm h
  exact hp
def zmT(c:T0)(d:T0)(e:T1)(a:List zt)(b:List zc):Option (T0×T0×T1×(List zt)×(List zc)):=
  some (c,d,e,a,b)
def zf2(c:za)(b:List zc)(a:Int):Option (Sum ((List zc)×Int) (Sum ((List zc)) (T0×T0×T1×(List zt)×(List zc)))):=
  cond ((decide (a<(length c.Methods:Int)))&&(decide (a<10))) ((idx c.Methods a).bind fun d=>(zi9 d).bind fun e=>(zh2 152 b [e]).bind fun f=>some (.inl (f,(IntKind.i64.wrap (a+1))))) (some (.inr (.inl b)))
def zi8(c:za)(d:T0)(e:T0)(f:T1)(a:List zt):Option (T0×T0×T1×(List zt)×(List zc)):=
  (zw (fun z=>zf2 c z.1 z.2) ([],0)).bind fun o=>zU o (fun b=>zmT d e f a b) some
def zf1(d:za)(c:List zt)(a:Int):Option (Sum ((List zt)×Int) (Sum ((List zt)) (T0×T0×T1×(List zt)×(List zc)))):=
  cond ((decide (a<(length d.Fields:Int)))&&(decide (a<10))) ((idx d.Fields a).bind fun b=>(zcS b.Name 10).bind fun e=>(zcS b.Type_ 12).bind fun f=>(zh2 40 c [(zt.mk e f b.Static)]).bind fun g=>some (.inl (g,(IntKind.i64.wrap (a+1))))) (some (.inr (.inl c)))
def znu(a:za):Option (T0×T0×T1×(List zt)×(List zc)):=
  (zcS a.Name 10).bind fun c=>(zcS a.Super 10).bind fun d=>(zeq a.Impl 6).bind fun e=>(zw (fun z=>zf1 a z.1 z.2) ([],0)).bind fun o=>zU o (fun b=>zi8 a c d e b) some
theorem ztI(a:za){r:T0×T0×T1×(List zt)×(List zc)}(h:znu a=some r):SC Tryz.prog 67 [.agg (zd a)] [] (.agg [sA r.1,sA r.2.1,bA a.Interface,.isl 1 (map zf r.2.2.1),.msl 0 0 (length r.2.2.2.1),.msl 1 0 (length r.2.2.2.2)]) [.many 3 (map zJ r.2.2.2.1),.many 10 (map zh r.2.2.2.2)]:=by
 refine ⟨⟨zh0 (sz:=3) (fun _=>y),zh0 (sz:=10) (fun _=>y),t⟩,zV Tryz.func67 y kz y ?_⟩
 unfold znu at h
 refine rg y<|u<|bx 0 6 y y y y<|u<|al 1 ti y<|zb ?_
 obtain ⟨e,M,h⟩:=bs h
 obtain ⟨i,N,h⟩:=bs h
 obtain ⟨l,O,h⟩:=bs h
 refine rdA [(1,.mpt 0 0 0),(2,.mpt 1 0 0),(3,.mpt 2 0 0)] [some (6,[(zd a)]),some (6,[[sA [],sA [],bA false,.lit (.slice none 0 0),.lit (.slice none 0 0),.lit (.slice none 0 0)]]),some (6,[[sA e,sA i,bA a.Interface,.isl 1 (map zf l),.lit (.slice none 0 0),.lit (.slice none 0 0)]])] [12,13] [11,10,9,8,7,6,5,4,3,2,1,0] [(18,.agg [sA e,sA i,bA a.Interface,.isl 1 (map zf l),.lit (.slice none 0 0),.lit (.slice none 0 0)]),(17,.isl 1 (map zf l)),(16,.isl 1 (map zf a.Impl)),(15,.mpt 0 0 3),(14,bA a.Interface),(13,.mpt 0 0 2),(12,sA i),(11,sA a.Super),(10,.mpt 0 0 1),(9,sA e),(8,sA a.Name),(7,.mpt 0 0 0)] 2 (zeo ⟨(pb y (bd ti y y y w)),(pb y (pc (zd2 a.Impl 6 O) y y y w)),pe,pe,pe,pe,(pb y (pc (zb8 a.Super 10 N) y y y w)),pe,pe,(pb y (pc (zb8 a.Name 10 M) y y y w)),pe,pe,t⟩ ⟨(fun _ _=>⟨_,y,y,al 2 ti y<|⟨(.mpt 2 0 0),[],[(3,.mpt 2 0 0)],y,y,kz,y,zeo ⟨(pb y (bd ti y y y w)),(pb y (pc (zd2 a.Impl 6 O) y y y w)),pe,pe,pe,pe,(pb y (pc (zb8 a.Super 10 N) y y y w)),pe,pe,(pb y (pc (zb8 a.Name 10 M) y y y w)),pe,pe,t⟩ ⟨nv,(fun _ _=>⟨_,y,y,sto ti y y y<|⟨.any,[],[],y,y,kz,t,zh3 (zo [.old 0,.old 1,.old 2])⟩⟩),t⟩⟩⟩),nw,t⟩) ?_
 refine zi ?_
 refine rg y<|u<|asg y<|zb ?_
 obtain ⟨o,ho,h⟩:=bs h
 refine zY (X:=(List zt)×Int) (B:=(List zt)) (R:=T0×T0×T1×(List zt)×(List zc)) (fun z=>[(1,.mpt 0 0 0),(2,.mpt 1 0 0),(3,.mpt 2 0 0),(4,iA z.2)]) (fun z=>[some (6,[(zd a)]),some (6,[[sA [],sA [],bA false,.lit (.slice none 0 0),.lit (.slice none 0 0),.lit (.slice none 0 0)]]),some (6,[[sA e,sA i,bA a.Interface,.isl 1 (map zf l),.msl 3 0 (length z.1),.lit (.slice none 0 0)]]),some (3,map zJ z.1)]) (fun b=>[(1,.mpt 0 0 0),(2,.mpt 1 0 0),(3,.mpt 2 0 0)]) (fun b=>[some (6,[(zd a)]),some (6,[[sA [],sA [],bA false,.lit (.slice none 0 0),.lit (.slice none 0 0),.lit (.slice none 0 0)]]),some (6,[[sA e,sA i,bA a.Interface,.isl 1 (map zf l),.msl 3 0 (length b),.lit (.slice none 0 0)]]),some (3,map zJ b)]) (fun r env st=>zaO Tryz.prog Tryz.f67 0 (.agg [sA r.1,sA r.2.1,bA a.Interface,.isl 1 (map zf r.2.2.1),.msl 0 0 (length r.2.2.2.1),.msl 1 0 (length r.2.2.2.2)]) [some (3,map zJ r.2.2.2.1),some (10,map zh r.2.2.2.2)] env st) ho ⟨[.old 0,.old 1,.old 2,.fresh 3],cv y (.mpt y)<|cv y (.mpt y)<|cv y (.mpt y)<|ce y y<|cn,y,⟨⟨_,y,ziT (ciL y)⟩,⟨_,y,ziT (ciL y)⟩,⟨_,y,ziT ⟨ci y,ci y,ci y,ci y,.nilown y,ci y,t⟩⟩,w,t⟩,y,k⟩ ?_ ?_ ?_
 ·
  rintro ⟨F,G⟩ r h
  replace h:zf1 a F G=some r:=h
  unfold zf1 at h
  refine zi ?_
  refine rg y<|u<|mv y<|u<|fa ti y y y<|u<|ld ti y y<|u<|lnI ti y y<|u<|lss ti y y<|u<|mv y<|z7 (j:=5) 2 y y y y y gpn (fun n=>g y n<|mv y<|g y n<|lss ti y y<|zb (egA [25,26] 2 n y y y y)) ze3<|zb ?_
  refine ze y (fun p=>?_) (fun p=>?_)
  ·
   replace h:=bT p h
   refine zg ?_
   refine zi ?_
   refine zs ?_
   obtain ⟨c,H,h⟩:=bs h
   refine rg y<|u<|fa ti y y y<|u<|ld ti y y<|u<|mv y<|u<|ixI ti y ti y y y H<|u<|ldI ti y (zl H).2.2 y<|u<|al 4 ti y<|u<|sto ti y y y<|zb ?_
   obtain ⟨C,D,h⟩:=bs h
   obtain ⟨E,I,h⟩:=bs h
   obtain ⟨v,P,h⟩:=bs h
   refine zjw [(1,.mpt 0 0 0),(2,.mpt 1 0 0),(3,.mpt 2 0 0),(4,iA G)] [some (6,[(zd a)]),some (6,[[sA [],sA [],bA false,.lit (.slice none 0 0),.lit (.slice none 0 0),.lit (.slice none 0 0)]]),some (6,[[sA e,sA i,bA a.Interface,.isl 1 (map zf l),.msl 3 0 (length v),.lit (.slice none 0 0)]]),some (3,map zJ v)] [11,12,14] [10,9,8,7,6,5,4,3,2,1,0] [(45,.agg [sA C,sA E,bA c.Static]),(44,bA c.Static),(43,.mpt 4 0 2),(42,sA E),(41,sA c.Type_),(40,.mpt 4 0 1),(39,sA C),(38,sA c.Name),(37,.mpt 4 0 0),(36,.msl 3 0 (length F)),(35,.mpt 2 0 4)] 3 (zeo ⟨(pb y (bd ti y y y w)),pe,pe,(pb y (pc (zb8 c.Type_ 12 I) y y y w)),pe,pe,(pb y (pc (zb8 c.Name 10 D) y y y w)),pe,pe,pe,pe,t⟩ ⟨(fun _ _=>⟨_,y,y,bl 5 ti y ti y (by decide) (by decide) y y y<|⟨(.msl 5 0 1),[],[(46,.msl 5 0 1)],y,y,kz,y,zeo ⟨pe,pe,pe,(pb y (pc (zb8 c.Type_ 12 I) y y y w)),pe,pe,(pb y (pc (zb8 c.Name 10 D) y y y w)),pe,pe,pe,pe,t⟩ ⟨nv,(fun _ _=>⟨_,y,y,apM 6 ti y ti y y (by decide) ti y y y y (roX (f:=zJ) (z:=[(zt.mk C E c.Static)]) y y) (fun _=>y) y P<|⟨(.msl 6 0 (length v)),[13],[(48,.mpt 2 0 4),(47,.msl 6 0 (length v))],y,y,kz,y,zeo ⟨pe,pe,pe,pe,pe,pe,pe,(pb y (pc (zb8 c.Name 10 D) y y y w)),pe,pe,pe,pe,t⟩ ⟨nv,nv,(fun _ _=>⟨_,y,y,sto ti y y y<|⟨.any,[],[],y,y,kz,t,zh3 (zo [.old 0,.old 1,.old 2,.old 6])⟩⟩),t⟩⟩⟩),nw,t⟩⟩⟩),nw,nw,t⟩) ?_
   refine rl y<|u<|mv y<|u<|add ti y y<|u<|asg y<|zb ?_
   obtain rfl:=sm h
   exact ⟨_,y,zo [.old 0,.old 1,.old 2,.old 3]⟩
  ·
   replace h:=bF p h
   refine zE ?_
   obtain rfl:=sm h
   exact ⟨y,_,y,zo [.old 0,.old 1,.old 2,.old 3]⟩
 ·
  rintro d rfl
  replace h:zi8 a e i l d=some r:=h
  unfold zi8 at h
  refine zy ?_
  refine zi ?_
  refine rg y<|u<|asg y<|zb ?_
  obtain ⟨o,ho,h⟩:=bs h
  refine zY (X:=(List zc)×Int) (B:=(List zc)) (R:=T0×T0×T1×(List zt)×(List zc)) (fun z=>[(1,.mpt 0 0 0),(2,.mpt 1 0 0),(3,.mpt 2 0 0),(6,iA z.2)]) (fun z=>[some (6,[(zd a)]),some (6,[[sA [],sA [],bA false,.lit (.slice none 0 0),.lit (.slice none 0 0),.lit (.slice none 0 0)]]),some (6,[[sA e,sA i,bA a.Interface,.isl 1 (map zf l),.msl 3 0 (length d),.msl 4 0 (length z.1)]]),some (3,map zJ d),some (10,map zh z.1)]) (fun b=>[(2,.mpt 0 0 0),(3,.mpt 1 0 0)]) (fun b=>[some (6,[[sA [],sA [],bA false,.lit (.slice none 0 0),.lit (.slice none 0 0),.lit (.slice none 0 0)]]),some (6,[[sA e,sA i,bA a.Interface,.isl 1 (map zf l),.msl 2 0 (length d),.msl 3 0 (length b)]]),some (3,map zJ d),some (10,map zh b)]) (fun r env st=>zaO Tryz.prog Tryz.f67 0 (.agg [sA r.1,sA r.2.1,bA a.Interface,.isl 1 (map zf r.2.2.1),.msl 0 0 (length r.2.2.2.1),.msl 1 0 (length r.2.2.2.2)]) [some (3,map zJ r.2.2.2.1),some (10,map zh r.2.2.2.2)] env st) ho ⟨[.old 0,.old 1,.old 2,.old 3,.fresh 10],cv y (.mpt y)<|cv y (.mpt y)<|cv y (.mpt y)<|ce y y<|cn,y,⟨⟨_,y,ziT (ciL y)⟩,⟨_,y,ziT (ciL y)⟩,⟨_,y,ziT ⟨ci y,ci y,ci y,ci y,.msl y,.nilown y,t⟩⟩,⟨_,y,zkb (fun _=>y)⟩,w,t⟩,y,k⟩ ?_ ?_ ?_
  ·
   rintro ⟨J,x⟩ r h
   replace h:zf2 a J x=some r:=h
   unfold zf2 at h
   refine zi ?_
   refine rg y<|u<|mv y<|u<|fa ti y y y<|u<|ld ti y y<|u<|lnI ti y y<|u<|lss ti y y<|u<|mv y<|z7 (j:=5) 2 y y y y y gpn (fun q=>g y q<|mv y<|g y q<|lss ti y y<|zb (egA [55,56] 2 q y y y y)) ze3<|zb ?_
   refine ze y (fun s=>?_) (fun s=>?_)
   ·
    replace h:=bT s h
    refine zg ?_
    refine zi ?_
    refine zs ?_
    obtain ⟨K,m,h⟩:=bs h
    obtain ⟨L,Q,h⟩:=bs h
    obtain ⟨A,S,h⟩:=bs h
    refine zjw [(1,.mpt 0 0 0),(2,.mpt 1 0 0),(3,.mpt 2 0 0),(6,iA x)] [some (6,[(zd a)]),some (6,[[sA [],sA [],bA false,.lit (.slice none 0 0),.lit (.slice none 0 0),.lit (.slice none 0 0)]]),some (6,[[sA e,sA i,bA a.Interface,.isl 1 (map zf l),.msl 3 0 (length d),.msl 4 0 (length A)]]),some (3,map zJ d),some (10,map zh A)] [8,9,11] [7,6,5,4,3,2,1,0] [(67,.agg (zh L)),(66,.agg (zh K)),(65,.ipt 10 (map zh a.Methods) (Int.toNat x) 0),(64,iA x),(63,.isl 10 (map zh a.Methods)),(62,.mpt 0 0 5),(61,.msl 4 0 (length J)),(60,.mpt 2 0 5)] 3 (zeo ⟨(pb y (pc (zqj K Q) y y y w)),(pb y (ldI ti y (zl m).2.2 y w)),(pb y (ixI ti y ti y y y m w)),pe,pe,pe,pe,pe,t⟩ ⟨(fun _ _=>⟨_,y,y,bl 5 ti y ti y (by decide) (by decide) y y y<|⟨(.msl 5 0 1),[],[(68,.msl 5 0 1)],y,y,kz,y,zeo ⟨pe,(pb y (ldI ti y (zl m).2.2 y w)),(pb y (ixI ti y ti y y y m w)),pe,pe,pe,pe,pe,t⟩ ⟨nv,(fun _ _=>⟨_,y,y,apM 6 ti y ti y y (by decide) ti y y y y (roX (f:=zh) (z:=[L]) y y) (fun _=>y) y S<|⟨(.msl 6 0 (length A)),[10],[(70,.mpt 2 0 5),(69,.msl 6 0 (length A))],y,y,kz,y,zeo ⟨pe,pe,(pb y (ldI ti y (zl m).2.2 y w)),(pb y (ixI ti y ti y y y m w)),pe,pe,pe,pe,pe,t⟩ ⟨nv,nv,(fun _ _=>⟨_,y,y,sto ti y y y<|⟨.any,[],[],y,y,kz,t,zh3 (zo [.old 0,.old 1,.old 2,.old 3,.old 6])⟩⟩),t⟩⟩⟩),nw,t⟩⟩⟩),nw,nw,t⟩) ?_
    refine rl y<|u<|mv y<|u<|add ti y y<|u<|asg y<|zb ?_
    obtain rfl:=sm h
    exact ⟨_,y,zo [.old 0,.old 1,.old 2,.old 3,.old 4]⟩
   ·
    replace h:=bF s h
    refine zE ?_
    obtain rfl:=sm h
    exact ⟨y,_,y,zo [.old 1,.old 2,.old 3,.old 4]⟩
  ·
   rintro T rfl
   replace h:zmT e i l d T=some r:=h
   unfold zmT at h
   refine zy ?_
   refine rg y<|u<|ld ti y y<|u<|sto ti y y y<|zb ?_
   refine zj ?_
   obtain rfl:=sm h
   exact ⟨_,y,zz [.old 2,.old 3]⟩
  ·
   rintro r' rfl env st hp
   obtain rfl:=sm h
   exact hp
 ·
  rintro r' rfl env st hp
  obtain rfl:=sm h
  exact hp
def zmS(a:List za):Option ((List za)):=
  some a
def zf0(c:List za)(d:List za)(b:Int):Option (Sum ((List za)×Int) (Sum ((List za)) ((List za)))):=
  cond ((decide (b<(length c:Int)))&&(decide (b<18))) ((idx c b).bind fun e=>(znu e).bind fun a=>(zh2 112 d [(za.mk a.1 a.2.1 e.Interface a.2.2.1 a.2.2.2.1 a.2.2.2.2)]).bind fun f=>some (.inl (f,(IntKind.i64.wrap (b+1))))) (some (.inr (.inl d)))
def znt(a:List za):Option ((List za)):=
  (zw (fun z=>zf0 a z.1 z.2) ([],0)).bind fun o=>zU o (fun b=>zmS b) some
theorem ztG(c:List za){r:(List za)}(h:znt c=some r):SC Tryz.prog 27 [.isl 6 (map zd c)] [] (.msl 0 0 (length r)) [.many 6 (map zd r)]:=by
 refine ⟨⟨zh0 (sz:=6) (fun _=>y),t⟩,zV Tryz.func27 y kz y ?_⟩
 unfold znt at h
 refine rg y<|u<|asg y<|zb ?_
 refine rg y<|u<|asg y<|zb ?_
 refine zi ?_
 refine rg y<|u<|asg y<|zb ?_
 obtain ⟨o,ho,h⟩:=bs h
 refine zY (X:=(List za)×Int) (B:=(List za)) (R:=(List za)) (fun z=>[(0,.isl 6 (map zd c)),(3,.msl 0 0 (length z.1)),(4,iA z.2)]) (fun z=>[some (6,map zd z.1)]) (fun b=>[(3,.msl 0 0 (length b))]) (fun b=>[some (6,map zd b)]) (fun r env st=>zaO Tryz.prog Tryz.f27 0 (.msl 0 0 (length r)) [some (6,map zd r)] env st) ho ⟨[.fresh 6],ce y y<|cv y (.nilown y)<|ce y y<|cn,y,⟨w,t⟩,y,k⟩ ?_ ?_ ?_
 ·
  rintro ⟨d,l⟩ r h
  replace h:zf0 c d l=some r:=h
  unfold zf0 at h
  refine zi ?_
  refine rg y<|u<|mv y<|u<|mv y<|u<|lnI ti y y<|u<|lss ti y y<|u<|mv y<|z7 (j:=4) 2 y y y y y gpn (fun e=>g y e<|mv y<|g y e<|lss ti y y<|zb (egA [10,11] 2 e y y y y)) ze3<|zb ?_
  refine ze y (fun f=>?_) (fun f=>?_)
  ·
   replace h:=bT f h
   refine zg ?_
   refine zi ?_
   refine zs ?_
   obtain ⟨i,m,h⟩:=bs h
   obtain ⟨a,q,h⟩:=bs h
   obtain ⟨s,n,h⟩:=bs h
   refine rl y<|u<|mv y<|u<|mv y<|u<|mv y<|u<|ixI ti y ti y y y m<|u<|ldI ti y (zl m).2.2 y<|u<|sx [] (ztI i q)<|zx (env0:=[(0,.isl 6 (map zd c)),(4,iA l),(15,.msl 0 0 (length d)),(20,.agg [sA a.1,sA a.2.1,bA i.Interface,.isl 1 (map zf a.2.2.1),.msl 1 0 (length a.2.2.2.1),.msl 2 0 (length a.2.2.2.2)])]) (st0:=[some (6,map zd d),some (3,map zJ a.2.2.2.1),some (10,map zh a.2.2.2.2)]) (zo [.old 0,.old 1,.old 2])<|u<|bl 3 ti y ti y (by decide) (by decide) y y y<|zx (env0:=[(0,.isl 6 (map zd c)),(4,iA l),(15,.msl 0 0 (length d)),(21,.msl 1 0 (length [(za.mk a.1 a.2.1 i.Interface a.2.2.1 a.2.2.2.1 a.2.2.2.2)]))]) (st0:=[some (6,map zd d),some (6,map zd [(za.mk a.1 a.2.1 i.Interface a.2.2.1 a.2.2.2.1 a.2.2.2.2)])]) (zo [.old 0,.old 3])<|u<|apM 2 ti y ti y y (by decide) ti y y y y (roM y) (fun _=>y) y n<|u<|asg y<|zb ?_
   refine rl y<|u<|mv y<|u<|add ti y y<|u<|asg y<|zb ?_
   obtain rfl:=sm h
   exact ⟨_,y,zo [.old 2]⟩
  ·
   replace h:=bF f h
   refine zE ?_
   obtain rfl:=sm h
   exact ⟨y,_,y,zo [.old 0]⟩
 ·
  rintro p rfl
  replace h:zmS p=some r:=h
  unfold zmS at h
  refine zy ?_
  refine rg y<|u<|mv y<|u<|asg y<|zb ?_
  refine zj ?_
  obtain rfl:=sm h
  exact ⟨_,y,zz [.old 0]⟩
 ·
  rintro r' rfl env st hp
  obtain rfl:=sm h
  exact hp
def zdQ:T1:=
  ([[79,98,106,101,99,116],[84,104,114,111,119,110],[78,117,108,108,69,114,114],[82,97,110,103,101,69,114,114],[77,97,116,104,69,114,114],[67,97,115,116,69,114,114],[83,105,122,101,69,114,114],[83,116,111,114,101,69,114,114],[73,110,105,116,69,114,114],[67,108,97,115,115,69,114,114]])
theorem zrO{r:T1}(h:zdQ=r):SC Tryz.prog 116 [] [] (.msl 0 0 (length r)) [.many 1 (map zf r)]:=by
 refine ⟨⟨zh0 (sz:=1) (fun _=>y),t⟩,zV Tryz.func116 y kz y ?_⟩
 unfold zdQ at h
 refine rg y<|u<|asg y<|zb ?_
 refine rg y<|u<|bl 0 ti y ti y (by decide) (by decide) y y y<|u<|asg y<|zb ?_
 refine zj ?_
 obtain rfl:=h
 exact ⟨_,y,zz [.old 0]⟩
def zcv:T1:=
  ([[79,98,106,101,99,116],[84,104,114,111,119,110],[78,117,108,108,69,114,114],[82,97,110,103,101,69,114,114],[77,97,116,104,69,114,114],[67,97,115,116,69,114,114],[83,105,122,101,69,114,114],[83,116,111,114,101,69,114,114],[73,110,105,116,69,114,114],[67,108,97,115,115,69,114,114]])
theorem zrh{r:T1}(h:zcv=r):SC Tryz.prog 62 [] [] (.msl 0 0 (length r)) [.many 1 (map zf r)]:=by
 refine ⟨⟨zh0 (sz:=1) (fun _=>y),t⟩,zV Tryz.func62 y kz y ?_⟩
 unfold zcv at h
 refine rg y<|u<|asg y<|zb ?_
 refine rg y<|u<|bl 0 ti y ti y (by decide) (by decide) y y y<|u<|asg y<|zb ?_
 refine zj ?_
 obtain rfl:=h
 exact ⟨_,y,zz [.old 0]⟩
def zky(a:List za):Option ((List za)):=
  some a
def zhF(c:List za)(d:Int)(e:T0)(a:T0):Option (Sum ((List za)×Int) (Sum ((List za)) ((List za)))):=
  (zh2 112 c ([(za.mk e a false [] [] [])])).bind fun b=>some (.inl (b,(IntKind.i64.wrap (d+1))))
def zkz(b:List za)(a:Int):Option (Sum ((List za)×Int) (Sum ((List za)) ((List za)))):=
  cond (decide (a<((length (zcv)):Int))) ((idx (zcv) a).bind fun c=>cond (decide (a<2)) ((idx ([[],[79,98,106,101,99,116]]) a).bind fun d=>zhF b a c d) (zhF b a c [84,104,114,111,119,110])) (some (.inr (.inl b)))
def zl7:Option ((List za)):=
  (zw (fun z=>zkz z.1 z.2) ([],0)).bind fun o=>zU o (fun b=>zky b) some
theorem zrk{r:(List za)}(h:zl7=some r):SC Tryz.prog 54 [] [] (.msl 0 0 (length r)) [.many 6 (map zd r)]:=by
 refine ⟨⟨zh0 (sz:=6) (fun _=>y),t⟩,zV Tryz.func54 y kz y ?_⟩
 unfold zl7 at h
 refine rg y<|u<|asg y<|zb ?_
 refine rg y<|u<|asg y<|zb ?_
 refine zi ?_
 refine rg y<|u<|sx [] (zrh y)<|zx (env0:=[(1,.lit (.slice none 0 0)),(5,.msl 0 0 (length (zcv)))]) (st0:=[some (1,map zf (zcv))]) (zo [.old 0])<|u<|lnM ti y y y<|u<|mv y<|zb ?_
 obtain ⟨o,ho,h⟩:=bs h
 refine zY (X:=(List za)×Int) (B:=(List za)) (R:=(List za)) (fun z=>[(1,.msl 0 0 (length z.1)),(5,.msl 1 0 (length (zcv))),(6,iA ((length (zcv)):Int)),(7,iA z.2)]) (fun z=>[some (6,map zd z.1),some (1,map zf (zcv))]) (fun b=>[(1,.msl 0 0 (length b))]) (fun b=>[some (6,map zd b)]) (fun r env st=>zaO Tryz.prog Tryz.f54 0 (.msl 0 0 (length r)) [some (6,map zd r)] env st) ho ⟨[.fresh 6,.old 0],cv y (.nilown y)<|cv y (.msl y)<|ce y y<|ce y y<|cn,y,⟨w,⟨_,y,zkb (fun _=>y)⟩,t⟩,y,k⟩ ?_ ?_ ?_
 ·
  rintro ⟨a,c⟩ r h
  replace h:zkz a c=some r:=h
  unfold zkz at h
  refine rg y<|u<|lss ti y y<|zb ?_
  refine zi ?_
  refine ze y (fun e=>?_) (fun e=>?_)
  ·
   replace h:=bT e h
   refine zg ?_
   refine zi ?_
   refine zs ?_
   obtain ⟨d,i,h⟩:=bs h
   refine rg y<|u<|mv y<|u<|ixM ti y ti y y y y i<|u<|ldM ti y y (zl i).2.2 y<|u<|asg y<|u<|asg y<|zb ?_
   refine rg y<|u<|mv y<|u<|bd ti y y y<|u<|al 2 ti y<|u<|sto ti y y y<|zb ?_
   refine zaX (X:=T0) (fun z=>[(1,.msl 0 0 (length a)),(4,.mpt 1 0 0),(5,.msl 2 0 (length (zcv))),(6,iA ((length (zcv)):Int)),(7,iA c)]) (fun z=>[some (6,map zd a),some (6,[[sA d,sA z,bA false,.lit (.slice none 0 0),.lit (.slice none 0 0),.lit (.slice none 0 0)]]),some (1,map zf (zcv))]) (fun z=>zhF a c d z=some r) ?_ ?_
   ·
    refine rg y<|u<|mv y<|u<|lss ti y y<|zb ?_
    refine ze y (fun f=>?_) (fun f=>?_)
    ·
     replace h:=bT f h
     obtain ⟨m,j,h⟩:=bs h
     exact rl y<|u<|bl 3 ti y ti y (by decide) (by decide) y y y<|u<|mv y<|zx (env0:=[(1,.msl 0 0 (length a)),(4,.mpt 1 0 0),(5,.msl 2 0 (length (zcv))),(6,iA ((length (zcv)):Int)),(7,iA c),(16,.msl 3 0 (length ([[],[79,98,106,101,99,116]]))),(17,iA c)]) (st0:=[some (6,map zd a),some (6,[[sA d,sA [84,104,114,111,119,110],bA false,.lit (.slice none 0 0),.lit (.slice none 0 0),.lit (.slice none 0 0)]]),some (1,map zf (zcv)),some (1,map zf ([[],[79,98,106,101,99,116]]))]) (zo [.old 0,.old 2,.old 1,.old 3])<|u<|ixM ti y ti y y y y j<|u<|ldM ti y y (zl j).2.2 y<|u<|fa ti y y y<|u<|sto ti y y y<|zb (⟨m,h,zo [.old 0,.old 1,.old 2]⟩)
    ·
     replace h:=bF f h
     refine zg ?_
     exact ⟨[84,104,114,111,119,110],h,zo [.old 0,.old 2,.old 1]⟩
   ·
    rintro g h
    replace h:zhF a c d g=some r:=h
    unfold zhF at h
    obtain ⟨p,n,h⟩:=bs h
    refine rl y<|u<|mv y<|u<|ld ti y y<|u<|bl 3 ti y ti y (by decide) (by decide) y y y<|zx (env0:=[(5,.msl 0 0 (length (zcv))),(6,iA ((length (zcv)):Int)),(7,iA c),(21,.msl 1 0 (length a)),(23,.msl 2 0 (length ([(za.mk d g false [] [] [])])))]) (st0:=[some (1,map zf (zcv)),some (6,map zd a),some (6,map zd ([(za.mk d g false [] [] [])]))]) (zo [.old 2,.old 0,.old 3])<|u<|apM 3 ti y ti y y (by decide) ti y y y y (roM y) (fun _=>y) y n<|u<|asg y<|zb ?_
    refine rl y<|u<|add ti y y<|u<|mv y<|zb ?_
    obtain rfl:=sm h
    exact ⟨_,y,zo [.old 3,.old 0]⟩
  ·
   replace h:=bF e h
   refine zE ?_
   obtain rfl:=sm h
   exact ⟨y,_,y,zo [.old 0]⟩
 ·
  rintro l rfl
  replace h:zky l=some r:=h
  unfold zky at h
  refine zy ?_
  refine rg y<|u<|mv y<|u<|asg y<|zb ?_
  refine zj ?_
  obtain rfl:=sm h
  exact ⟨_,y,zz [.old 0]⟩
 ·
  rintro r' rfl env st hp
  obtain rfl:=sm h
  exact hp
def zh7(a:za):Option (T1):=
  (zh2 16 [a.Super] a.Impl).bind fun b=>some b
theorem zkx(a:za){r:T1}(h:zh7 a=some r):SC Tryz.prog 57 [.agg (zd a)] [] (.msl 0 0 (length r)) [.many 1 (map zf r)]:=by
 refine ⟨⟨zh0 (sz:=1) (fun _=>y),t⟩,zV Tryz.func57 y kz y ?_⟩
 unfold zh7 at h
 refine rg y<|u<|bx 0 6 y y y y<|u<|asg y<|zb ?_
 obtain ⟨c,b,h⟩:=bs h
 refine rg y<|u<|fa ti y y y<|u<|ld ti y y<|u<|bl 1 ti y ti y (by decide) (by decide) y y y<|u<|fa ti y y y<|u<|ld ti y y<|u<|apM (l:=[a.Super]) (f:=zf) 2 ti y ti y y (by decide) ti y y y y roI (fun _=>y) y b<|u<|asg y<|zb ?_
 refine zj ?_
 obtain rfl:=sm h
 exact ⟨_,y,zz [.old 2]⟩
def zbQ(c:List za)(a:T2)(b:T0):Bool:=
  (Option.isSome (zcD b a))
theorem zfp(b:List za)(a:T2)(c:T0){r:Bool}(h:zbQ b a c=r):zG Tryz.prog 59 [.ipt 2 [[.isl 6 (map zd b),.imp (map (rKV (fun x=>iA x)) a)]] 0 0,sA c] (bA r):=by
 refine zr Tryz.func59 y kz y y ?_
 unfold zbQ at h
 refine rg y<|u<|asg y<|zb ?_
 refine zi ?_
 refine rg y<|u<|mv y<|u<|eqp ti y y y y y y<|zb ?_
 refine ze y (fun hx=>by cases hx) (fun _=>?_)
 refine zg ?_
 refine rg y<|u<|mv y<|u<|nc y y<|u<|fa ti y y y<|u<|ld ti y y<|u<|mv y<|u<|zC8 (g:=(fun x=>iA x)) (z:=0) (l:=a) y ti y y y y<|u<|mv y<|u<|ex y y<|u<|ex y y<|u<|asg y<|u<|asg y<|zb ?_
 refine rg y<|u<|mv y<|u<|asg y<|zb ?_
 refine zj ?_
 obtain rfl:=h
 exact ⟨_,y,zz []⟩
def zl6(a:T0)(b:List za)(c:T2):Bool:=
  (!(zbQ b c a))
theorem zri(a:T0)(b:List za)(c:T2){r:Bool}(h:zl6 a b c=r):zG Tryz.prog 58 [sA a,.ipt 1 [[.ipt 2 [[.isl 6 (map zd b),.imp (map (rKV (fun x=>iA x)) c)]] 0 0]] 0 0] (bA r):=by
 refine zr Tryz.func58 y kz y y ?_
 unfold zl6 at h
 refine rg y<|u<|asg y<|zb ?_
 refine rg y<|u<|ld ti y y<|u<|mv y<|u<|pc (zfp b c a y) y y y<|u<|nt y<|u<|asg y<|zb ?_
 refine zj ?_
 obtain rfl:=h
 exact ⟨_,y,zz []⟩
def zbs:Option (Int):=
  some (-1)
def zal(b:T1)(c:List za)(d:T2)(a:Int):Option (Sum (Int) (Sum (Unit) (Int))):=
  cond (decide (a<(length b:Int))) ((idx b a).bind fun e=>cond (zl6 e c d) (some (.inr (.inr a))) (some (.inl (IntKind.i64.wrap (a+1))))) (some (.inr (.inl ())))
def zbW(a:T1)(c:List za)(d:T2):Option (Int):=
  (zw (fun z=>zal a c d z) 0).bind fun o=>zU o (fun b=>zbs) some
theorem zgT(a:T1)(c:List za)(d:T2){r:Int}(h:zbW a c d=some r):zG Tryz.prog 110 [.isl 1 (map zf a),.fn (.func 58) [] [.ipt 1 [[.ipt 2 [[.isl 6 (map zd c),.imp (map (rKV (fun x=>iA x)) d)]] 0 0]] 0 0]] (iA r):=by
 refine zr Tryz.func110 y kz y y ?_
 unfold zbW at h
 refine rg y<|u<|asg y<|zb ?_
 refine zi ?_
 refine rg y<|u<|mv y<|u<|lnI ti y y<|u<|mv y<|zb ?_
 obtain ⟨o,ho,h⟩:=bs h
 refine zY (X:=Int) (B:=Unit) (R:=Int) (fun z=>[(0,.isl 1 (map zf a)),(1,.fn (.func 58) [] [.ipt 1 [[.ipt 2 [[.isl 6 (map zd c),.imp (map (rKV (fun x=>iA x)) d)]] 0 0]] 0 0]),(7,iA (length a:Int)),(8,iA z)]) (fun z=>[]) (fun b=>[]) (fun b=>[]) (fun r env st=>zaO Tryz.prog Tryz.f110 0 (iA r) [] env st) ho (zo []) ?_ ?_ ?_
 ·
  rintro i r h
  replace h:zal a c d i=some r:=h
  unfold zal at h
  refine rg y<|u<|lss ti y y<|zb ?_
  refine zi ?_
  refine ze y (fun e=>?_) (fun e=>?_)
  ·
   replace h:=bT e h
   refine zg ?_
   refine zi ?_
   refine zs ?_
   refine rg y<|u<|mv y<|u<|asg y<|zb ?_
   obtain ⟨j,g,h⟩:=bs h
   refine rg y<|u<|mv y<|u<|mv y<|u<|mv y<|u<|ixI ti y ti y y y g<|u<|ldI ti y (zl g).2.2 y<|u<|pc (zri j c d y) y y y<|zb ?_
   refine ze y (fun f=>?_) (fun f=>?_)
   ·
    replace h:=bT f h
    refine rg y<|u<|mv y<|u<|asg y<|zb ?_
    refine zj ?_
    obtain rfl:=sm h
    exact ⟨_,y,_,y,zz []⟩
   ·
    replace h:=bF f h
    refine zg ?_
    refine rl y<|u<|add ti y y<|u<|mv y<|zb ?_
    obtain rfl:=sm h
    exact ⟨_,y,zo []⟩
  ·
   replace h:=bF e h
   refine zE ?_
   obtain rfl:=sm h
   exact ⟨y,_,y,zo []⟩
 ·
  rintro ⟨⟩ rfl
  replace h:zbs=some r:=h
  unfold zbs at h
  refine zy ?_
  refine rg y<|u<|asg y<|zb ?_
  refine zj ?_
  obtain rfl:=sm h
  exact ⟨_,y,zz []⟩
 ·
  rintro r' rfl env st hp
  obtain rfl:=sm h
  exact hp
def zaK(a:T1)(b:List za)(c:T2):Option (Bool):=
  (zbW a b c).bind fun d=>some (decide (0≤d))
theorem zgg(a:T1)(b:List za)(c:T2){r:Bool}(h:zaK a b c=some r):zG Tryz.prog 56 [.isl 1 (map zf a),.fn (.func 58) [] [.ipt 1 [[.ipt 2 [[.isl 6 (map zd b),.imp (map (rKV (fun x=>iA x)) c)]] 0 0]] 0 0]] (bA r):=by
 refine zr Tryz.func56 y kz y y ?_
 unfold zaK at h
 refine rg y<|u<|asg y<|zb ?_
 obtain ⟨e,d,h⟩:=bs h
 refine rg y<|u<|mv y<|u<|mv y<|u<|pc (zgT a b c d) y y y<|u<|geq ti y y<|u<|asg y<|zb ?_
 refine zj ?_
 obtain rfl:=sm h
 exact ⟨_,y,zz []⟩
def zcZ(a:List za)(b:T2)(c:T0):Option (za):=
  (idx a (Option.getD (zcD c b) 0)).bind fun d=>some d
theorem zep(b:List za)(a:T2)(c:T0){r:za}(h:zcZ b a c=some r):zG Tryz.prog 111 [.ipt 2 [[.isl 6 (map zd b),.imp (map (rKV (fun x=>iA x)) a)]] 0 0,sA c] (.agg (zd r)):=by
 refine zr Tryz.func111 y kz y y ?_
 unfold zcZ at h
 refine rg y<|u<|al 0 ti y<|zb ?_
 obtain ⟨d,e,h⟩:=bs h
 refine rdA [(4,.mpt 0 0 0)] [some (6,[(zd d)])] [12] [11,10,9,8,7,6,5,4,3,2,1,0] [(16,.agg (zd d)),(15,.ipt 6 (map zd b) (Int.toNat (Option.getD (zcD c a) 0)) 0),(14,iA (Option.getD (zcD c a) 0)),(13,sA c),(12,.imp (map (rKV (fun x=>iA x)) a)),(11,.ipt 2 [[.isl 6 (map zd b),.imp (map (rKV (fun x=>iA x)) a)]] 0 1),(10,.ipt 2 [[.isl 6 (map zd b),.imp (map (rKV (fun x=>iA x)) a)]] 0 0),(9,.ipt 2 [[.isl 6 (map zd b),.imp (map (rKV (fun x=>iA x)) a)]] 0 0),(8,.isl 6 (map zd b)),(7,.ipt 2 [[.isl 6 (map zd b),.imp (map (rKV (fun x=>iA x)) a)]] 0 0),(6,.ipt 2 [[.isl 6 (map zd b),.imp (map (rKV (fun x=>iA x)) a)]] 0 0),(5,.ipt 2 [[.isl 6 (map zd b),.imp (map (rKV (fun x=>iA x)) a)]] 0 0)] 1 (zeo ⟨(pb y (ldI ti y (zl e).2.2 y w)),(pb y (ixI ti y ti y y y e w)),(pb y (zDg (g:=(fun x=>iA x)) (z:=0) (l:=a) y ti y y y y w)),pe,pe,pe,pe,pe,pe,pe,pe,pe,t⟩ ⟨(fun _ _=>⟨_,y,y,sto ti y y y<|⟨.any,[],[],y,y,kz,t,zh3 (zo [.old 0])⟩⟩),t⟩) ?_
 refine zj ?_
 obtain rfl:=sm h
 exact ⟨_,y,zz []⟩
def zgZ(a:T0)(b:List za)(c:T2):Option (Bool):=
  (zcZ b c a).bind fun d=>some (!d.Interface)
theorem zmI(a:T0)(b:List za)(c:T2){r:Bool}(h:zgZ a b c=some r):zG Tryz.prog 112 [sA a,.ipt 1 [[.ipt 2 [[.isl 6 (map zd b),.imp (map (rKV (fun x=>iA x)) c)]] 0 0]] 0 0] (bA r):=by
 refine zr Tryz.func112 y kz y y ?_
 unfold zgZ at h
 refine rg y<|u<|asg y<|zb ?_
 obtain ⟨e,d,h⟩:=bs h
 refine rg y<|u<|ld ti y y<|u<|mv y<|u<|pc (zep b c a d) y y y<|u<|fdV y y<|u<|nt y<|u<|asg y<|zb ?_
 refine zj ?_
 obtain rfl:=sm h
 exact ⟨_,y,zz []⟩
def zbt:Option (Int):=
  some (-1)
def zam(b:T1)(c:List za)(d:T2)(a:Int):Option (Sum (Int) (Sum (Unit) (Int))):=
  cond (decide (a<(length b:Int))) ((idx b a).bind fun e=>(zgZ e c d).bind fun f=>cond f (some (.inr (.inr a))) (some (.inl (IntKind.i64.wrap (a+1))))) (some (.inr (.inl ())))
def zbX(a:T1)(c:List za)(d:T2):Option (Int):=
  (zw (fun z=>zam a c d z) 0).bind fun o=>zU o (fun b=>zbt) some
theorem zgU(a:T1)(c:List za)(d:T2){r:Int}(h:zbX a c d=some r):zG Tryz.prog 110 [.isl 1 (map zf a),.fn (.func 112) [] [.ipt 1 [[.ipt 2 [[.isl 6 (map zd c),.imp (map (rKV (fun x=>iA x)) d)]] 0 0]] 0 0]] (iA r):=by
 refine zr Tryz.func110 y kz y y ?_
 unfold zbX at h
 refine rg y<|u<|asg y<|zb ?_
 refine zi ?_
 refine rg y<|u<|mv y<|u<|lnI ti y y<|u<|mv y<|zb ?_
 obtain ⟨o,ho,h⟩:=bs h
 refine zY (X:=Int) (B:=Unit) (R:=Int) (fun z=>[(0,.isl 1 (map zf a)),(1,.fn (.func 112) [] [.ipt 1 [[.ipt 2 [[.isl 6 (map zd c),.imp (map (rKV (fun x=>iA x)) d)]] 0 0]] 0 0]),(7,iA (length a:Int)),(8,iA z)]) (fun z=>[]) (fun b=>[]) (fun b=>[]) (fun r env st=>zaO Tryz.prog Tryz.f110 0 (iA r) [] env st) ho (zo []) ?_ ?_ ?_
 ·
  rintro i r h
  replace h:zam a c d i=some r:=h
  unfold zam at h
  refine rg y<|u<|lss ti y y<|zb ?_
  refine zi ?_
  refine ze y (fun e=>?_) (fun e=>?_)
  ·
   replace h:=bT e h
   refine zg ?_
   refine zi ?_
   refine zs ?_
   refine rg y<|u<|mv y<|u<|asg y<|zb ?_
   obtain ⟨j,g,h⟩:=bs h
   obtain ⟨m,l,h⟩:=bs h
   refine rg y<|u<|mv y<|u<|mv y<|u<|mv y<|u<|ixI ti y ti y y y g<|u<|ldI ti y (zl g).2.2 y<|u<|pc (zmI j c d l) y y y<|zb ?_
   refine ze y (fun f=>?_) (fun f=>?_)
   ·
    replace h:=bT f h
    refine rg y<|u<|mv y<|u<|asg y<|zb ?_
    refine zj ?_
    obtain rfl:=sm h
    exact ⟨_,y,_,y,zz []⟩
   ·
    replace h:=bF f h
    refine zg ?_
    refine rl y<|u<|add ti y y<|u<|mv y<|zb ?_
    obtain rfl:=sm h
    exact ⟨_,y,zo []⟩
  ·
   replace h:=bF e h
   refine zE ?_
   obtain rfl:=sm h
   exact ⟨y,_,y,zo []⟩
 ·
  rintro ⟨⟩ rfl
  replace h:zbt=some r:=h
  unfold zbt at h
  refine zy ?_
  refine rg y<|u<|asg y<|zb ?_
  refine zj ?_
  obtain rfl:=sm h
  exact ⟨_,y,zz []⟩
 ·
  rintro r' rfl env st hp
  obtain rfl:=sm h
  exact hp
def zaL(a:T1)(b:List za)(c:T2):Option (Bool):=
  (zbX a b c).bind fun d=>some (decide (0≤d))
theorem zgh(a:T1)(b:List za)(c:T2){r:Bool}(h:zaL a b c=some r):zG Tryz.prog 56 [.isl 1 (map zf a),.fn (.func 112) [] [.ipt 1 [[.ipt 2 [[.isl 6 (map zd b),.imp (map (rKV (fun x=>iA x)) c)]] 0 0]] 0 0]] (bA r):=by
 refine zr Tryz.func56 y kz y y ?_
 unfold zaL at h
 refine rg y<|u<|asg y<|zb ?_
 obtain ⟨e,d,h⟩:=bs h
 refine rg y<|u<|mv y<|u<|mv y<|u<|pc (zgU a b c d) y y y<|u<|geq ti y y<|u<|asg y<|zb ?_
 refine zj ?_
 obtain rfl:=sm h
 exact ⟨_,y,zz []⟩
def zhE:Option (Bool):=
  some true
def zgn(a:Int)(b:T1):Option (Sum (T1×Int) (Sum (Unit) (Bool))):=
  some (.inl (b,(IntKind.i64.wrap (a+1))))
def zd9(a:Int)(b:T1):Option (Sum (T1×Int) (Sum (T1) (Bool))):=
  some (.inl (b,(IntKind.i64.wrap (a+1))))
def zcL(d:T1)(a:T1)(b:Int):Option (Sum (T1×Int) (Sum (T1) (Bool))):=
  cond (decide (b<((length d):Int))) ((idx d b).bind fun c=>(cond (!(c == [])) ((zK a c).bind fun e=>some (!e)) (some false)).bind fun f=>cond f ((zh2 16 a [c]).bind fun g=>zd9 b g) (zd9 b a)) (some (.inr (.inl a)))
def zck(h:List za)(i:T2)(j:za)(a:T1)(c:Int):Option (Sum (T1×Int) (Sum (Unit) (Bool))):=
  cond (decide (c<((length a):Int))) ((idx a c).bind fun d=>cond (d == j.Name) (some (.inr (.inr false))) ((idx a c).bind fun e=>(zcZ h i e).bind fun f=>(zh7 f).bind fun g=>(zw (fun z=>zcL g z.1 z.2) (a,0)).bind fun o=>zU o (fun b=>zgn c b) (fun r=>some (.inr (.inr r))))) (some (.inr (.inl ())))
def zfA(c:List za)(d:T2)(a:za):Option (Bool):=
  (zcZ c d a.Super).bind fun e=>(cond e.Interface (some true) ((zaL a.Impl c d).bind fun f=>some f)).bind fun g=>cond g (some false) ((zh7 a).bind fun h=>(zw (fun z=>zck c d a z.1 z.2) (h,0)).bind fun o=>zU o (fun b=>zhE) some)
theorem zn6(e:List za)(i:T2)(d:za){r:Bool}(h:zfA e i d=some r):zG Tryz.prog 60 [.ipt 2 [[.isl 6 (map zd e),.imp (map (rKV (fun x=>iA x)) i)]] 0 0,.agg (zd d)] (bA r):=by
 refine zr Tryz.func60 y kz y y ?_
 unfold zfA at h
 refine rg y<|u<|bx 0 1 y y y y<|u<|bx 1 6 y y y y<|u<|asg y<|zb ?_
 refine zi ?_
 obtain ⟨v4,Y,h⟩:=bs h
 obtain ⟨Z,E,h⟩:=bs h
 refine rg y<|u<|ld ti y y<|u<|fa ti y y y<|u<|ld ti y y<|u<|pc (zep e i d.Super Y) y y y<|u<|fdV y y<|u<|mv y<|zcU (x:=Z) (j:=5) 4 y y y y y gpn (fun p=>by replace E:=bF p E;obtain ⟨v5,q3,E⟩:=bs E;obtain rfl:=sm E;exact g y p<|fa ti y y y<|g y p<|ld ti y y<|g y p<|mf y y<|g y p<|pcs (zgh d.Impl e i q3) y y (.cons (si y) (.cons (zh4 t ⟨(zcT y ⟨(si y),t⟩),t⟩) .nil)) zcn<|zb (eg [15,16,17,18] 4 y y y y)) (fun hb=>(sm (bT hb E)).symm)<|zb ?_
 refine ze y (fun F=>?_) (fun F=>?_)
 ·
  replace h:=bT F h
  refine rg y<|u<|asg y<|zb ?_
  refine zj ?_
  obtain rfl:=sm h
  exact ⟨_,y,zz []⟩
 ·
  replace h:=bF F h
  refine zg ?_
  obtain ⟨N,q6,h⟩:=bs h
  refine rg y<|u<|ld ti y y<|u<|sx [] (zkx d q6)<|zx (env0:=[(2,.mpt 0 0 0),(3,.mpt 1 0 0),(21,.msl 2 0 (length N))]) (st0:=[some (1,[[.ipt 2 [[.isl 6 (map zd e),.imp (map (rKV (fun x=>iA x)) i)]] 0 0]]),some (6,[(zd d)]),some (1,map zf N)]) (zo [.old 0,.old 1,.old 2])<|u<|asg y<|zb ?_
  refine zi ?_
  refine rg y<|u<|asg y<|zb ?_
  obtain ⟨o,ho,h⟩:=bs h
  refine zY (X:=T1×Int) (B:=Unit) (R:=Bool) (fun z=>[(2,.mpt 0 0 0),(3,.mpt 1 0 0),(5,.msl 2 0 (length z.1)),(6,iA z.2)]) (fun z=>[some (1,[[.ipt 2 [[.isl 6 (map zd e),.imp (map (rKV (fun x=>iA x)) i)]] 0 0]]),some (6,[(zd d)]),some (1,map zf z.1)]) (fun b=>[]) (fun b=>[]) (fun r env st=>zaO Tryz.prog Tryz.f60 0 (bA r) [] env st) ho (zo [.old 0,.old 1,.old 2]) ?_ ?_ ?_
  ·
   rintro ⟨l,c⟩ r h
   replace h:zck e i d l c=some r:=h
   unfold zck at h
   refine zi ?_
   refine rg y<|u<|mv y<|u<|mv y<|u<|lnM ti y y y<|u<|lss ti y y<|zb ?_
   refine ze y (fun q=>?_) (fun q=>?_)
   ·
    replace h:=bT q h
    refine zg ?_
    refine zi ?_
    refine zs ?_
    refine zi ?_
    obtain ⟨G,I,h⟩:=bs h
    refine rdA [(2,.mpt 0 0 0),(3,.mpt 1 0 0),(5,.msl 2 0 (length l)),(6,iA c),(34,bA (G == d.Name))] [some (1,[[.ipt 2 [[.isl 6 (map zd e),.imp (map (rKV (fun x=>iA x)) i)]] 0 0]]),some (6,[(zd d)]),some (1,map zf l)] [] [6,5,4,3,2,1,0] [(34,bA (G == d.Name)),(33,sA d.Name),(32,.mpt 1 0 0),(31,sA G),(30,.mpt 2 (Int.toNat c) 0),(29,iA c),(28,.msl 2 0 (length l))] 0 (zhA ⟨pe,pe,pe,(pb y (ldM ti y y (zl I).2.2 y w)),(pb y (ixM ti y ti y y y y I w)),pe,pe,t⟩ (zo [.old 0,.old 1,.old 2])) ?_
    refine ze y (fun s=>?_) (fun s=>?_)
    ·
     replace h:=bT s h
     refine rg y<|u<|asg y<|zb ?_
     refine zj ?_
     obtain rfl:=sm h
     exact ⟨_,y,_,y,zz []⟩
    ·
     replace h:=bF s h
     refine zg ?_
     obtain ⟨J,C,h⟩:=bs h
     obtain ⟨K,O,h⟩:=bs h
     obtain ⟨a,P,h⟩:=bs h
     refine rdA [(2,.mpt 0 0 0),(3,.mpt 1 0 0),(5,.msl 2 0 (length l)),(6,iA c),(41,.msl 3 0 (length a)),(42,iA ((length a):Int)),(43,iA 0)] [some (1,[[.ipt 2 [[.isl 6 (map zd e),.imp (map (rKV (fun x=>iA x)) i)]] 0 0]]),some (6,[(zd d)]),some (1,map zf l),some (1,map zf a)] [6] [8,5,4,3,2,1,0] [(43,iA 0),(40,.agg (zd K)),(39,sA J),(38,.mpt 2 (Int.toNat c) 0),(37,iA c),(36,.msl 2 0 (length l)),(35,.ipt 2 [[.isl 6 (map zd e),.imp (map (rKV (fun x=>iA x)) i)]] 0 0)] 1 (zeo ⟨pe,(pb y (pc (zep e i J O) y y y w)),(pb y (ldM ti y y (zl C).2.2 y w)),(pb y (ixM ti y ti y y y y C w)),pe,pe,pe,t⟩ ⟨(fun _ _=>⟨_,y,y,sx [] (zkx K P)<|⟨(.msl 3 0 (length a)),[7],[(42,iA ((length a):Int)),(41,.msl 3 0 (length a))],y,y,kz,y,zhA ⟨(pb y (lnM ti y y y w)),pe,pe,(pb y (ldM ti y y (zl C).2.2 y w)),(pb y (ixM ti y ti y y y y C w)),pe,pe,pe,t⟩ (zo [.old 0,.old 1,.old 2,.old 3])⟩⟩),t⟩) ?_
     obtain ⟨o,ho,h⟩:=bs h
     refine zY (X:=T1×Int) (B:=T1) (R:=Bool) (fun z=>[(2,.mpt 0 0 0),(3,.mpt 1 0 0),(5,.msl 2 0 (length z.1)),(6,iA c),(41,.msl 3 0 (length a)),(42,iA ((length a):Int)),(43,iA z.2)]) (fun z=>[some (1,[[.ipt 2 [[.isl 6 (map zd e),.imp (map (rKV (fun x=>iA x)) i)]] 0 0]]),some (6,[(zd d)]),some (1,map zf z.1),some (1,map zf a)]) (fun b=>[(2,.mpt 0 0 0),(3,.mpt 1 0 0),(5,.msl 2 0 (length b)),(6,iA c)]) (fun b=>[some (1,[[.ipt 2 [[.isl 6 (map zd e),.imp (map (rKV (fun x=>iA x)) i)]] 0 0]]),some (6,[(zd d)]),some (1,map zf b)]) (fun r env st=>zaO Tryz.prog Tryz.f60 0 (bA r) [] env st) ho (zo [.old 0,.old 1,.old 2,.old 3]) ?_ ?_ ?_
     ·
      rintro ⟨H,D⟩ r h
      replace h:zcL a H D=some r:=h
      unfold zcL at h
      refine rg y<|u<|lss ti y y<|zb ?_
      refine zi ?_
      refine ze y (fun v=>?_) (fun v=>?_)
      ·
       replace h:=bT v h
       refine zg ?_
       refine zaX (X:=T1) (fun z=>[(2,.mpt 0 0 0),(3,.mpt 1 0 0),(5,.msl 2 0 (length z)),(6,iA c),(41,.msl 3 0 (length a)),(42,iA ((length a):Int)),(43,iA D)]) (fun z=>[some (1,[[.ipt 2 [[.isl 6 (map zd e),.imp (map (rKV (fun x=>iA x)) i)]] 0 0]]),some (6,[(zd d)]),some (1,map zf z),some (1,map zf a)]) (fun z=>zd9 D z=some r) ?_ ?_
       ·
        refine zs ?_
        obtain ⟨L,M,h⟩:=bs h
        refine rg y<|u<|ixM ti y ti y y y y M<|u<|ldM ti y y (zl M).2.2 y<|u<|asg y<|zb ?_
        obtain ⟨Q,n,h⟩:=bs h
        refine rg y<|u<|mv y<|u<|sne ti y y<|u<|mv y<|z7 (x:=Q) (j:=2) 4 y y y y y gpn (fun m=>by replace n:=bT m n;obtain ⟨v45,S,n⟩:=bs n;obtain rfl:=sm n;exact g y m<|mv y<|g y m<|mv y<|g y m<|pcs (zaI H L S) y y (.cons (zhm y (fun _=>y)) (.cons (si y) .nil)) zcn<|g y m<|nt y<|zb (eg [50,51,52,53] 4 y y y y)) (fun hb=>(sm (bF hb n)).symm)<|zb ?_
        refine ze y (fun A=>?_) (fun A=>?_)
        ·
         replace h:=bT A h
         obtain ⟨T,U,h⟩:=bs h
         exact rl y<|u<|mv y<|u<|mv y<|u<|bl 4 ti y ti y (by decide) (by decide) y y y<|u<|apM 5 ti y ti y y (by decide) ti y y y y (roX (f:=zf) (z:=[L]) y y) (fun _=>y) y U<|u<|asg y<|zb (⟨T,h,zo [.old 0,.old 1,.old 5,.old 3]⟩)
        ·
         replace h:=bF A h
         refine zg ?_
         exact ⟨H,h,zo [.old 0,.old 1,.old 2,.old 3]⟩
       ·
        rintro V h
        replace h:zd9 D V=some r:=h
        unfold zd9 at h
        refine rl y<|u<|add ti y y<|u<|mv y<|zb ?_
        obtain rfl:=sm h
        exact ⟨_,y,zo [.old 0,.old 1,.old 2,.old 3]⟩
      ·
       replace h:=bF v h
       refine zE ?_
       obtain rfl:=sm h
       exact ⟨y,_,y,zo [.old 0,.old 1,.old 2]⟩
     ·
      rintro W rfl
      replace h:zgn c W=some r:=h
      unfold zgn at h
      refine zy ?_
      refine rl y<|u<|mv y<|u<|add ti y y<|u<|asg y<|zb ?_
      obtain rfl:=sm h
      exact ⟨_,y,zo [.old 0,.old 1,.old 2]⟩
     ·
      rintro r' rfl env st hp
      obtain rfl:=sm h
      exact ⟨_,y,hp⟩
   ·
    replace h:=bF q h
    refine zE ?_
    obtain rfl:=sm h
    exact ⟨y,_,y,zo []⟩
  ·
   rintro ⟨⟩ rfl
   replace h:zhE=some r:=h
   unfold zhE at h
   refine zy ?_
   refine rg y<|u<|asg y<|zb ?_
   refine zj ?_
   obtain rfl:=sm h
   exact ⟨_,y,zz []⟩
  ·
   rintro r' rfl env st hp
   obtain rfl:=sm h
   exact hp
def zmJ(a:List za)(b:T2):Option ((Option zad)×Int):=
  some ((some (zad.mk a b)),0)
def zfX(b:List za)(c:List za)(d:T2)(a:Int):Option (Sum (Int) (Sum (Unit) ((Option zad)×Int))):=
  cond (decide (a<(length b:Int))) ((idx b a).bind fun e=>(zfA c d e).bind fun f=>cond (!f) (some (.inr (.inr (none,1)))) (some (.inl (IntKind.i64.wrap (a+1))))) (some (.inr (.inl ())))
def zku(d:List za)(a:List za)(c:T2):Option ((Option zad)×Int):=
  (zw (fun z=>zfX d a c z) 0).bind fun o=>zU o (fun b=>zmJ a c) some
def zfW(b:List za)(c:List za)(d:T2)(a:Int):Option (Sum (Int) (Sum (Unit) ((Option zad)×Int))):=
  cond (decide (a<(length b:Int))) ((idx b a).bind fun e=>(zh7 e).bind fun f=>(zaK f c d).bind fun g=>cond g (some (.inr (.inr (none,4)))) (some (.inl (IntKind.i64.wrap (a+1))))) (some (.inr (.inl ())))
def zkt(d:List za)(a:List za)(c:T2):Option ((Option zad)×Int):=
  (zw (fun z=>zfW d a c z) 0).bind fun o=>zU o (fun b=>zku d a c) some
def zdo(e:List za)(b:List za)(c:T2)(d:Int):Option (Sum ((List za)×T2×Int) (Sum ((List za)×T2) ((Option zad)×Int))):=
  cond (decide (d<(length e:Int))) ((idx e d).bind fun a=>(cond (Option.isSome (zcD a.Name c)) (some true) ((zlj a).bind fun f=>some (!f))).bind fun g=>cond g (some (.inr (.inr (none,1)))) ((zh2 112 b [a]).bind fun h=>some (.inl (h,(zgN a.Name ((length b):Int) c),(IntKind.i64.wrap (d+1)))))) (some (.inr (.inl (b,c))))
def zks(a:List za)(c:(List za))(d:T2):Option ((Option zad)×Int):=
  (zw (fun z=>zdo a z.1 z.2.1 z.2.2) (c,d,0)).bind fun o=>zU o (fun b=>zkt a b.1 b.2) some
def zkv(b:(List za))(c:T2)(a:Int):Option (Sum (T2×Int) (Sum (T2) ((Option zad)×Int))):=
  cond (decide (a<((length b):Int))) ((idx b a).bind fun d=>some (.inl ((zgN d.Name a c),(IntKind.i64.wrap (a+1))))) (some (.inr (.inl c)))
def zkr(a:List za):Option ((Option zad)×Int):=
  cond (decide (16<(length a:Int))) (some (none,3)) ((zl7).bind fun c=>(zw (fun z=>zkv c z.1 z.2) ([],0)).bind fun o=>zU o (fun b=>zks a c b) some)
theorem zmK(a:List za){r:(Option zad)×Int}(h:zkr a=some r):zG Tryz.prog 23 [.isl 6 (map zd a)] (.tup [zlf 2 zeT r.1,iA r.2]):=by
 refine zr Tryz.func23 y kz y (zAc (zyF (zuD (fun _=>y)) (y))) ?_
 unfold zkr at h
 refine rg y<|u<|asg y<|u<|asg y<|zb ?_
 refine zi ?_
 refine rg y<|u<|mv y<|u<|lnI ti y y<|u<|gtr ti y y<|zb ?_
 refine ze y (fun K=>?_) (fun K=>?_)
 ·
  replace h:=bT K h
  refine rg y<|u<|asg y<|u<|asg y<|zb ?_
  refine zj ?_
  obtain rfl:=sm h
  exact ⟨_,y,zz []⟩
 ·
  replace h:=bF K h
  refine zg ?_
  obtain ⟨p,q2,h⟩:=bs h
  refine rg y<|u<|sx [] (zrk q2)<|zx (env0:=[(0,.isl 6 (map zd a)),(18,.msl 0 0 (length p))]) (st0:=[some (6,map zd p)]) (zo [.old 0])<|u<|mmk (e:=3) 1 y y<|u<|bd ti y y y<|u<|bx 2 2 y y y y<|u<|al 3 ti y<|u<|sto ti y y y<|zb ?_
  refine zi ?_
  refine rg y<|u<|ld ti y y<|u<|nc y y<|u<|fa ti y y y<|u<|ld ti y y<|u<|lnM ti y y y<|u<|mv y<|zb ?_
  obtain ⟨o,ho,h⟩:=bs h
  refine zY (X:=T2×Int) (B:=T2) (R:=(Option zad)×Int) (fun z=>[(0,.isl 6 (map zd a)),(4,.mpt 0 0 0),(25,.msl 2 0 (length p)),(26,iA ((length p):Int)),(27,iA z.2)]) (fun z=>[some (1,[[.mpt 1 0 0]]),some (2,[[.msl 2 0 (length p),.mmp 3]]),some (6,map zd p),some (2,map (rKV (fun x=>iA x)) z.1)]) (fun b=>[(0,.isl 6 (map zd a)),(4,.mpt 0 0 0)]) (fun b=>[some (1,[[.mpt 1 0 0]]),some (2,[[.msl 2 0 (length p),.mmp 3]]),some (6,map zd p),some (2,map (rKV (fun x=>iA x)) b)]) (fun r env st=>zaO Tryz.prog Tryz.f23 0 (.tup [zlf 2 zeT r.1,iA r.2]) [] env st) ho (zo [.old 3,.old 2,.old 0,.old 1]) ?_ ?_ ?_
  ·
   rintro ⟨T,L⟩ r h
   replace h:zkv p T L=some r:=h
   unfold zkv at h
   refine rg y<|u<|lss ti y y<|zb ?_
   refine zi ?_
   refine ze y (fun M=>?_) (fun M=>?_)
   ·
    replace h:=bT M h
    refine zg ?_
    refine zi ?_
    refine zs ?_
    obtain ⟨U,V,h⟩:=bs h
    refine rg y<|u<|mv y<|u<|ixM ti y ti y y y y V<|u<|ldM ti y y (zl V).2.2 y<|u<|al 4 ti y<|u<|asg y<|u<|sto ti y y y<|zb ?_
    refine zjw [(0,.isl 6 (map zd a)),(4,.mpt 0 0 0),(25,.msl 2 0 (length p)),(26,iA ((length p):Int)),(27,iA L)] [some (1,[[.mpt 1 0 0]]),some (2,[[.msl 2 0 (length p),.mmp 3]]),some (6,map zd p),some (2,map (rKV (fun x=>iA x)) (zgN U.Name L T))] [7] [6,5,4,3,2,1,0] [(38,iA L),(37,sA U.Name),(36,.mpt 4 0 0),(35,.mmp 3),(34,.mpt 1 0 1),(33,.mpt 1 0 0),(32,.mpt 1 0 0)] 1 (zmt ⟨(fun _ _=>⟨_,y,y,mup (v:=L) (g:=(fun x=>iA x)) (l:=T) (s:=U.Name) y y y y y y<|⟨.any,[],[],y,y,kz,t,zh3 (zo [.old 0,.old 1,.old 2,.old 3])⟩⟩),t⟩) ?_
    refine rl y<|u<|add ti y y<|u<|mv y<|zb ?_
    obtain rfl:=sm h
    exact ⟨_,y,zo [.old 0,.old 1,.old 2,.old 3]⟩
   ·
    replace h:=bF M h
    refine zE ?_
    obtain rfl:=sm h
    exact ⟨y,_,y,zo [.old 0,.old 1,.old 2,.old 3]⟩
  ·
   rintro v9 rfl
   replace h:zks a p v9=some r:=h
   unfold zks at h
   refine zy ?_
   refine zi ?_
   refine rg y<|u<|mv y<|u<|lnI ti y y<|u<|mv y<|zb ?_
   obtain ⟨o,ho,h⟩:=bs h
   refine zY (X:=(List za)×T2×Int) (B:=(List za)×T2) (R:=(Option zad)×Int) (fun z=>[(0,.isl 6 (map zd a)),(4,.mpt 0 0 0),(40,.isl 6 (map zd a)),(41,iA (length a:Int)),(42,iA z.2.2)]) (fun z=>[some (1,[[.mpt 1 0 0]]),some (2,[[.msl 2 0 (length z.1),.mmp 3]]),some (6,map zd z.1),some (2,map (rKV (fun x=>iA x)) z.2.1)]) (fun b=>[(0,.isl 6 (map zd a)),(4,.mpt 0 0 0)]) (fun b=>[some (1,[[.mpt 1 0 0]]),some (2,[[.msl 2 0 (length b.1),.mmp 3]]),some (6,map zd b.1),some (2,map (rKV (fun x=>iA x)) b.2)]) (fun r env st=>zaO Tryz.prog Tryz.f23 0 (.tup [zlf 2 zeT r.1,iA r.2]) [] env st) ho (zo [.old 0,.old 1,.old 2,.old 3]) ?_ ?_ ?_
   ·
    rintro ⟨n,i,I⟩ r h
    replace h:zdo a n i I=some r:=h
    unfold zdo at h
    refine rg y<|u<|lss ti y y<|zb ?_
    refine zi ?_
    refine ze y (fun C=>?_) (fun C=>?_)
    ·
     replace h:=bT C h
     refine zg ?_
     refine zi ?_
     refine zs ?_
     obtain ⟨c,O,h⟩:=bs h
     refine rg y<|u<|ixI ti y ti y y y O<|u<|ldI ti y (zl O).2.2 y<|u<|al 4 ti y<|u<|sto ti y y y<|zb ?_
     refine zi ?_
     refine rdA [(0,.isl 6 (map zd a)),(4,.mpt 0 0 0),(8,.mpt 4 0 0),(10,bA (Option.isSome (zcD c.Name i))),(40,.isl 6 (map zd a)),(41,iA (length a:Int)),(42,iA I)] [some (1,[[.mpt 1 0 0]]),some (2,[[.msl 2 0 (length n),.mmp 3]]),some (6,map zd n),some (2,map (rKV (fun x=>iA x)) i),some (6,[(zd c)])] [] [11,10,9,8,7,6,5,4,3,2,1,0] [(10,bA (Option.isSome (zcD c.Name i))),(9,iA (Option.getD (zcD c.Name i) 0)),(55,bA (Option.isSome (zcD c.Name i))),(54,iA (Option.getD (zcD c.Name i) 0)),(46,.tup [iA (Option.getD (zcD c.Name i) 0),bA (Option.isSome (zcD c.Name i))]),(53,.tup [iA (Option.getD (zcD c.Name i) 0),bA (Option.isSome (zcD c.Name i))]),(52,sA c.Name),(51,.mpt 4 0 0),(50,.mmp 3),(49,.mpt 1 0 1),(48,.mpt 1 0 0),(47,.mpt 1 0 0)] 0 (zhA ⟨pe,pe,pe,pe,pe,(pb y (zC8 (g:=(fun x=>iA x)) (z:=0) (l:=i) y ti y y y y w)),pe,pe,pe,pe,pe,pe,t⟩ (zo [.old 0,.old 1,.old 2,.old 3,.old 4])) ?_
     obtain ⟨W,q,h⟩:=bs h
     refine rg y<|u<|mv y<|u<|mv y<|zcU (x:=W) (j:=1) 3 y y y y y gpn (fun A=>by replace q:=bF A q;obtain ⟨v21,Y,q⟩:=bs q;obtain rfl:=sm q;exact g y A<|ld ti y y<|g y A<|pc (zsj c Y) y y y<|g y A<|nt y<|zb (eg [58,59,60] 3 y y y y)) (fun hb=>(sm (bT hb q)).symm)<|zb ?_
     refine ze y (fun D=>?_) (fun D=>?_)
     ·
      replace h:=bT D h
      refine rg y<|u<|asg y<|u<|asg y<|zb ?_
      refine zj ?_
      obtain rfl:=sm h
      exact ⟨_,y,_,y,zz []⟩
     ·
      replace h:=bF D h
      refine zg ?_
      refine rdA [(0,.isl 6 (map zd a)),(4,.mpt 0 0 0),(8,.mpt 4 0 0),(40,.isl 6 (map zd a)),(41,iA (length a:Int)),(42,iA I)] [some (1,[[.mpt 1 0 0]]),some (2,[[.msl 2 0 (length n),.mmp 3]]),some (6,map zd n),some (2,map (rKV (fun x=>iA x)) (zgN c.Name ((length n):Int) i)),some (6,[(zd c)])] [11] [10,9,8,7,6,5,4,3,2,1,0] [(72,iA ((length n):Int)),(71,.msl 2 0 (length n)),(70,.mpt 1 0 0),(69,.mpt 1 0 0),(68,.mpt 1 0 0),(67,sA c.Name),(66,.mpt 4 0 0),(65,.mmp 3),(64,.mpt 1 0 1),(63,.mpt 1 0 0),(62,.mpt 1 0 0)] 1 (zeo ⟨(pb y (lnM ti y y y w)),pe,pe,pe,pe,pe,pe,pe,pe,pe,pe,t⟩ ⟨(fun _ _=>⟨_,y,y,mup (v:=((length n):Int)) (g:=(fun x=>iA x)) (l:=i) (s:=c.Name) y y y y y y<|⟨.any,[],[],y,y,kz,t,zh3 (zo [.old 0,.old 1,.old 2,.old 3,.old 4])⟩⟩),t⟩) ?_
      obtain ⟨J,Z,h⟩:=bs h
      refine zjw [(0,.isl 6 (map zd a)),(4,.mpt 0 0 0),(40,.isl 6 (map zd a)),(41,iA (length a:Int)),(42,iA I)] [some (1,[[.mpt 1 0 0]]),some (2,[[.msl 2 0 (length J),.mmp 3]]),some (6,map zd J),some (2,map (rKV (fun x=>iA x)) (zgN c.Name ((length n):Int) i))] [6,7,10] [5,4,3,2,1,0] [(78,.agg (zd c)),(77,.msl 2 0 (length n)),(76,.mpt 1 0 0),(75,.mpt 1 0 0),(74,.mpt 1 0 0),(73,.mpt 1 0 0)] 3 (zmt ⟨(fun _ _=>⟨_,y,y,bl 5 ti y ti y (by decide) (by decide) y y y<|⟨(.msl 5 0 1),[],[(79,.msl 5 0 1)],y,y,kz,y,zmt ⟨nv,(fun _ _=>⟨_,y,y,apM 6 ti y ti y y (by decide) ti y y y y (roX (f:=zd) (z:=[c]) y y) (fun _=>y) y Z<|⟨(.msl 6 0 (length J)),[9,8],[(82,.mpt 1 0 0),(81,.mpt 1 0 0),(80,.msl 6 0 (length J))],y,y,kz,y,zmt ⟨nv,nv,(fun _ _=>⟨_,y,y,sto ti y y y<|⟨.any,[],[],y,y,kz,t,zh3 (zo [.old 0,.old 1,.old 6,.old 3])⟩⟩),t⟩⟩⟩),nw,t⟩⟩⟩),nw,nw,t⟩) ?_
      refine rl y<|u<|add ti y y<|u<|mv y<|zb ?_
      obtain rfl:=sm h
      exact ⟨_,y,zo [.old 0,.old 1,.old 2,.old 3]⟩
    ·
     replace h:=bF C h
     refine zE ?_
     obtain rfl:=sm h
     exact ⟨y,_,y,zo [.old 0,.old 1,.old 2,.old 3]⟩
   ·
    rintro ⟨d,m⟩ rfl
    replace h:zkt a d m=some r:=h
    unfold zkt at h
    refine zy ?_
    refine zi ?_
    refine rg y<|u<|mv y<|u<|lnI ti y y<|u<|mv y<|zb ?_
    obtain ⟨o,ho,h⟩:=bs h
    refine zY (X:=Int) (B:=Unit) (R:=(Option zad)×Int) (fun z=>[(0,.isl 6 (map zd a)),(4,.mpt 0 0 0),(84,.isl 6 (map zd a)),(85,iA (length a:Int)),(86,iA z)]) (fun z=>[some (1,[[.mpt 1 0 0]]),some (2,[[.msl 2 0 (length d),.mmp 3]]),some (6,map zd d),some (2,map (rKV (fun x=>iA x)) m)]) (fun b=>[(0,.isl 6 (map zd a)),(4,.mpt 0 0 0)]) (fun b=>[some (1,[[.mpt 1 0 0]]),some (2,[[.msl 2 0 (length d),.mmp 3]]),some (6,map zd d),some (2,map (rKV (fun x=>iA x)) m)]) (fun r env st=>zaO Tryz.prog Tryz.f23 0 (.tup [zlf 2 zeT r.1,iA r.2]) [] env st) ho (zo [.old 0,.old 1,.old 2,.old 3]) ?_ ?_ ?_
    ·
     rintro P r h
     replace h:zfW a d m P=some r:=h
     unfold zfW at h
     refine rg y<|u<|lss ti y y<|zb ?_
     refine zi ?_
     refine ze y (fun E=>?_) (fun E=>?_)
     ·
      replace h:=bT E h
      refine zg ?_
      refine zi ?_
      refine zs ?_
      obtain ⟨v31,Q,h⟩:=bs h
      refine rg y<|u<|ixI ti y ti y y y Q<|u<|ldI ti y (zl Q).2.2 y<|u<|al 4 ti y<|u<|sto ti y y y<|zb ?_
      obtain ⟨N,q28,h⟩:=bs h
      obtain ⟨v33,q29,h⟩:=bs h
      refine rg y<|u<|ld ti y y<|u<|sx [] (zkx v31 q28)<|zx (env0:=[(0,.isl 6 (map zd a)),(4,.mpt 0 0 0),(84,.isl 6 (map zd a)),(85,iA (length a:Int)),(86,iA P),(91,.msl 4 0 (length N))]) (st0:=[some (1,[[.mpt 1 0 0]]),some (2,[[.msl 2 0 (length d),.mmp 3]]),some (6,map zd d),some (2,map (rKV (fun x=>iA x)) m),some (1,map zf N)]) (zo [.old 0,.old 1,.old 2,.old 3,.old 5])<|u<|mf y y<|u<|pcs (zgg N d m q29) y y (.cons (zhm y (fun _=>y)) (.cons (zh4 t ⟨(zcT y ⟨(zcT y ⟨(zhm y (fun _=>y)),(zxZ y (fun _=>y)),t⟩),t⟩),t⟩) .nil)) zcn<|zb ?_
      refine ze y (fun F=>?_) (fun F=>?_)
      ·
       replace h:=bT F h
       refine rg y<|u<|asg y<|u<|asg y<|zb ?_
       refine zj ?_
       obtain rfl:=sm h
       exact ⟨_,y,_,y,zz []⟩
      ·
       replace h:=bF F h
       refine zg ?_
       refine rl y<|u<|add ti y y<|u<|mv y<|zb ?_
       obtain rfl:=sm h
       exact ⟨_,y,zo [.old 0,.old 1,.old 2,.old 3]⟩
     ·
      replace h:=bF E h
      refine zE ?_
      obtain rfl:=sm h
      exact ⟨y,_,y,zo [.old 0,.old 1,.old 2,.old 3]⟩
    ·
     rintro ⟨⟩ rfl
     replace h:zku a d m=some r:=h
     unfold zku at h
     refine zy ?_
     refine zi ?_
     refine rg y<|u<|mv y<|u<|lnI ti y y<|u<|mv y<|zb ?_
     obtain ⟨o,ho,h⟩:=bs h
     refine zY (X:=Int) (B:=Unit) (R:=(Option zad)×Int) (fun z=>[(4,.mpt 0 0 0),(95,.isl 6 (map zd a)),(96,iA (length a:Int)),(97,iA z)]) (fun z=>[some (1,[[.mpt 1 0 0]]),some (2,[[.msl 2 0 (length d),.mmp 3]]),some (6,map zd d),some (2,map (rKV (fun x=>iA x)) m)]) (fun b=>[(4,.mpt 0 0 0)]) (fun b=>[some (1,[[.mpt 1 0 0]]),some (2,[[.msl 2 0 (length d),.mmp 3]]),some (6,map zd d),some (2,map (rKV (fun x=>iA x)) m)]) (fun r env st=>zaO Tryz.prog Tryz.f23 0 (.tup [zlf 2 zeT r.1,iA r.2]) [] env st) ho (zo [.old 0,.old 1,.old 2,.old 3]) ?_ ?_ ?_
     ·
      rintro v37 r h
      replace h:zfX a d m v37=some r:=h
      unfold zfX at h
      refine rg y<|u<|lss ti y y<|zb ?_
      refine zi ?_
      refine ze y (fun G=>?_) (fun G=>?_)
      ·
       replace h:=bT G h
       refine zg ?_
       refine zi ?_
       refine zs ?_
       obtain ⟨v38,S,h⟩:=bs h
       refine rg y<|u<|ixI ti y ti y y y S<|u<|ldI ti y (zl S).2.2 y<|u<|al 4 ti y<|u<|sto ti y y y<|zb ?_
       obtain ⟨v39,q37,h⟩:=bs h
       refine rg y<|u<|ld ti y y<|u<|ld ti y y<|u<|pcs (zn6 d m v38 q37) y y (.cons (zcT y ⟨(zhm y (fun _=>y)),(zxZ y (fun _=>y)),t⟩) (.cons (si y) .nil)) zcn<|u<|nt y<|zb ?_
       refine ze y (fun H=>?_) (fun H=>?_)
       ·
        replace h:=bT H h
        refine rg y<|u<|asg y<|u<|asg y<|zb ?_
        refine zj ?_
        obtain rfl:=sm h
        exact ⟨_,y,_,y,zz []⟩
       ·
        replace h:=bF H h
        refine zg ?_
        refine rl y<|u<|add ti y y<|u<|mv y<|zb ?_
        obtain rfl:=sm h
        exact ⟨_,y,zo [.old 0,.old 1,.old 2,.old 3]⟩
      ·
       replace h:=bF G h
       refine zE ?_
       obtain rfl:=sm h
       exact ⟨y,_,y,zo [.old 0,.old 1,.old 2,.old 3]⟩
     ·
      rintro ⟨⟩ rfl
      replace h:zmJ d m=some r:=h
      unfold zmJ at h
      refine zy ?_
      refine rg y<|u<|ld ti y y<|u<|asg y<|u<|asg y<|zb ?_
      refine zj ?_
      obtain rfl:=sm h
      exact ⟨_,y,[],zt3 ⟨(rsP y y ⟨(zoJ y y (fun _=>y)),(zxW y y (fun _=>y)),t⟩ y),(ci y),t⟩,y,t,y,k⟩
     ·
      rintro r' rfl env st hp
      obtain rfl:=sm h
      exact hp
    ·
     rintro r' rfl env st hp
     obtain rfl:=sm h
     exact hp
   ·
    rintro r' rfl env st hp
    obtain rfl:=sm h
    exact hp
  ·
   rintro r' rfl env st hp
   obtain rfl:=sm h
   exact hp
def ztc(x:zt):Prop:=(wS) x.Name∧(wS) x.Type_∧(wT) x.Static
theorem zvE{n:Nat}{avs:List AV}(h:zoq Tryz.prog (n+2) 52 avs):∃x:zt,avs=zJ x∧ztc x:=by
 obtain ⟨parts,rfl,hl,hg⟩:=gdF Tryz.underlying52 h
 match parts,hl with
 | [p0,p1,p2],_ =>
  obtain ⟨x0,rfl,w0⟩:=gdS Tryz.underlying9 (hg 0 _ p0 rfl rfl)
  obtain ⟨x1,rfl,w1⟩:=gdS Tryz.underlying9 (hg 1 _ p1 rfl rfl)
  obtain ⟨x2,rfl,w2⟩:=gdB Tryz.underlying4 (hg 2 _ p2 rfl rfl)
  exact ⟨⟨x0,x1,x2⟩,rfl,w0,w1,w2⟩
def zyx(x:zp):Prop:=(wI .i64) x.Op∧(wI .i64) x.A∧(wS) x.C∧(wS) x.M
theorem zy3{n:Nat}{avs:List AV}(h:zoq Tryz.prog (n+2) 69 avs):∃x:zp,avs=zu x∧zyx x:=by
 obtain ⟨parts,rfl,hl,hg⟩:=gdF Tryz.underlying69 h
 match parts,hl with
 | [p0,p1,p2,p3],_ =>
  obtain ⟨x0,rfl,w0⟩:=gdI Tryz.underlying3 (hg 0 _ p0 rfl rfl)
  obtain ⟨x1,rfl,w1⟩:=gdI Tryz.underlying3 (hg 1 _ p1 rfl rfl)
  obtain ⟨x2,rfl,w2⟩:=gdS Tryz.underlying9 (hg 2 _ p2 rfl rfl)
  obtain ⟨x3,rfl,w3⟩:=gdS Tryz.underlying9 (hg 3 _ p3 rfl rfl)
  exact ⟨⟨x0,x1,x2,x3⟩,rfl,w0,w1,w2,w3⟩
def zyy(x:z8):Prop:=(wI .i64) x.At∧(wL (wS)) x.Locals∧(wL (wS)) x.Stack
theorem zy4{n:Nat}{avs:List AV}(h:zoq Tryz.prog (n+3) 78 avs):∃x:z8,avs=zL x∧zyy x:=by
 obtain ⟨parts,rfl,hl,hg⟩:=gdF Tryz.underlying78 h
 match parts,hl with
 | [p0,p1,p2],_ =>
  obtain ⟨x0,rfl,w0⟩:=gdI Tryz.underlying3 (hg 0 _ p0 rfl rfl)
  obtain ⟨x1,rfl,w1⟩:=gdL (k:=1) Tryz.underlying25 (by kernel_rfl) (fun h=>gdS Tryz.underlying9 h) (hg 1 _ p1 rfl rfl)
  obtain ⟨x2,rfl,w2⟩:=gdL (k:=1) Tryz.underlying25 (by kernel_rfl) (fun h=>gdS Tryz.underlying9 h) (hg 2 _ p2 rfl rfl)
  exact ⟨⟨x0,x1,x2⟩,rfl,w0,w1,w2⟩
def zvh(x:zaF):Prop:=(wI .i64) x.From∧(wI .i64) x.To∧(wI .i64) x.At∧(wS) x.C
theorem zw1{n:Nat}{avs:List AV}(h:zoq Tryz.prog (n+2) 85 avs):∃x:zaF,avs=za9 x∧zvh x:=by
 obtain ⟨parts,rfl,hl,hg⟩:=gdF Tryz.underlying85 h
 match parts,hl with
 | [p0,p1,p2,p3],_ =>
  obtain ⟨x0,rfl,w0⟩:=gdI Tryz.underlying3 (hg 0 _ p0 rfl rfl)
  obtain ⟨x1,rfl,w1⟩:=gdI Tryz.underlying3 (hg 1 _ p1 rfl rfl)
  obtain ⟨x2,rfl,w2⟩:=gdI Tryz.underlying3 (hg 2 _ p2 rfl rfl)
  obtain ⟨x3,rfl,w3⟩:=gdS Tryz.underlying9 (hg 3 _ p3 rfl rfl)
  exact ⟨⟨x0,x1,x2,x3⟩,rfl,w0,w1,w2,w3⟩
def zoo(x:zc):Prop:=(wS) x.Name∧(wL (wS)) x.Params∧(wS) x.Ret∧(wT) x.Static∧(wT) x.Abstract∧(wI .i64) x.Locals∧(wI .i64) x.Stack∧(wL (zyx)) x.Code∧(wL (zyy)) x.Maps∧(wL (zvh)) x.Traps
theorem ztx{n:Nat}{avs:List AV}(h:zoq Tryz.prog (n+5) 76 avs):∃x:zc,avs=zh x∧zoo x:=by
 obtain ⟨parts,rfl,hl,hg⟩:=gdF Tryz.underlying76 h
 match parts,hl with
 | [p0,p1,p2,p3,p4,p5,p6,p7,p8,p9],_ =>
  obtain ⟨x0,rfl,w0⟩:=gdS Tryz.underlying9 (hg 0 _ p0 rfl rfl)
  obtain ⟨x1,rfl,w1⟩:=gdL (k:=1) Tryz.underlying25 (by kernel_rfl) (fun h=>gdS Tryz.underlying9 h) (hg 1 _ p1 rfl rfl)
  obtain ⟨x2,rfl,w2⟩:=gdS Tryz.underlying9 (hg 2 _ p2 rfl rfl)
  obtain ⟨x3,rfl,w3⟩:=gdB Tryz.underlying4 (hg 3 _ p3 rfl rfl)
  obtain ⟨x4,rfl,w4⟩:=gdB Tryz.underlying4 (hg 4 _ p4 rfl rfl)
  obtain ⟨x5,rfl,w5⟩:=gdI Tryz.underlying3 (hg 5 _ p5 rfl rfl)
  obtain ⟨x6,rfl,w6⟩:=gdI Tryz.underlying3 (hg 6 _ p6 rfl rfl)
  obtain ⟨x7,rfl,w7⟩:=gdL (k:=4) Tryz.underlying72 (by kernel_rfl) (fun h=>zy3 h) (hg 7 _ p7 rfl rfl)
  obtain ⟨x8,rfl,w8⟩:=gdL (k:=3) Tryz.underlying73 (by kernel_rfl) (fun h=>zy4 h) (hg 8 _ p8 rfl rfl)
  obtain ⟨x9,rfl,w9⟩:=gdL (k:=4) Tryz.underlying74 (by kernel_rfl) (fun h=>zw1 h) (hg 9 _ p9 rfl rfl)
  exact ⟨⟨x0,x1,x2,x3,x4,x5,x6,x7,x8,x9⟩,rfl,w0,w1,w2,w3,w4,w5,w6,w7,w8,w9⟩
def zkf(x:za):Prop:=(wS) x.Name∧(wS) x.Super∧(wT) x.Interface∧(wL (wS)) x.Impl∧(wL (ztc)) x.Fields∧(wL (zoo)) x.Methods
theorem zBE{n:Nat}{avs:List AV}(h:zoq Tryz.prog (n+7) 29 avs):∃x:za,avs=zd x∧zkf x:=by
 obtain ⟨parts,rfl,hl,hg⟩:=gdF Tryz.underlying29 h
 match parts,hl with
 | [p0,p1,p2,p3,p4,p5],_ =>
  obtain ⟨x0,rfl,w0⟩:=gdS Tryz.underlying9 (hg 0 _ p0 rfl rfl)
  obtain ⟨x1,rfl,w1⟩:=gdS Tryz.underlying9 (hg 1 _ p1 rfl rfl)
  obtain ⟨x2,rfl,w2⟩:=gdB Tryz.underlying4 (hg 2 _ p2 rfl rfl)
  obtain ⟨x3,rfl,w3⟩:=gdL (k:=1) Tryz.underlying25 (by kernel_rfl) (fun h=>gdS Tryz.underlying9 h) (hg 3 _ p3 rfl rfl)
  obtain ⟨x4,rfl,w4⟩:=gdL (k:=3) Tryz.underlying26 (by kernel_rfl) (fun h=>zvE h) (hg 4 _ p4 rfl rfl)
  obtain ⟨x5,rfl,w5⟩:=gdL (k:=10) Tryz.underlying27 (by kernel_rfl) (fun h=>ztx h) (hg 5 _ p5 rfl rfl)
  exact ⟨⟨x0,x1,x2,x3,x4,x5⟩,rfl,w0,w1,w2,w3,w4,w5⟩
structure zR where
  L:List za
def zfr(x:zR):List AV:=[.isl 6 (map zd x.L)]
def zkQ(a:List za):Option ((List za)):=
  some a
def zhS(c:List za)(d:Int)(e:T0)(a:T0):Option (Sum ((List za)×Int) (Sum ((List za)) ((List za)))):=
  (zh2 112 c ([(za.mk e a false [] [] [])])).bind fun b=>some (.inl (b,(IntKind.i64.wrap (d+1))))
def zhR(b:List za)(a:Int)(c:T0)(d:T0):Option (Sum ((List za)×Int) (Sum ((List za)) ((List za)))):=
  cond (a == (1:Int)) (zhS b a c [79,98,106,101,99,116]) (zhS b a c d)
def zkR(b:List za)(a:Int):Option (Sum ((List za)×Int) (Sum ((List za)) ((List za)))):=
  cond (decide (a<((length (zdQ)):Int))) ((idx (zdQ) a).bind fun c=>cond (a == (0:Int)) (zhR b a c []) (zhR b a c [84,104,114,111,119,110])) (some (.inr (.inl b)))
def zma:Option ((List za)):=
  (zw (fun z=>zkR z.1 z.2) ([],0)).bind fun o=>zU o (fun b=>zkQ b) some
theorem zrQ{r:(List za)}(h:zma=some r):SC Tryz.prog 68 [] [] (.msl 0 0 (length r)) [.many 6 (map zd r)]:=by
 refine ⟨⟨zh0 (sz:=6) (fun _=>y),t⟩,zV Tryz.func68 y kz y ?_⟩
 unfold zma at h
 refine rg y<|u<|asg y<|zb ?_
 refine rg y<|u<|sx [] (zrO y)<|zx (env0:=[(5,.msl 0 0 (length (zdQ)))]) (st0:=[some (1,map zf (zdQ))]) (zo [.old 0])<|u<|asg y<|zb ?_
 refine rg y<|u<|asg y<|zb ?_
 refine zi ?_
 refine rg y<|u<|asg y<|zb ?_
 obtain ⟨o,ho,h⟩:=bs h
 refine zY (X:=(List za)×Int) (B:=(List za)) (R:=(List za)) (fun z=>[(1,.msl 0 0 (length (zdQ))),(2,.msl 1 0 (length z.1)),(3,iA z.2)]) (fun z=>[some (1,map zf (zdQ)),some (6,map zd z.1)]) (fun b=>[(2,.msl 0 0 (length b))]) (fun b=>[some (6,map zd b)]) (fun r env st=>zaO Tryz.prog Tryz.f68 0 (.msl 0 0 (length r)) [some (6,map zd r)] env st) ho ⟨[.old 0,.fresh 6],cv y (.msl y)<|cv y (.nilown y)<|ce y y<|cn,y,⟨⟨_,y,zkb (fun _=>y)⟩,w,t⟩,y,k⟩ ?_ ?_ ?_
 ·
  rintro ⟨a,c⟩ r h
  replace h:zkR a c=some r:=h
  unfold zkR at h
  refine zi ?_
  refine rg y<|u<|mv y<|u<|mv y<|u<|lnM ti y y y<|u<|lss ti y y<|zb ?_
  refine ze y (fun e=>?_) (fun e=>?_)
  ·
   replace h:=bT e h
   refine zg ?_
   refine zi ?_
   refine zs ?_
   obtain ⟨d,l,h⟩:=bs h
   refine rg y<|u<|mv y<|u<|mv y<|u<|ixM ti y ti y y y y l<|u<|ldM ti y y (zl l).2.2 y<|u<|bd ti y y y<|u<|al 2 ti y<|u<|sto ti y y y<|zb ?_
   refine zaX (X:=T0) (fun z=>[(1,.msl 0 0 (length (zdQ))),(2,.msl 1 0 (length a)),(3,iA c),(4,.mpt 2 0 0)]) (fun z=>[some (1,map zf (zdQ)),some (6,map zd a),some (6,[[sA d,sA z,bA false,.lit (.slice none 0 0),.lit (.slice none 0 0),.lit (.slice none 0 0)]])]) (fun z=>zhR a c d z=some r) ?_ ?_
   ·
    refine rg y<|u<|mv y<|u<|eql ti y y<|zb ?_
    refine ze y (fun f=>?_) (fun f=>?_)
    ·
     replace h:=bT f h
     exact rl y<|u<|fa ti y y y<|u<|sto ti y y y<|zb (⟨[],h,zo [.old 0,.old 1,.old 2]⟩)
    ·
     replace h:=bF f h
     refine zg ?_
     exact ⟨[84,104,114,111,119,110],h,zo [.old 0,.old 1,.old 2]⟩
   ·
    rintro j h
    replace h:zhR a c d j=some r:=h
    unfold zhR at h
    refine zaX (X:=T0) (fun z=>[(1,.msl 0 0 (length (zdQ))),(2,.msl 1 0 (length a)),(3,iA c),(4,.mpt 2 0 0)]) (fun z=>[some (1,map zf (zdQ)),some (6,map zd a),some (6,[[sA d,sA z,bA false,.lit (.slice none 0 0),.lit (.slice none 0 0),.lit (.slice none 0 0)]])]) (fun z=>zhS a c d z=some r) ?_ ?_
    ·
     refine rg y<|u<|mv y<|u<|eql ti y y<|zb ?_
     refine ze y (fun g=>?_) (fun g=>?_)
     ·
      replace h:=bT g h
      exact rl y<|u<|fa ti y y y<|u<|sto ti y y y<|zb (⟨[79,98,106,101,99,116],h,zo [.old 0,.old 1,.old 2]⟩)
     ·
      replace h:=bF g h
      refine zg ?_
      exact ⟨j,h,zo [.old 0,.old 1,.old 2]⟩
    ·
     rintro i h
     replace h:zhS a c d i=some r:=h
     unfold zhS at h
     obtain ⟨p,m,h⟩:=bs h
     refine rl y<|u<|mv y<|u<|ld ti y y<|u<|bl 3 ti y ti y (by decide) (by decide) y y y<|zx (env0:=[(1,.msl 0 0 (length (zdQ))),(3,iA c),(23,.msl 1 0 (length a)),(25,.msl 2 0 (length ([(za.mk d i false [] [] [])])))]) (st0:=[some (1,map zf (zdQ)),some (6,map zd a),some (6,map zd ([(za.mk d i false [] [] [])]))]) (zo [.old 0,.old 1,.old 3])<|u<|apM 3 ti y ti y y (by decide) ti y y y y (roM y) (fun _=>y) y m<|u<|asg y<|zb ?_
     refine rl y<|u<|mv y<|u<|add ti y y<|u<|asg y<|zb ?_
     obtain rfl:=sm h
     exact ⟨_,y,zo [.old 0,.old 3]⟩
  ·
   replace h:=bF e h
   refine zE ?_
   obtain rfl:=sm h
   exact ⟨y,_,y,zo [.old 1]⟩
 ·
  rintro n rfl
  replace h:zkQ n=some r:=h
  unfold zkQ at h
  refine zy ?_
  refine rg y<|u<|mv y<|u<|asg y<|zb ?_
  refine zj ?_
  obtain rfl:=sm h
  exact ⟨_,y,zz [.old 0]⟩
 ·
  rintro r' rfl env st hp
  obtain rfl:=sm h
  exact hp
def zhP:Option (Int):=
  some (-1)
def zeW(b:List za)(c:T0)(a:Int):Option (Sum (Int) (Sum (Unit) (Int))):=
  cond (decide (a<(length b:Int))) ((idx b a).bind fun d=>cond (d.Name == c) (some (.inr (.inr a))) (some (.inl (IntKind.i64.wrap (a+1))))) (some (.inr (.inl ())))
def zaD(a:List za)(c:T0):Option (Int):=
  (zw (fun z=>zeW a c z) 0).bind fun o=>zU o (fun b=>zhP) some
theorem zW(d:List za)(e:T0){r:Int}(h:zaD d e=some r):zG Tryz.prog 70 [.ipt 1 [[.isl 6 (map zd d)]] 0 0,sA e] (iA r):=by
 refine zr Tryz.func70 y kz y y ?_
 unfold zaD at h
 refine rg y<|u<|asg y<|zb ?_
 refine zi ?_
 refine rg y<|u<|asg y<|zb ?_
 obtain ⟨o,ho,h⟩:=bs h
 refine zY (X:=Int) (B:=Unit) (R:=Int) (fun z=>[(0,.ipt 1 [[.isl 6 (map zd d)]] 0 0),(1,sA e),(5,iA z)]) (fun z=>[]) (fun b=>[]) (fun b=>[]) (fun r env st=>zaO Tryz.prog Tryz.f70 0 (iA r) [] env st) ho (zo []) ?_ ?_ ?_
 ·
  rintro g r h
  replace h:zeW d e g=some r:=h
  unfold zeW at h
  refine zi ?_
  refine rg y<|u<|mv y<|u<|mv y<|u<|nc y y<|u<|fa ti y y y<|u<|ld ti y y<|u<|lnI ti y y<|u<|lss ti y y<|zb ?_
  refine ze y (fun a=>?_) (fun a=>?_)
  ·
   replace h:=bT a h
   refine zg ?_
   refine zi ?_
   refine zs ?_
   obtain ⟨i,f,h⟩:=bs h
   refine rg y<|u<|mv y<|u<|nc y y<|u<|fa ti y y y<|u<|ld ti y y<|u<|mv y<|u<|ixI ti y ti y y y f<|u<|fa ti y y y<|u<|ldI ti y (zl f).2.2 y<|u<|mv y<|u<|seq ti y y<|zb ?_
   refine ze y (fun c=>?_) (fun c=>?_)
   ·
    replace h:=bT c h
    refine rg y<|u<|mv y<|u<|asg y<|zb ?_
    refine zj ?_
    obtain rfl:=sm h
    exact ⟨_,y,_,y,zz []⟩
   ·
    replace h:=bF c h
    refine zg ?_
    refine rl y<|u<|mv y<|u<|add ti y y<|u<|asg y<|zb ?_
    obtain rfl:=sm h
    exact ⟨_,y,zo []⟩
  ·
   replace h:=bF a h
   refine zE ?_
   obtain rfl:=sm h
   exact ⟨y,_,y,zo []⟩
 ·
  rintro ⟨⟩ rfl
  replace h:zhP=some r:=h
  unfold zhP at h
  refine zy ?_
  refine rg y<|u<|asg y<|zb ?_
  refine zj ?_
  obtain rfl:=sm h
  exact ⟨_,y,zz []⟩
 ·
  rintro r' rfl env st hp
  obtain rfl:=sm h
  exact hp
def zhk(c:Int)(a:List Bool):Option (Bool):=
  (idx a c).bind fun b=>some b
def zfk(a:List Bool)(b:Bool):Option (Sum ((List Bool)×Bool×Bool) (Sum ((List Bool)) (Bool))):=
  some (.inl (a,b,false))
def zdv(a:Int)(b:List Bool)(c:Bool):Option (Sum ((List Bool)×Bool×Int) (Sum ((List Bool)×Bool) (Bool))):=
  some (.inl (b,c,(IntKind.i64.wrap (a+1))))
def zfj(a:Int)(b:List Bool)(c:Bool):Option (Sum ((List Bool)×Bool×Int) (Sum ((List Bool)×Bool) (Bool))):=
  zdv a b c
def zdu(a:Int)(b:List Bool)(c:Bool):Option (Sum ((List Bool)×Bool×Int) (Sum ((List Bool)×Bool) (Bool))):=
  some (.inl (b,c,(IntKind.i64.wrap (a+1))))
def zcf(i:List za)(d:T1)(a:List Bool)(e:Bool)(b:Int):Option (Sum ((List Bool)×Bool×Int) (Sum ((List Bool)×Bool) (Bool))):=
  cond (decide (b<((length d):Int))) ((idx d b).bind fun f=>(zaD i f).bind fun c=>(cond (decide (0≤c)) ((idx a c).bind fun g=>some (!g)) (some false)).bind fun h=>cond h ((idx a c).bind fun j=>zdu b (List.set a (Int.toNat c) true) true) (zdu b a e)) (some (.inr (.inl (a,e))))
def zbC(e:List za)(l:Int)(j:Bool)(c:List Bool)(d:Bool)(a:Int):Option (Sum ((List Bool)×Bool×Int) (Sum ((List Bool)×Bool) (Bool))):=
  cond (decide (a<(length e:Int))) ((idx c a).bind fun f=>cond ((!f)&&(!(j&&(a == l)))) (zdv a c d) ((idx e a).bind fun g=>(idx e a).bind fun h=>(zh2 16 [g.Super] h.Impl).bind fun i=>(zw (fun z=>zcf e i z.1 z.2.1 z.2.2) (c,d,0)).bind fun o=>zU o (fun b=>zfj a b.1 b.2) (fun r=>some (.inr (.inr r))))) (some (.inr (.inl (c,d))))
def zbD(e:List za)(f:Int)(a:List Bool)(c:Bool)(d:Bool):Option (Sum ((List Bool)×Bool×Bool) (Sum ((List Bool)) (Bool))):=
  cond c ((zw (fun z=>zbC e f d z.1 z.2.1 z.2.2) (a,false,0)).bind fun o=>zU o (fun b=>zfk b.1 b.2) (fun r=>some (.inr (.inr r)))) (some (.inr (.inl a)))
def zf6(a:List za)(c:Int):Option (Bool):=
  (mkP 1 (length a:Int)).bind fun d=>(zw (fun z=>zbD a c z.1 z.2.1 z.2.2) ((List.replicate d false),true,true)).bind fun o=>zU o (fun b=>zhk c b) some
theorem znH(c:List za)(e:Int){r:Bool}(h:zf6 c e=some r):zG Tryz.prog 71 [.ipt 1 [[.isl 6 (map zd c)]] 0 0,iA e] (bA r):=by
 refine zr Tryz.func71 y kz y y ?_
 unfold zf6 at h
 refine rg y<|u<|asg y<|zb ?_
 obtain ⟨v3,q1,h⟩:=bs h
 refine rg y<|u<|mv y<|u<|nc y y<|u<|fa ti y y y<|u<|ld ti y y<|u<|lnI ti y y<|u<|mks (f:=rB) (z:=false) 0 ti y ti y y y y y y q1<|u<|asg y<|zb ?_
 refine zi ?_
 refine rg y<|u<|asg y<|u<|asg y<|zb ?_
 obtain ⟨o,ho,h⟩:=bs h
 refine zY (X:=(List Bool)×Bool×Bool) (B:=(List Bool)) (R:=Bool) (fun z=>[(0,.ipt 1 [[.isl 6 (map zd c)]] 0 0),(1,iA e),(5,.msl 0 0 (length z.1)),(6,bA z.2.1),(7,bA z.2.2)]) (fun z=>[some (1,map rB z.1)]) (fun b=>[(1,iA e),(5,.msl 0 0 (length b))]) (fun b=>[some (1,map rB b)]) (fun r env st=>zaO Tryz.prog Tryz.f71 0 (bA r) [] env st) ho (zo [.old 0]) ?_ ?_ ?_
 ·
  rintro ⟨v71,v72,m⟩ r h
  replace h:zbD c e v71 v72 m=some r:=h
  unfold zbD at h
  refine zi ?_
  refine rg y<|u<|mv y<|zb ?_
  refine ze y (fun C=>?_) (fun C=>?_)
  ·
   replace h:=bT C h
   refine zg ?_
   refine zi ?_
   refine zs ?_
   refine rg y<|u<|asg y<|zb ?_
   refine rg y<|u<|asg y<|zb ?_
   obtain ⟨o,ho,h⟩:=bs h
   refine zY (X:=(List Bool)×Bool×Int) (B:=(List Bool)×Bool) (R:=Bool) (fun z=>[(0,.ipt 1 [[.isl 6 (map zd c)]] 0 0),(1,iA e),(5,.msl 0 0 (length z.1)),(6,bA z.2.1),(7,bA m),(8,iA z.2.2)]) (fun z=>[some (1,map rB z.1)]) (fun b=>[(0,.ipt 1 [[.isl 6 (map zd c)]] 0 0),(1,iA e),(5,.msl 0 0 (length b.1)),(6,bA b.2)]) (fun b=>[some (1,map rB b.1)]) (fun r env st=>zaO Tryz.prog Tryz.f71 0 (bA r) [] env st) ho (zo [.old 0]) ?_ ?_ ?_
   ·
    rintro ⟨q,D,a⟩ r h
    replace h:zbC c e m q D a=some r:=h
    unfold zbC at h
    refine zi ?_
    refine rg y<|u<|mv y<|u<|mv y<|u<|nc y y<|u<|fa ti y y y<|u<|ld ti y y<|u<|lnI ti y y<|u<|lss ti y y<|zb ?_
    refine ze y (fun E=>?_) (fun E=>?_)
    ·
     replace h:=bT E h
     refine zg ?_
     refine zaX (X:=(List Bool)×Bool) (fun z=>[(0,.ipt 1 [[.isl 6 (map zd c)]] 0 0),(1,iA e),(5,.msl 0 0 (length z.1)),(6,bA z.2),(7,bA m),(8,iA a)]) (fun z=>[some (1,map rB z.1)]) (fun z=>zdv a z.1 z.2=some r) ?_ ?_
     ·
      refine zs ?_
      refine zi ?_
      obtain ⟨v108,O,h⟩:=bs h
      refine rg y<|u<|mv y<|u<|mv y<|u<|ixM ti y ti y y y y O<|u<|ldM ti y y (zl O).2.2 y<|u<|nt y<|u<|mv y<|z7 (j:=5) 7 y y y y y gpn (fun n=>g y n<|mv y<|g y n<|mv y<|z7 (j:=7) 3 y y y y y (gps y y n) (fun s=>g y s<|mv y<|g y s<|mv y<|g y s<|eql ti y y<|zb (egA [36,37,38] 3 s y y y y)) ze3<|g y n<|nt y<|zb (egA [34,35,36,37,38,39,40] 4 n y y y y)) ze3<|zb ?_
      refine ze y (fun F=>?_) (fun F=>?_)
      ·
       replace h:=bT F h
       refine zE ?_
       exact ⟨⟨q,D⟩,h,zo [.old 0]⟩
      ·
       replace h:=bF F h
       refine zg ?_
       obtain ⟨K,J,h⟩:=bs h
       obtain ⟨U,A,h⟩:=bs h
       obtain ⟨d,q80,h⟩:=bs h
       refine rdA [(0,.ipt 1 [[.isl 6 (map zd c)]] 0 0),(1,iA e),(5,.msl 0 0 (length q)),(6,bA D),(7,bA m),(8,iA a),(9,.msl 1 0 (length d))] [some (1,map rB q),some (1,map zf d)] [8,17] [16,15,14,13,12,11,10,9,7,6,5,4,3,2,1,0] [(58,.isl 1 (map zf U.Impl)),(57,.ipt 6 (map zd c) (Int.toNat a) 3),(56,.ipt 6 (map zd c) (Int.toNat a) 0),(55,iA a),(54,.isl 6 (map zd c)),(53,.ipt 1 [[.isl 6 (map zd c)]] 0 0),(52,.ipt 1 [[.isl 6 (map zd c)]] 0 0),(51,.ipt 1 [[.isl 6 (map zd c)]] 0 0),(49,sA K.Super),(48,.ipt 6 (map zd c) (Int.toNat a) 1),(47,.ipt 6 (map zd c) (Int.toNat a) 0),(46,iA a),(45,.isl 6 (map zd c)),(44,.ipt 1 [[.isl 6 (map zd c)]] 0 0),(43,.ipt 1 [[.isl 6 (map zd c)]] 0 0),(42,.ipt 1 [[.isl 6 (map zd c)]] 0 0)] 2 (zeo ⟨(pb y (ldI ti y (zl A).2.2 y w)),pe,(pb y (ixI ti y ti y y y A w)),pe,pe,pe,pe,pe,(pb y (ldI ti y (zl J).2.2 y w)),pe,(pb y (ixI ti y ti y y y J w)),pe,pe,pe,pe,pe,t⟩ ⟨(fun _ _=>⟨_,y,y,bl 1 ti y ti y (by decide) (by decide) y y y<|⟨(.msl 1 0 1),[],[(50,.msl 1 0 1)],y,y,kz,y,zeo ⟨(pb y (ldI ti y (zl A).2.2 y w)),pe,(pb y (ixI ti y ti y y y A w)),pe,pe,pe,pe,pe,pe,pe,(pb y (ixI ti y ti y y y J w)),pe,pe,pe,pe,pe,t⟩ ⟨nv,(fun _ _=>⟨_,y,y,apM (l:=[K.Super]) (f:=zf) 2 ti y ti y y (by decide) ti y y y y roI (fun _=>y) y q80<|⟨(.msl 2 0 (length d)),[18],[(9,.msl 2 0 (length d)),(59,.msl 2 0 (length d))],y,y,kz,y,zhA ⟨pe,pe,pe,(pb y (ixI ti y ti y y y A w)),pe,pe,pe,pe,pe,pe,pe,(pb y (ixI ti y ti y y y J w)),pe,pe,pe,pe,pe,t⟩ (zo [.old 0,.old 2])⟩⟩),t⟩⟩⟩),nw,t⟩) ?_
       refine rg y<|u<|asg y<|zb ?_
       obtain ⟨o,ho,h⟩:=bs h
       refine zY (X:=(List Bool)×Bool×Int) (B:=(List Bool)×Bool) (R:=Bool) (fun z=>[(0,.ipt 1 [[.isl 6 (map zd c)]] 0 0),(1,iA e),(5,.msl 0 0 (length z.1)),(6,bA z.2.1),(7,bA m),(8,iA a),(9,.msl 1 0 (length d)),(10,iA z.2.2)]) (fun z=>[some (1,map rB z.1),some (1,map zf d)]) (fun b=>[(0,.ipt 1 [[.isl 6 (map zd c)]] 0 0),(1,iA e),(5,.msl 0 0 (length b.1)),(6,bA b.2),(7,bA m),(8,iA a)]) (fun b=>[some (1,map rB b.1)]) (fun r env st=>zaO Tryz.prog Tryz.f71 0 (bA r) [] env st) ho (zo [.old 0,.old 1]) ?_ ?_ ?_
       ·
        rintro ⟨G,L,v⟩ r h
        replace h:zcf c d G L v=some r:=h
        unfold zcf at h
        refine zi ?_
        refine rg y<|u<|mv y<|u<|mv y<|u<|lnM ti y y y<|u<|lss ti y y<|zb ?_
        refine ze y (fun H=>?_) (fun H=>?_)
        ·
         replace h:=bT H h
         refine zg ?_
         refine zaX (X:=(List Bool)×Bool) (fun z=>[(0,.ipt 1 [[.isl 6 (map zd c)]] 0 0),(1,iA e),(5,.msl 0 0 (length z.1)),(6,bA z.2),(7,bA m),(8,iA a),(9,.msl 1 0 (length d)),(10,iA v)]) (fun z=>[some (1,map rB z.1),some (1,map zf d)]) (fun z=>zdu v z.1 z.2=some r) ?_ ?_
         ·
          refine zs ?_
          obtain ⟨V,P,h⟩:=bs h
          obtain ⟨W,q91,h⟩:=bs h
          refine rg y<|u<|mv y<|u<|mv y<|u<|mv y<|u<|ixM ti y ti y y y y P<|u<|ldM ti y y (zl P).2.2 y<|u<|pc (zW c V q91) y y y<|u<|asg y<|zb ?_
          obtain ⟨Y,p,h⟩:=bs h
          refine rg y<|u<|mv y<|u<|geq ti y y<|u<|mv y<|z7 (x:=Y) (j:=2) 5 y y y y y gpn (fun i=>by replace p:=bT i p;obtain ⟨v127,Q,p⟩:=bs p;obtain rfl:=sm p;exact g y i<|mv y<|g y i<|mv y<|g y i<|ixM ti y ti y y y y Q<|g y i<|ldM ti y y (zl Q).2.2 y<|g y i<|nt y<|zb (eg [75,76,77,78,79] 5 y y y y)) (fun hb=>(sm (bF hb p)).symm)<|zb ?_
          refine ze y (fun I=>?_) (fun I=>?_)
          ·
           replace h:=bT I h
           obtain ⟨v129,S,h⟩:=bs h
           exact rl y<|u<|mv y<|u<|mv y<|u<|ixM ti y ti y y y y S<|u<|zCm (c':=true) ti y y (zl S).2.2 y y y y y<|u<|asg y<|zb (⟨⟨(List.set G (Int.toNat W) true),true⟩,h,[.old 0,.old 1],ce y y<|ce y y<|cv y (zB1 (by simp) y)<|ce y y<|ce y y<|ce y y<|cv y (.msl y)<|ce y y<|cn,y,⟨⟨_,y,zkb (fun _=>y)⟩,⟨_,y,zkb (fun _=>y)⟩,t⟩,y,k⟩)
          ·
           replace h:=bF I h
           refine zg ?_
           exact ⟨⟨G,L⟩,h,zo [.old 0,.old 1]⟩
         ·
          rintro ⟨Z,v131⟩ h
          replace h:zdu v Z v131=some r:=h
          unfold zdu at h
          refine rl y<|u<|mv y<|u<|add ti y y<|u<|asg y<|zb ?_
          obtain rfl:=sm h
          exact ⟨_,y,zo [.old 0,.old 1]⟩
        ·
         replace h:=bF H h
         refine zE ?_
         obtain rfl:=sm h
         exact ⟨y,_,y,zo [.old 0]⟩
       ·
        rintro ⟨M,N⟩ rfl
        replace h:zfj a M N=some r:=h
        unfold zfj at h
        refine zy ?_
        exact ⟨⟨M,N⟩,h,zo [.old 0]⟩
       ·
        rintro r' rfl env st hp
        obtain rfl:=sm h
        exact ⟨_,y,hp⟩
     ·
      rintro ⟨v134,v135⟩ h
      replace h:zdv a v134 v135=some r:=h
      unfold zdv at h
      refine rl y<|u<|mv y<|u<|add ti y y<|u<|asg y<|zb ?_
      obtain rfl:=sm h
      exact ⟨_,y,zo [.old 0]⟩
    ·
     replace h:=bF E h
     refine zE ?_
     obtain rfl:=sm h
     exact ⟨y,_,y,zo [.old 0]⟩
   ·
    rintro ⟨v136,v137⟩ rfl
    replace h:zfk v136 v137=some r:=h
    unfold zfk at h
    refine zy ?_
    refine rl y<|u<|asg y<|zb ?_
    obtain rfl:=sm h
    exact ⟨_,y,zo [.old 0]⟩
   ·
    rintro r' rfl env st hp
    obtain rfl:=sm h
    exact ⟨_,y,hp⟩
  ·
   replace h:=bF C h
   refine zE ?_
   obtain rfl:=sm h
   exact ⟨y,_,y,zo [.old 0]⟩
 ·
  rintro v138 rfl
  replace h:zhk e v138=some r:=h
  unfold zhk at h
  refine zy ?_
  obtain ⟨v139,T,h⟩:=bs h
  refine rg y<|u<|mv y<|u<|mv y<|u<|ixM ti y ti y y y y T<|u<|ldM ti y y (zl T).2.2 y<|u<|asg y<|zb ?_
  refine zj ?_
  obtain rfl:=sm h
  exact ⟨_,y,zz []⟩
 ·
  rintro r' rfl env st hp
  obtain rfl:=sm h
  exact hp
def zlL(a:List za):Option ((Option zR)×Int):=
  some ((some (zR.mk a)),0)
def zjz(a:Int)(b:Bool):Option (Sum (Int) (Sum (Unit) ((Option zR)×Int))):=
  cond b (some (.inr (.inr (none,1)))) (some (.inl (IntKind.i64.wrap (a+1))))
def zdI(b:List za)(c:za)(d:Bool)(a:Int):Option (Sum (Bool×Int) (Sum (Bool) ((Option zR)×Int))):=
  cond (decide (a<(length c.Impl:Int))) (cond d (some (.inl (true,(IntKind.i64.wrap (a+1))))) ((idx c.Impl a).bind fun e=>(zaD b e).bind fun f=>(idx b f).bind fun g=>some (.inl ((!g.Interface),(IntKind.i64.wrap (a+1)))))) (some (.inr (.inl d)))
def zhv(a:List za)(c:Int)(d:za)(e:Bool):Option (Sum (Int) (Sum (Unit) ((Option zR)×Int))):=
  (zw (fun z=>zdI a d z.1 z.2) (e,0)).bind fun o=>zU o (fun b=>zjz c b) (fun r=>some (.inr (.inr r)))
def ze9(a:List za)(b:Int):Option (Sum (Int) (Sum (Unit) ((Option zR)×Int))):=
  cond (decide (b<((length a):Int))) ((idx a b).bind fun c=>(zaD a c.Super).bind fun d=>(idx a d).bind fun e=>cond e.Interface (zhv a b c true) ((zf6 a b).bind fun f=>zhv a b c f)) (some (.inr (.inl ())))
def zkO(a:List za):Option ((Option zR)×Int):=
  (zw (fun z=>ze9 a z) 1).bind fun o=>zU o (fun b=>zlL a) some
def zkN(a:Int):Option (Sum (Int) (Sum (Unit) ((Option zR)×Int))):=
  some (.inl (IntKind.i64.wrap (a+1)))
def zf7(c:List za)(b:za)(a:Int):Option (Sum (Int) (Sum (Unit) ((Option zR)×Int))):=
  cond (decide (a<(length b.Impl:Int))) ((idx b.Impl a).bind fun d=>(zaD c d).bind fun e=>cond (decide (e<0)) (some (.inr (.inr (none,4)))) (some (.inl (IntKind.i64.wrap (a+1))))) (some (.inr (.inl ())))
def zf8(a:List za)(c:Int):Option (Sum (Int) (Sum (Unit) ((Option zR)×Int))):=
  cond (decide (c<((length a):Int))) ((idx a c).bind fun d=>(zaD a d.Super).bind fun e=>cond (decide (e<0)) (some (.inr (.inr (none,4)))) ((zw (fun z=>zf7 a d z) 0).bind fun o=>zU o (fun b=>zkN c) (fun r=>some (.inr (.inr r))))) (some (.inr (.inl ())))
def zkM(a:List za):Option ((Option zR)×Int):=
  (zw (fun z=>zf8 a z) 1).bind fun o=>zU o (fun b=>zkO a) some
def zeg(c:List za)(b:List za)(a:Int):Option (Sum ((List za)×Int) (Sum ((List za)) ((Option zR)×Int))):=
  cond (decide (a<(length c:Int))) ((idx c a).bind fun d=>(zhO d).bind fun e=>(cond (!e) (some true) ((idx c a).bind fun f=>(zaD b f.Name).bind fun g=>some (decide (0≤g)))).bind fun h=>cond h (some (.inr (.inr (none,1)))) ((idx c a).bind fun i=>(zh2 112 b [i]).bind fun j=>some (.inl (j,(IntKind.i64.wrap (a+1)))))) (some (.inr (.inl b)))
def znI(a:List za):Option ((Option zR)×Int):=
  cond (decide (16<(length a:Int))) (some (none,3)) ((zma).bind fun c=>(zw (fun z=>zeg a z.1 z.2) (c,0)).bind fun o=>zU o (fun b=>zkM b) some)
theorem ztZ(s:List za){r:(Option zR)×Int}(h:znI s=some r):zG Tryz.prog 28 [.isl 6 (map zd s)] (.tup [zlf 1 zfr r.1,iA r.2]):=by
 refine zr Tryz.func28 y kz y (zAc (zyF (zuD (fun _=>y)) (y))) ?_
 unfold znI at h
 refine rg y<|u<|asg y<|u<|asg y<|zb ?_
 refine zi ?_
 refine rg y<|u<|mv y<|u<|lnI ti y y<|u<|gtr ti y y<|zb ?_
 refine ze y (fun S=>?_) (fun S=>?_)
 ·
  replace h:=bT S h
  refine rg y<|u<|asg y<|u<|asg y<|zb ?_
  refine zj ?_
  obtain rfl:=sm h
  exact ⟨_,y,zz []⟩
 ·
  replace h:=bF S h
  refine zg ?_
  obtain ⟨v2,q2,h⟩:=bs h
  refine rg y<|u<|sx [] (zrQ q2)<|zx (env0:=[(0,.isl 6 (map zd s)),(16,.msl 0 0 (length v2))]) (st0:=[some (6,map zd v2)]) (zo [.old 0])<|u<|bd ti y y y<|u<|bx 1 1 y y y y<|u<|asg y<|zb ?_
  refine zi ?_
  refine rg y<|u<|asg y<|zb ?_
  obtain ⟨o,ho,h⟩:=bs h
  refine zY (X:=(List za)×Int) (B:=(List za)) (R:=(Option zR)×Int) (fun z=>[(0,.isl 6 (map zd s)),(4,.mpt 0 0 0),(5,iA z.2)]) (fun z=>[some (1,[[.msl 1 0 (length z.1)]]),some (6,map zd z.1)]) (fun b=>[(4,.mpt 0 0 0)]) (fun b=>[some (1,[[.msl 1 0 (length b)]]),some (6,map zd b)]) (fun r env st=>zaO Tryz.prog Tryz.f28 0 (.tup [zlf 1 zfr r.1,iA r.2]) [] env st) ho (zo [.old 1,.old 0]) ?_ ?_ ?_
  ·
   rintro ⟨T,L⟩ r h
   replace h:zeg s T L=some r:=h
   unfold zeg at h
   refine zi ?_
   refine rg y<|u<|mv y<|u<|mv y<|u<|lnI ti y y<|u<|lss ti y y<|zb ?_
   refine ze y (fun C=>?_) (fun C=>?_)
   ·
    replace h:=bT C h
    refine zg ?_
    refine zi ?_
    refine zs ?_
    refine zi ?_
    obtain ⟨v14,W,h⟩:=bs h
    obtain ⟨v15,q15,h⟩:=bs h
    obtain ⟨v18,m,h⟩:=bs h
    refine rg y<|u<|mv y<|u<|mv y<|u<|ixI ti y ti y y y W<|u<|ldI ti y (zl W).2.2 y<|u<|pc (zoV v14 q15) y y y<|u<|nt y<|u<|mv y<|zcU (x:=v18) (j:=6) 8 y y y y y gpn (fun d=>by replace m:=bF d m;obtain ⟨v16,Y,m⟩:=bs m;obtain ⟨v17,q18,m⟩:=bs m;obtain rfl:=sm m;exact g y d<|mv y<|g y d<|mv y<|g y d<|mv y<|g y d<|ixI ti y ti y y y Y<|g y d<|fa ti y y y<|g y d<|ldI ti y (zl Y).2.2 y<|g y d<|pcs (zW T v16.Name q18) y y (.cons (zcT y ⟨(zhm y (fun _=>y)),t⟩) (.cons (si y) .nil)) zcn<|g y d<|geq ti y y<|zb (eg [32,33,34,35,36,37,38,39] 8 y y y y)) (fun hb=>(sm (bT hb m)).symm)<|zb ?_
    refine ze y (fun D=>?_) (fun D=>?_)
    ·
     replace h:=bT D h
     refine rg y<|u<|asg y<|u<|asg y<|zb ?_
     refine zj ?_
     obtain rfl:=sm h
     exact ⟨_,y,_,y,zz []⟩
    ·
     replace h:=bF D h
     refine zg ?_
     obtain ⟨Z,M,h⟩:=bs h
     obtain ⟨N,q22,h⟩:=bs h
     refine zjw [(0,.isl 6 (map zd s)),(4,.mpt 0 0 0),(5,iA L)] [some (1,[[.msl 1 0 (length N)]]),some (6,map zd N)] [9,10,13] [8,7,6,5,4,3,2,1,0] [(49,.agg (zd Z)),(48,.ipt 6 (map zd s) (Int.toNat L) 0),(47,iA L),(46,.isl 6 (map zd s)),(45,.msl 1 0 (length T)),(44,.mpt 0 0 0),(43,.mpt 0 0 0),(42,.mpt 0 0 0),(41,.mpt 0 0 0)] 3 (zeo ⟨(pb y (ldI ti y (zl M).2.2 y w)),(pb y (ixI ti y ti y y y M w)),pe,pe,pe,pe,pe,pe,pe,t⟩ ⟨(fun _ _=>⟨_,y,y,bl 2 ti y ti y (by decide) (by decide) y y y<|⟨(.msl 2 0 1),[],[(50,.msl 2 0 1)],y,y,kz,y,zeo ⟨pe,(pb y (ixI ti y ti y y y M w)),pe,pe,pe,pe,pe,pe,pe,t⟩ ⟨nv,(fun _ _=>⟨_,y,y,apM 3 ti y ti y y (by decide) ti y y y y (roX (f:=zd) (z:=[Z]) y y) (fun _=>y) y q22<|⟨(.msl 3 0 (length N)),[12,11],[(53,.mpt 0 0 0),(52,.mpt 0 0 0),(51,.msl 3 0 (length N))],y,y,kz,y,zeo ⟨pe,pe,pe,(pb y (ixI ti y ti y y y M w)),pe,pe,pe,pe,pe,pe,pe,t⟩ ⟨nv,nv,(fun _ _=>⟨_,y,y,sto ti y y y<|⟨.any,[],[],y,y,kz,t,zh3 (zo [.old 0,.old 3])⟩⟩),t⟩⟩⟩),nw,t⟩⟩⟩),nw,nw,t⟩) ?_
     refine rl y<|u<|mv y<|u<|add ti y y<|u<|asg y<|zb ?_
     obtain rfl:=sm h
     exact ⟨_,y,zo [.old 0,.old 1]⟩
   ·
    replace h:=bF C h
    refine zE ?_
    obtain rfl:=sm h
    exact ⟨y,_,y,zo [.old 0,.old 1]⟩
  ·
   rintro a rfl
   replace h:zkM a=some r:=h
   unfold zkM at h
   refine zy ?_
   refine zi ?_
   refine rg y<|u<|asg y<|zb ?_
   obtain ⟨o,ho,h⟩:=bs h
   refine zY (X:=Int) (B:=Unit) (R:=(Option zR)×Int) (fun z=>[(4,.mpt 0 0 0),(6,iA z)]) (fun z=>[some (1,[[.msl 1 0 (length a)]]),some (6,map zd a)]) (fun b=>[(4,.mpt 0 0 0)]) (fun b=>[some (1,[[.msl 1 0 (length a)]]),some (6,map zd a)]) (fun r env st=>zaO Tryz.prog Tryz.f28 0 (.tup [zlf 1 zfr r.1,iA r.2]) [] env st) ho (zo [.old 0,.old 1]) ?_ ?_ ?_
   ·
    rintro O r h
    replace h:zf8 a O=some r:=h
    unfold zf8 at h
    refine zi ?_
    refine rg y<|u<|mv y<|u<|mv y<|u<|nc y y<|u<|fa ti y y y<|u<|ld ti y y<|u<|lnM ti y y y<|u<|lss ti y y<|zb ?_
    refine ze y (fun E=>?_) (fun E=>?_)
    ·
     replace h:=bT E h
     refine zg ?_
     refine zi ?_
     refine zs ?_
     obtain ⟨U,q36,h⟩:=bs h
     refine rg y<|u<|mv y<|u<|nc y y<|u<|fa ti y y y<|u<|ld ti y y<|u<|mv y<|u<|ixM ti y ti y y y y q36<|u<|ldM ti y y (zl q36).2.2 y<|u<|al 2 ti y<|u<|sto ti y y y<|zb ?_
     refine zi ?_
     obtain ⟨v33,q37,h⟩:=bs h
     refine rg y<|u<|mv y<|u<|fa ti y y y<|u<|ld ti y y<|u<|pcs (zW a U.Super q37) y y (.cons (zcT y ⟨(zhm y (fun _=>y)),t⟩) (.cons (si y) .nil)) zcn<|u<|lss ti y y<|zb ?_
     refine ze y (fun F=>?_) (fun F=>?_)
     ·
      replace h:=bT F h
      refine rg y<|u<|asg y<|u<|asg y<|zb ?_
      refine zj ?_
      obtain rfl:=sm h
      exact ⟨_,y,_,y,zz []⟩
     ·
      replace h:=bF F h
      refine zg ?_
      refine rg y<|u<|asg y<|zb ?_
      obtain ⟨o,ho,h⟩:=bs h
      refine zY (X:=Int) (B:=Unit) (R:=(Option zR)×Int) (fun z=>[(4,.mpt 0 0 0),(6,iA O),(7,.mpt 2 0 0),(8,iA z)]) (fun z=>[some (1,[[.msl 1 0 (length a)]]),some (6,map zd a),some (6,[(zd U)])]) (fun b=>[(4,.mpt 0 0 0),(6,iA O)]) (fun b=>[some (1,[[.msl 1 0 (length a)]]),some (6,map zd a)]) (fun r env st=>zaO Tryz.prog Tryz.f28 0 (.tup [zlf 1 zfr r.1,iA r.2]) [] env st) ho (zo [.old 0,.old 1,.old 2]) ?_ ?_ ?_
      ·
       rintro v37 r h
       replace h:zf7 a U v37=some r:=h
       unfold zf7 at h
       refine zi ?_
       refine rg y<|u<|mv y<|u<|fa ti y y y<|u<|ld ti y y<|u<|lnI ti y y<|u<|lss ti y y<|zb ?_
       refine ze y (fun G=>?_) (fun G=>?_)
       ·
        replace h:=bT G h
        refine zg ?_
        refine zi ?_
        refine zs ?_
        obtain ⟨v38,q44,h⟩:=bs h
        obtain ⟨v39,q45,h⟩:=bs h
        refine rg y<|u<|mv y<|u<|fa ti y y y<|u<|ld ti y y<|u<|mv y<|u<|ixI ti y ti y y y q44<|u<|ldI ti y (zl q44).2.2 y<|u<|pcs (zW a v38 q45) y y (.cons (zcT y ⟨(zhm y (fun _=>y)),t⟩) (.cons (si y) .nil)) zcn<|u<|lss ti y y<|zb ?_
        refine ze y (fun H=>?_) (fun H=>?_)
        ·
         replace h:=bT H h
         refine rg y<|u<|asg y<|u<|asg y<|zb ?_
         refine zj ?_
         obtain rfl:=sm h
         exact ⟨_,y,_,y,zz []⟩
        ·
         replace h:=bF H h
         refine zg ?_
         refine rl y<|u<|mv y<|u<|add ti y y<|u<|asg y<|zb ?_
         obtain rfl:=sm h
         exact ⟨_,y,zo [.old 0,.old 1,.old 2]⟩
       ·
        replace h:=bF G h
        refine zE ?_
        obtain rfl:=sm h
        exact ⟨y,_,y,zo [.old 0,.old 1]⟩
      ·
       rintro ⟨⟩ rfl
       replace h:zkN O=some r:=h
       unfold zkN at h
       refine zy ?_
       refine rl y<|u<|mv y<|u<|add ti y y<|u<|asg y<|zb ?_
       obtain rfl:=sm h
       exact ⟨_,y,zo [.old 0,.old 1]⟩
      ·
       rintro r' rfl env st hp
       obtain rfl:=sm h
       exact ⟨_,y,hp⟩
    ·
     replace h:=bF E h
     refine zE ?_
     obtain rfl:=sm h
     exact ⟨y,_,y,zo [.old 0,.old 1]⟩
   ·
    rintro ⟨⟩ rfl
    replace h:zkO a=some r:=h
    unfold zkO at h
    refine zy ?_
    refine zi ?_
    refine rg y<|u<|asg y<|zb ?_
    obtain ⟨o,ho,h⟩:=bs h
    refine zY (X:=Int) (B:=Unit) (R:=(Option zR)×Int) (fun z=>[(4,.mpt 0 0 0),(9,iA z)]) (fun z=>[some (1,[[.msl 1 0 (length a)]]),some (6,map zd a)]) (fun b=>[(4,.mpt 0 0 0)]) (fun b=>[some (1,[[.msl 1 0 (length a)]]),some (6,map zd a)]) (fun r env st=>zaO Tryz.prog Tryz.f28 0 (.tup [zlf 1 zfr r.1,iA r.2]) [] env st) ho (zo [.old 0,.old 1]) ?_ ?_ ?_
    ·
     rintro e r h
     replace h:ze9 a e=some r:=h
     unfold ze9 at h
     refine zi ?_
     refine rg y<|u<|mv y<|u<|mv y<|u<|nc y y<|u<|fa ti y y y<|u<|ld ti y y<|u<|lnM ti y y y<|u<|lss ti y y<|zb ?_
     refine ze y (fun I=>?_) (fun I=>?_)
     ·
      replace h:=bT I h
      refine zg ?_
      refine zi ?_
      refine zs ?_
      obtain ⟨c,q65,h⟩:=bs h
      refine rg y<|u<|mv y<|u<|nc y y<|u<|fa ti y y y<|u<|ld ti y y<|u<|mv y<|u<|ixM ti y ti y y y y q65<|u<|ldM ti y y (zl q65).2.2 y<|u<|al 2 ti y<|u<|sto ti y y y<|zb ?_
      refine zaX (X:=Bool) (fun z=>[(4,.mpt 0 0 0),(9,iA e),(10,.mpt 2 0 0),(11,bA z)]) (fun z=>[some (1,[[.msl 1 0 (length a)]]),some (6,map zd a),some (6,[(zd c)])]) (fun z=>zhv a e c z=some r) ?_ ?_
      ·
       obtain ⟨n,q66,h⟩:=bs h
       obtain ⟨p,P,h⟩:=bs h
       rcases bb p.Interface with q |q
       ·
        replace h:=bT q h
        exact zaf [] [16,15,14,13,12,11,10,9,8,7,6,5,4,3,2,1,0] [(11,bA true),(121,bA true),(120,.lit undef),(119,.lit undef),(118,.lit undef),(117,bA p.Interface),(116,bA p.Interface),(115,.mpt 1 (Int.toNat n) 2),(114,.mpt 1 (Int.toNat n) 0),(113,iA n),(112,sA c.Super),(111,.mpt 2 0 1),(110,.mpt 0 0 0),(109,.msl 1 0 (length a)),(108,.mpt 0 0 0),(107,.mpt 0 0 0),(106,.mpt 0 0 0)] 0 kz kz y kz (zhA ⟨pe,pe,pe,pe,pe,pe,(pb y (ldM ti y y (zl P).2.2 y w)),pe,(pb y (ixM ti y ti y y y y P w)),(pb y (pcs (zW a c.Super q66) y y (.cons (zcT y ⟨(zhm y (fun _=>y)),t⟩) (.cons (si y) .nil)) zcn w)),pe,pe,pe,pe,pe,pe,pe,t⟩ ⟨true,h,zo [.old 0,.old 1,.old 2]⟩)
       ·
        replace h:=bF q h
        obtain ⟨Q,q69,h⟩:=bs h
        exact zaf [] [16,15,14,13,12,11,10,9,8,7,6,5,4,3,2,1,0] [(11,bA Q),(121,bA Q),(120,bA Q),(119,iA e),(118,.mpt 0 0 0),(117,bA p.Interface),(116,bA p.Interface),(115,.mpt 1 (Int.toNat n) 2),(114,.mpt 1 (Int.toNat n) 0),(113,iA n),(112,sA c.Super),(111,.mpt 2 0 1),(110,.mpt 0 0 0),(109,.msl 1 0 (length a)),(108,.mpt 0 0 0),(107,.mpt 0 0 0),(106,.mpt 0 0 0)] 0 kz kz y kz (zhA ⟨pe,pe,(fun _=>pag (b:=p.Interface) y y y y q y (pcs (znH a e q69) y y (.cons (zcT y ⟨(zhm y (fun _=>y)),t⟩) (.cons (si y) .nil)) zcn<|w)),pe,pe,pe,(pb y (ldM ti y y (zl P).2.2 y w)),pe,(pb y (ixM ti y ti y y y y P w)),(pb y (pcs (zW a c.Super q66) y y (.cons (zcT y ⟨(zhm y (fun _=>y)),t⟩) (.cons (si y) .nil)) zcn w)),pe,pe,pe,pe,pe,pe,pe,t⟩ ⟨Q,h,zo [.old 0,.old 1,.old 2]⟩)
      ·
       rintro v62 h
       replace h:zhv a e c v62=some r:=h
       unfold zhv at h
       refine zi ?_
       refine rg y<|u<|asg y<|zb ?_
       obtain ⟨o,ho,h⟩:=bs h
       refine zY (X:=Bool×Int) (B:=Bool) (R:=(Option zR)×Int) (fun z=>[(4,.mpt 0 0 0),(9,iA e),(10,.mpt 2 0 0),(11,bA z.1),(12,iA z.2)]) (fun z=>[some (1,[[.msl 1 0 (length a)]]),some (6,map zd a),some (6,[(zd c)])]) (fun b=>[(4,.mpt 0 0 0),(9,iA e),(11,bA b)]) (fun b=>[some (1,[[.msl 1 0 (length a)]]),some (6,map zd a)]) (fun r env st=>zaO Tryz.prog Tryz.f28 0 (.tup [zlf 1 zfr r.1,iA r.2]) [] env st) ho (zo [.old 0,.old 1,.old 2]) ?_ ?_ ?_
       ·
        rintro ⟨i,v⟩ r h
        replace h:zdI a c i v=some r:=h
        unfold zdI at h
        refine zi ?_
        refine rg y<|u<|mv y<|u<|fa ti y y y<|u<|ld ti y y<|u<|lnI ti y y<|u<|lss ti y y<|zb ?_
        refine ze y (fun J=>?_) (fun J=>?_)
        ·
         replace h:=bT J h
         refine zg ?_
         refine zi ?_
         refine zs ?_
         rcases bb i with l |l
         ·
          replace h:=bT l h
          refine zjw [(4,.mpt 0 0 0),(9,iA e),(10,.mpt 2 0 0),(11,bA true),(12,iA v)] [some (1,[[.msl 1 0 (length a)]]),some (6,map zd a),some (6,[(zd c)])] [] [18,17,16,15,14,13,12,11,10,9,8,7,6,5,4,3,2,1,0] [(11,bA true),(146,bA true),(145,.lit undef),(144,.lit undef),(143,.lit undef),(142,.lit undef),(141,.lit undef),(140,.lit undef),(139,.lit undef),(138,.lit undef),(137,.lit undef),(136,.lit undef),(135,.lit undef),(134,.lit undef),(133,.lit undef),(132,.lit undef),(131,.lit undef),(130,bA i),(129,bA i)] 0 (zh3 (zo [.old 0,.old 1,.old 2])) ?_
          refine rl y<|u<|mv y<|u<|add ti y y<|u<|asg y<|zb ?_
          obtain rfl:=sm h
          exact ⟨_,y,zo [.old 0,.old 1,.old 2]⟩
         ·
          replace h:=bF l h
          obtain ⟨v70,q77,h⟩:=bs h
          obtain ⟨V,q78,h⟩:=bs h
          obtain ⟨A,q79,h⟩:=bs h
          refine zjw [(4,.mpt 0 0 0),(9,iA e),(10,.mpt 2 0 0),(11,bA (!A.Interface)),(12,iA v)] [some (1,[[.msl 1 0 (length a)]]),some (6,map zd a),some (6,[(zd c)])] [] [18,17,16,15,14,13,12,11,10,9,8,7,6,5,4,3,2,1,0] [(11,bA (!A.Interface)),(146,bA (!A.Interface)),(145,bA (!A.Interface)),(144,bA A.Interface),(143,.mpt 1 (Int.toNat V) 2),(142,.mpt 1 (Int.toNat V) 0),(141,iA V),(140,sA v70),(139,.ipt 1 (map zf c.Impl) (Int.toNat v) 0),(138,iA v),(137,.isl 1 (map zf c.Impl)),(136,.mpt 2 0 3),(135,.mpt 0 0 0),(134,.msl 1 0 (length a)),(133,.mpt 0 0 0),(132,.mpt 0 0 0),(131,.mpt 0 0 0),(130,bA i),(129,bA i)] 0 (zhA ⟨pe,pe,pe,(fun _=>pag (b:=i) y y y y l y (ldM ti y y (zl q79).2.2 y<|w)),pe,(fun _=>pag (b:=i) y y y y l y (ixM ti y ti y y y y q79<|w)),(fun _=>pag (b:=i) y y y y l y (pcs (zW a v70 q78) y y (.cons (zcT y ⟨(zhm y (fun _=>y)),t⟩) (.cons (si y) .nil)) zcn<|w)),(fun _=>pag (b:=i) y y y y l y (ldI ti y (zl q77).2.2 y<|w)),(fun _=>pag (b:=i) y y y y l y (ixI ti y ti y y y q77<|w)),pe,pe,pe,pe,pe,pe,pe,pe,pe,pe,t⟩ (zo [.old 0,.old 1,.old 2])) ?_
          refine rl y<|u<|mv y<|u<|add ti y y<|u<|asg y<|zb ?_
          obtain rfl:=sm h
          exact ⟨_,y,zo [.old 0,.old 1,.old 2]⟩
        ·
         replace h:=bF J h
         refine zE ?_
         obtain rfl:=sm h
         exact ⟨y,_,y,zo [.old 0,.old 1]⟩
       ·
        rintro v73 rfl
        replace h:zjz e v73=some r:=h
        unfold zjz at h
        refine zy ?_
        refine rg y<|u<|mv y<|zb ?_
        refine ze y (fun K=>?_) (fun K=>?_)
        ·
         replace h:=bT K h
         refine rg y<|u<|asg y<|u<|asg y<|zb ?_
         refine zj ?_
         obtain rfl:=sm h
         exact ⟨_,y,_,y,zz []⟩
        ·
         replace h:=bF K h
         refine zg ?_
         refine rl y<|u<|mv y<|u<|add ti y y<|u<|asg y<|zb ?_
         obtain rfl:=sm h
         exact ⟨_,y,zo [.old 0,.old 1]⟩
       ·
        rintro r' rfl env st hp
        obtain rfl:=sm h
        exact ⟨_,y,hp⟩
     ·
      replace h:=bF I h
      refine zE ?_
      obtain rfl:=sm h
      exact ⟨y,_,y,zo [.old 0,.old 1]⟩
    ·
     rintro ⟨⟩ rfl
     replace h:zlL a=some r:=h
     unfold zlL at h
     refine zy ?_
     refine rg y<|u<|mv y<|u<|asg y<|u<|asg y<|zb ?_
     refine zj ?_
     obtain rfl:=sm h
     exact ⟨_,y,[],zt3 ⟨(rsP y y ⟨(zoJ y y (fun _=>y)),t⟩ y),(ci y),t⟩,y,t,y,k⟩
    ·
     rintro r' rfl env st hp
     obtain rfl:=sm h
     exact hp
   ·
    rintro r' rfl env st hp
    obtain rfl:=sm h
    exact hp
  ·
   rintro r' rfl env st hp
   obtain rfl:=sm h
   exact hp
theorem R.trunc{A:Nat→Prop}{m:BM}{w:World}{st:St}(hR:R A m w st){l k:Nat}{els:List (List AV)}(he:st[l]?=some (some (k,els)))(q:Nat)(hk:Nat.beq k 2=false):
  R A m w (st.set l (some (k,els.take q))):=by
 have hl:l<st.length:=(List.getElem?_eq_some_iff.1 he).1
 have hk2:k≠2:=fun e=>by subst e;cases hk
 refine ⟨hR.aLow,hR.aOwn,hR.inj,fun x b hb=>?_,fun x k' els' hx=>?_⟩
 ·by_cases e:l=x
  ·subst e
   exact ⟨els.take q,by rw [List.getElem?_set_self hl,(hR.at hb he).1]⟩
  ·obtain ⟨els1,h1⟩:=hR.live x b hb
   exact ⟨els1,by rw [List.getElem?_set_ne e];exact h1⟩
 ·rw [List.length_set]
  by_cases e:l=x
  ·subst e
   rw [List.getElem?_set_self hl] at hx
   cases hx
   obtain ⟨b,h1,h2,h3,h4⟩:=hR.blk l k els he
   refine ⟨b,h1,h2,fun hh=>?_,fun hh=>by rw [h4 hh];simp⟩
   have ho:=h3 hh
   refine ⟨ho.low,ho.there,ho.free,fun hq=>?_,fun i hi=>?_,fun hq i hi j hj=>?_,fun hq=>?_⟩
   ·refine Nat.le_trans (Nat.add_le_add_left (Nat.mul_le_mul_right _ ?_) _) (ho.fit hq)
    simp;omega
   ·simp only [List.getElem_take];exact ho.wide _ _
   ·simp only [List.getElem_take] at hj ⊢
    exact ho.val hq i (by simp at hi;omega) j hj
   ·exact absurd (h2.symm.trans (ho.mval hq).1) hk2
  ·rw [List.getElem?_set_ne e] at hx
   exact hR.blk x k' els' hx
theorem zwN{α:Type}{l r:List α}{c:Int}(h:zkh l 0 c=some r):r=l.take c.toNat:=by
 unfold zkh at h
 split at h
 ·cases h;simp
 ·cases h
section
variable {P : Program} {n nb0 : Nat} {all l1 l2 : List Oper} {K : Ev → St → Prop} {env : Ev} {st : St} {d : Nat} {ty : TypeId} {pos : String} {aft : Array Edge} {gu : Option (Nat × Bool)}
theorem zCY{α:Type}{cd:Code}{Q:Exit→Ev→St→Prop}{b sz:Nat}{l r:List α}{f:α→List AV}{c:Int}(hb:st[b]?=some (some (sz,l.map f)))(hk:Nat.beq sz 2=false)(h:zkh l 0 c=some r)
  (k:SW P n nb0 cd Q env (st.set b (some (sz,r.map f)))):SW P n nb0 cd Q env st:=by
 intro A m w a h0 hR hE
 have e:r.map f=(l.map f).take c.toNat:=by rw [zwN h,List.map_take]
 rw [e] at k
 have hlen:(st.set b (some (sz,(l.map f).take c.toNat))).length=st.length:=by simp
 exact k A m w a (by rw [hlen];exact h0) (hR.trunc hb c.toNat hk) (by rw [hlen];exact hE)
theorem slM{α:Type}{t e:TypeId}{x:Operand}{hi:Option Operand}{ti te:TI}{sz b:Nat}{l r:List α}{f:α→List AV}{c:Int}(ht:zcR P t=some ti)(hk:ti.k=.slc e)(he:zcR P e=some te)(hs:te.size=sz)(hx:ev env x=some (.msl b 0 l.length))
  (hb:st[b]?=some (some (sz,l.map f))) (hhi:zlh env l.length hi=some c.toNat) (h:zkh l 0 c=some r) (k:K ((d,.msl b 0 r.length)::env) st):SOp P ⟨some d,.slice t x none hi none,ty,pos,aft,gu⟩ env st K:=zf3 rfl (by
   unfold zkh at h
   split at h
   ·rename_i h1
    cases h
    have e':ztf (.msl b 0 l.length)=some l.length:=rfl
    have e0:zlh env 0 none=some 0:=rfl
    simp only [aop,ht,hk,hx,e',he,hhi,e0,zz1,hb]
    rw [if_pos ⟨hs.symm,by omega,by omega⟩]
    have:((l.drop (0:Int).toNat).take (c.toNat-(0:Int).toNat)).length=c.toNat-0:=by simp;omega
    rw [this];rfl
   ·cases h) k
theorem zDj{α:Type}{sz:Nat}{l:List α}{f:α→List AV}{i:Int}{c:α}(h:idx l i=some c)(k:SR P n nb0 all l1 l2 K ((d,.ipt sz [f c] 0 0)::env) st):SR P n nb0 all l1 l2 K ((d,.ipt sz (l.map f) i.toNat 0)::env) st:=by
 intro ops q ho hd hn A m w a h0 hR hE Q hQ
 obtain ⟨_,hi,hc⟩:=zl h
 refine k ops q ho hd hn A m w a h0 hR ⟨hE.size,fun t v hl=>?_,hE.defers⟩ Q hQ
 simp only [zbl] at hl
 split at hl
 ·rename_i e
  cases hl
  obtain ⟨h1,h2⟩:=hE.val t (.ipt sz (l.map f) i.toNat 0) (by simp [zbl,e])
  refine ⟨h1,.imm ?_⟩
  have h3:=h2.ipt_inv
  generalize a.tmps.getD t undef=v at h3
  have hg:(l.map f)[i.toNat]'(by simpa using hi)=f c:=by
   have:=(List.getElem?_eq_some_iff.1 hc).2
   simp [this]
  cases h3 with
  |ipt _ _ _ _ B o vs hA hk hcell hval =>
   have:=VI.ipt (A:=A) (w:=w) sz [f c] 0 0 B (o+i.toNat*sz) (fun _ j=>vs i.toNat j) hA
    (fun i' hi'=>by
     have:i'=0:=by simpa using hi'
     subst this
     show (f c).length=sz
     rw [←hg];exact hk _ _)
    (fun i' j hi' hj=>by
     have:i'=0:=by simpa using hi'
     subst this
     rw [←hcell i.toNat j (by simpa using hi) hj]
     congr 2;omega)
    (fun i' hi' j hj=>by
     have:i'=0:=by simpa using hi'
     subst this
     have hj':j<((l.map f)[i.toNat]'(by simpa using hi)).length:=by rw [hg];exact hj
     have h5:=hval i.toNat (by simpa using hi) j hj'
     have e5:((l.map f)[i.toNat]'(by simpa using hi))[j]=(f c)[j]'hj:=by simp only [hg]
     rw [e5] at h5
     exact h5)
   simpa using this
 ·rename_i e
  exact hE.val t v (by simp [zbl,e,hl])
theorem zCU{α:Type}{t u' e:TypeId}{x y:Operand}{ti:TI}{sz:Nat}{l:List α}{f:α→List AV}(ht:zcR P t=some ti)(hk:ti.k=.slc e)(hx:ev env x=some (.isl sz (l.map f)))(hy:ev env y=some (.lit (.slice none 0 0)))
  (hh:(l=[]→SR P n nb0 all l1 l2 K ((d,.lit (.bool true))::env) st)∧SR P n nb0 all l1 l2 K ((d,.lit (.bool false))::env) st):SR P n nb0 all (⟨some d,.binOp .eql t x y u',ty,pos,aft,none⟩::l1) l2 K env st:=by
 obtain ⟨h1,h2⟩:=hh
 intro ops i ho hd hn A m w a h0 hR hE Q hQ
 obtain ⟨hi,hd',hdo⟩:=zCT ho hd hn
 have e:((⟨some d,.binOp .eql t x y u',ty,pos,aft,none⟩:Oper)::l1).length+l2.length=(l1.length+l2.length)+1:=by simp;omega
 rw [e,List.range'_succ]
 simp only [wpOps,hi]
 rw [zfV (b:=true) hE (by rfl)]
 simp only [if_true]
 refine .inl ?_
 obtain ⟨dd,i0,hdd,_,_,_,_,hdk,_⟩:=zb0 ht
 rw [hk] at hdk
 have hds:=zkc hdk
 subst hds
 have fin:∀b:Bool,(execOp a.eval ⟨some d,.binOp .eql t x y u',ty,pos,aft,none⟩).run P w=.ok (.value (.bool b)) w→SR P n nb0 all l1 l2 K ((d,.lit (.bool b))::env) st →
   Oper.wp P ⟨some d,.binOp .eql t x y u',ty,pos,aft,none⟩ a w (fun a' w'=>wpOps P ops Q (List.range' (i+1) (l1.length+l2.length)) a' w') Q:=fun b hr k=>by
  unfold Oper.wp
  rw [hr]
  refine k ops (i+1) ho hd' hn A m w _ h0 hR (hE.aput (d:=some d) hdo (.imm (.lit _))) Q fun a2 w2 k2=>?_
  have:=hQ a2 w2 k2
  rwa [List.length_cons,Nat.add_comm l1.length 1,←Nat.add_assoc] at this
 have run:∀(ad:Option Addr) (n1 c1:Nat),a.eval x=.slice ad n1 c1→(execOp a.eval ⟨some d,.binOp .eql t x y u',ty,pos,aft,none⟩).run P w=.ok (.value (.bool ad.isNone)) w:=fun ad n1 c1 hq=>by
  have hy':=(z6 hE hy).lit_inv
  have e1:=zmd (P:=P) (w:=w) hdd ad n1 c1
  show ((do pure (.value (←(do eqGuard .eql t x y (a.eval x) (a.eval y);binOp .eql t (a.eval x) (a.eval y):Sem Value))):Sem Next).run P w)=_
  rw [hq,hy']
  simp only [Sem.run_bind,zlq,Result.andThen_ok,binOp,e1]
  rfl
 have hv:=(z6 hE hx).isl_inv
 generalize hg:l.map f=els at hv
 generalize hq:a.eval x=v at hv
 cases hv with
 |isl _ _ B o cap vs hA hcap hk hcell hval=>exact fin _ (run _ _ _ hq) h2
 |inil _ ad cap =>
  have hl:l=[]:=by simpa using hg
  cases ad with
  |none=>exact fin _ (run _ _ _ hq) (h1 hl)
  |some _=>exact fin _ (run _ _ _ hq) h2
theorem zCV{v v':AV}(e:v=v')(k:SR P n nb0 all l1 l2 K ((d,v')::env) st):SR P n nb0 all l1 l2 K ((d,v)::env) st:=by rw [e];exact k
end
theorem zxU{α:Type}{τ:Nat→Nat}{k:Nat}{f:α→List AV}{o:Option α}:rn τ (zlf k f o)=zlf k f o:=by cases o <;> rfl
def vK(h0:List za)(h1:T2)(c:T0)(m:zc)(x0:AV)(x1:AV)(x2:AV):List AV:=[.ipt 2 [[.isl 6 (map zd h0),.imp (map (rKV (fun x=>iA x)) h1)]] 0 0,sA c,sA m.Name,.isl 1 (map zf m.Params),sA m.Ret,bA m.Static,bA m.Abstract,iA m.Locals,iA m.Stack,.isl 4 (map zu m.Code),.isl 3 (map zL m.Maps),.isl 4 (map za9 m.Traps),x0,x1,x2]
def zuF(a:T0):Unit:=
  ()
theorem ztJ(a:T0){r:Unit}(h:zuF a=r):SC Tryz.prog 22 [sA a] [] (.agg [sA a,sA [79,98,106,101,99,116],bA false,.lit (.slice none 0 0),.msl 0 0 1,.msl 1 0 1]) [.xs 3 [[sA [120],sA [73],bA false]],.xs 10 [[sA [109,97,105,110],.lit (.slice none 0 0),sA [86],bA true,bA false,iA 0,iA 0,.msl 2 0 1,.lit (.slice none 0 0),.lit (.slice none 0 0)]],.xs 4 [[iA 46,iA 0,sA [],sA []]]]:=by
 refine ⟨⟨t,t,t,t⟩,zV Tryz.func22 y kz y ?_⟩
 unfold zuF at h
 refine rg y<|u<|al 0 ti y<|zb ?_
 refine rg y<|u<|mv y<|u<|bd ti y y y<|u<|bl 1 ti y ti y (by decide) (by decide) y y y<|u<|bd ti y y y<|u<|bl 2 ti y ti y (by decide) (by decide) y y y<|u<|bd ti y y y<|u<|bl 3 ti y ti y (by decide) (by decide) y y y<|u<|bd ti y y y<|u<|sto ti y y y<|zb ?_
 refine zj ?_
 obtain rfl:=h
 exact ⟨_,y,zz [.old 1,.old 3,.old 2]⟩
def zuG:Unit:=
  ()
theorem zmU{r:Unit}(h:zuG=r):SC Tryz.prog 51 [] [] (.msl 0 0 3) [.xs 6 [[sA [70,97,99,101],sA [79,98,106,101,99,116],bA true,.lit (.slice none 0 0),.lit (.slice none 0 0),.msl 1 0 1],[sA [65,97],sA [79,98,106,101,99,116],bA false,.msl 2 0 1,.msl 3 0 2,.msl 4 0 1],[sA [66,98],sA [65,97],bA false,.lit (.slice none 0 0),.msl 6 0 1,.msl 7 0 1]],.xs 10 [[sA [102],.lit (.slice none 0 0),sA [73],bA false,bA true,iA 0,iA 0,.lit (.slice none 0 0),.lit (.slice none 0 0),.lit (.slice none 0 0)]],.xs 1 [[sA [70,97,99,101]]],.xs 3 [[sA [120],sA [73],bA false],[sA [115],sA [73],bA true]],.xs 10 [[sA [102],.lit (.slice none 0 0),sA [73],bA false,bA false,iA 1,iA 1,.msl 5 0 2,.lit (.slice none 0 0),.lit (.slice none 0 0)]],.xs 4 [[iA 1,iA 5,sA [],sA []],[iA 47,iA 0,sA [],sA []]],.xs 3 [[sA [121],sA [91,65,97],bA false]],.xs 10 [[sA [109,97,105,110],.lit (.slice none 0 0),sA [86],bA true,bA false,iA 0,iA 0,.msl 8 0 1,.lit (.slice none 0 0),.lit (.slice none 0 0)]],.xs 4 [[iA 46,iA 0,sA [],sA []]]]:=by
 refine ⟨⟨t,t,t,t,t,t,t,t,t,t⟩,zV Tryz.func51 y kz y ?_⟩
 unfold zuG at h
 refine rg y<|u<|asg y<|zb ?_
 refine rg y<|u<|bd ti y y y<|u<|bl 0 ti y ti y (by decide) (by decide) y y y<|u<|bd ti y y y<|u<|al 1 ti y<|u<|sto ti y y y<|zb ?_
 refine rg y<|u<|bl 2 ti y ti y (by decide) (by decide) y y y<|u<|bd ti y y y<|u<|bd ti y y y<|u<|bl 3 ti y ti y (by decide) (by decide) y y y<|u<|bd ti y y y<|u<|bd ti y y y<|u<|bl 4 ti y ti y (by decide) (by decide) y y y<|u<|bd (parts:=[(0,sA [102]),(2,sA [73]),(5,iA 1),(6,iA 1),(7,.msl 4 0 2)]) (cs:=[sA [102],.lit (.slice none 0 0),sA [73],bA false,bA false,iA 1,iA 1,.msl 4 0 2,.lit (.slice none 0 0),.lit (.slice none 0 0)]) ti y y kz<|u<|bl 5 ti y ti y (by decide) (by decide) y y y<|u<|bd (parts:=[(0,sA [65,97]),(1,sA [79,98,106,101,99,116]),(3,.msl 2 0 1),(4,.msl 3 0 2),(5,.msl 5 0 1)]) (cs:=[sA [65,97],sA [79,98,106,101,99,116],bA false,.msl 2 0 1,.msl 3 0 2,.msl 5 0 1]) ti y y kz<|u<|al 6 ti y<|u<|sto ti y y y<|zb ?_
 refine rg y<|u<|sx [] (ztJ [66,98] y)<|u<|al 10 ti y<|u<|sto ti y y y<|zb ?_
 refine rg y<|u<|fa ti y y y<|u<|sto ti y y y<|zb ?_
 refine rg y<|u<|bd ti y y y<|u<|bl 11 ti y ti y (by decide) (by decide) y y y<|u<|fa ti y y y<|u<|sto ti y y y<|zb ?_
 refine rg y<|u<|ld ti y y<|u<|ld ti y y<|u<|ld ti y y<|u<|bl 12 ti y ti y (by decide) (by decide) y y y<|u<|asg y<|zb ?_
 refine zj ?_
 obtain rfl:=h
 exact ⟨_,y,zz [.old 12,.old 0,.old 2,.old 3,.old 5,.old 4,.old 11,.old 8,.old 9]⟩
def zn8:Bool:=
  true
theorem zrq{r:Bool}(h:zn8=r):zG Tryz.prog 76 [] (bA r):=by
 refine zr Tryz.func76 y kz y y ?_
 unfold zn8 at h
 refine rg y<|u<|asg y<|zb ?_
 refine rg y<|u<|pc (zrr y) y y y<|u<|asg y<|zb ?_
 refine zj ?_
 obtain rfl:=h
 exact ⟨_,y,zz []⟩
def zaQ(a:List za)(b:T2)(c:T0):Option (za×Bool):=
  cond (!(zbQ a b c)) (some ((za.mk [] [] false [] [] []),false)) ((zcZ a b c).bind fun d=>some (d,true))
theorem zbw(b:List za)(c:T2)(d:T0){r:za×Bool}(h:zaQ b c d=some r):zG Tryz.prog 63 [.ipt 2 [[.isl 6 (map zd b),.imp (map (rKV (fun x=>iA x)) c)]] 0 0,sA d] (.tup [.agg (zd r.1),bA r.2]):=by
 refine zr Tryz.func63 y kz y y ?_
 unfold zaQ at h
 refine rg y<|u<|al 0 ti y<|u<|asg y<|zb ?_
 refine zi ?_
 refine rg y<|u<|mv y<|u<|mv y<|u<|pc (zfp b c d y) y y y<|u<|nt y<|zb ?_
 refine ze y (fun a=>?_) (fun a=>?_)
 ·
  replace h:=bT a h
  refine rg y<|u<|bd ti y y y<|u<|sto ti y y y<|u<|asg y<|zb ?_
  refine zj ?_
  obtain rfl:=sm h
  exact ⟨_,y,zz []⟩
 ·
  replace h:=bF a h
  refine zg ?_
  obtain ⟨f,e,h⟩:=bs h
  refine rg y<|u<|mv y<|u<|mv y<|u<|pc (zep b c d e) y y y<|u<|sto ti y y y<|u<|asg y<|zb ?_
  refine zj ?_
  obtain rfl:=sm h
  exact ⟨_,y,zz []⟩
def zev(b:List za)(c:T2)(a:T0):Option (Bool):=
  some ((a == [73])||(zbQ b c a))
def zb7(d:T0)(a:T0)(c:Bool):Option (Sum (T0×T0×Bool) (Sum (T0) (Bool))):=
  cond c ((zfZ a).bind fun b=>some (.inl (a,b.1,b.2))) (some (.inr (.inl d)))
def zdO(d:List za)(e:T2)(a:T0):Option (Bool):=
  (zfZ a).bind fun c=>(zw (fun z=>zb7 z.1 z.2.1 z.2.2) (a,c.1,c.2)).bind fun o=>zU o (fun b=>zev d e b) some
theorem zir(c:List za)(d:T2)(l:T0){r:Bool}(h:zdO c d l=some r):zG Tryz.prog 134 [.ipt 2 [[.isl 6 (map zd c),.imp (map (rKV (fun x=>iA x)) d)]] 0 0,sA l] (bA r):=by
 refine zr Tryz.func134 y kz y y ?_
 unfold zdO at h
 refine rg y<|u<|asg y<|zb ?_
 refine zi ?_
 obtain ⟨v,n,h⟩:=bs h
 refine rg y<|u<|mv y<|u<|pc (zhs l n) y y y<|u<|mv y<|u<|ex y y<|u<|ex y y<|u<|asg y<|u<|asg y<|zb ?_
 obtain ⟨o,ho,h⟩:=bs h
 refine zY (X:=T0×T0×Bool) (B:=T0) (R:=Bool) (fun z=>[(0,.ipt 2 [[.isl 6 (map zd c),.imp (map (rKV (fun x=>iA x)) d)]] 0 0),(1,sA z.1),(5,sA z.2.1),(6,bA z.2.2)]) (fun z=>[]) (fun b=>[(0,.ipt 2 [[.isl 6 (map zd c),.imp (map (rKV (fun x=>iA x)) d)]] 0 0),(1,sA b)]) (fun b=>[]) (fun r env st=>zaO Tryz.prog Tryz.f134 0 (bA r) [] env st) ho (zo []) ?_ ?_ ?_
 ·
  rintro ⟨p,f,m⟩ r h
  replace h:zb7 p f m=some r:=h
  unfold zb7 at h
  refine zi ?_
  refine rg y<|u<|mv y<|zb ?_
  refine ze y (fun e=>?_) (fun e=>?_)
  ·
   replace h:=bT e h
   refine zg ?_
   refine zi ?_
   refine zs ?_
   refine rl y<|u<|mv y<|u<|asg y<|zb ?_
   obtain ⟨s,q,h⟩:=bs h
   refine rl y<|u<|mv y<|u<|pc (zhs f q) y y y<|u<|mv y<|u<|ex y y<|u<|ex y y<|u<|asg y<|u<|asg y<|zb ?_
   obtain rfl:=sm h
   exact ⟨_,y,zo []⟩
  ·
   replace h:=bF e h
   refine zE ?_
   obtain rfl:=sm h
   exact ⟨y,_,y,zo []⟩
 ·
  rintro i rfl
  replace h:zev c d i=some r:=h
  unfold zev at h
  refine zy ?_
  refine rg y<|u<|mv y<|u<|nep ti y y y y y y<|u<|mv y<|g y y<|mv y<|g y y<|seq ti y y<|g y y<|mv y<|zcU (j:=5) 3 y y y y y (gps y y y) (fun a=>g y a<|mv y<|g y a<|mv y<|g y a<|pc (zfp c d i y) y y y<|zb (egO [25,26,27] 3 a y y y y)) orT<|u<|pk (b:=true) y y<|u<|asg y<|zb ?_
  refine zj ?_
  obtain rfl:=sm h
  exact ⟨_,y,zz []⟩
 ·
  rintro r' rfl env st hp
  obtain rfl:=sm h
  exact hp
def zfG(a:T1):Option (T1):=
  some a
def za0(b:List za)(c:T2)(a:T0)(d:T1):Option (Sum (T0×T1) (Sum (T1) (T1))):=
  cond (zbQ b c a) ((zh2 16 d [a]).bind fun e=>(zcZ b c a).bind fun f=>some (.inl (f.Super,e))) (some (.inr (.inl d)))
def zbz(a:List za)(c:T2)(d:T0):Option (T1):=
  (zw (fun z=>za0 a c z.1 z.2) (d,[])).bind fun o=>zU o (fun b=>zfG b) some
theorem zdk(a:List za)(c:T2)(g:T0){r:T1}(h:zbz a c g=some r):SC Tryz.prog 66 [.ipt 2 [[.isl 6 (map zd a),.imp (map (rKV (fun x=>iA x)) c)]] 0 0,sA g] [] (.msl 0 0 (length r)) [.many 1 (map zf r)]:=by
 refine ⟨⟨zh0 (sz:=1) (fun _=>y),t⟩,zV Tryz.func66 y kz y ?_⟩
 unfold zbz at h
 refine rg y<|u<|asg y<|zb ?_
 refine rg y<|u<|asg y<|zb ?_
 obtain ⟨o,ho,h⟩:=bs h
 refine zzM (X:=T0×T1) (B:=T1) (R:=T1) (fun z=>[(0,.ipt 2 [[.isl 6 (map zd a),.imp (map (rKV (fun x=>iA x)) c)]] 0 0),(1,sA z.1),(5,.msl 0 0 (length z.2))]) (fun z=>[some (1,map zf z.2)]) (fun b=>[(5,.msl 0 0 (length b))]) (fun b=>[some (1,map zf b)]) (fun r env st=>zaO Tryz.prog Tryz.f66 0 (.msl 0 0 (length r)) [some (1,map zf r)] env st) ho ⟨[.fresh 1],ce y y<|ce y y<|cv y (.nilown y)<|cn,y,⟨w,t⟩,y,k⟩ ?_ ?_ ?_
 ·
  rintro ⟨e,j⟩ r h
  replace h:za0 a c e j=some r:=h
  unfold za0 at h
  refine zi ?_
  refine rg y<|u<|mv y<|u<|mv y<|u<|pc (zfp a c e y) y y y<|zb ?_
  refine ze y (fun d=>?_) (fun d=>?_)
  ·
   replace h:=bT d h
   refine zg ?_
   refine zs ?_
   obtain ⟨n,l,h⟩:=bs h
   refine rg y<|u<|mv y<|u<|mv y<|u<|bl 1 ti y ti y (by decide) (by decide) y y y<|u<|apM 2 ti y ti y y (by decide) ti y y y y (roX (f:=zf) (z:=[e]) y y) (fun _=>y) y l<|u<|asg y<|zb ?_
   obtain ⟨p,m,h⟩:=bs h
   refine rl y<|u<|mv y<|u<|mv y<|u<|pc (zep a c e m) y y y<|u<|fdV y y<|u<|asg y<|zb ?_
   obtain rfl:=sm h
   exact ⟨_,y,zo [.old 2]⟩
  ·
   replace h:=bF d h
   refine zE ?_
   obtain rfl:=sm h
   exact ⟨y,_,y,zo [.old 0]⟩
 ·
  rintro i rfl
  replace h:zfG i=some r:=h
  unfold zfG at h
  refine rg y<|u<|mv y<|u<|asg y<|zb ?_
  refine zj ?_
  obtain rfl:=sm h
  exact ⟨_,y,zz [.old 0]⟩
 ·
  rintro r' rfl env st hp
  obtain rfl:=sm h
  exact hp
def zej(a:T1):Option (T1):=
  (zv4 a).bind fun b=>some b
def zei(a:Int)(b:T1)(c:T1):Option (Sum (T1×T1×Int) (Sum (T1) (T1))):=
  some (.inl (b,c,(IntKind.i64.wrap (a+1))))
def zcK(a:Int)(b:T1):Option (Sum (T1×Int) (Sum (T1) (T1))):=
  some (.inl (b,(IntKind.i64.wrap (a+1))))
def zb6(c:za)(a:T1)(b:Int):Option (Sum (T1×Int) (Sum (T1) (T1))):=
  cond (decide (b<(length c.Impl:Int))) ((idx c.Impl b).bind fun d=>(zK a d).bind fun e=>cond (!e) ((zh2 16 a [d]).bind fun f=>zcK b f) (zcK b a)) (some (.inr (.inl a)))
def zb5(a:T1)(c:Int)(d:za)(e:T1):Option (Sum (T1×T1×Int) (Sum (T1) (T1))):=
  (zw (fun z=>zb6 d z.1 z.2) (a,0)).bind fun o=>zU o (fun b=>zei c e b) (fun r=>some (.inr (.inr r)))
def zaZ(g:List za)(h:T2)(d:T1)(a:T1)(b:Int):Option (Sum (T1×T1×Int) (Sum (T1) (T1))):=
  cond (decide (b<((length a):Int))) ((idx a b).bind fun e=>(zcZ g h e).bind fun c=>cond c.Interface ((zh2 16 d [c.Name]).bind fun f=>zb5 a b c f) (zb5 a b c d)) (some (.inr (.inl d)))
def zdN(a:List za)(c:T2)(d:T0):Option (T1):=
  cond (!(zbQ a c d)) (some []) ((zbz a c d).bind fun e=>(zw (fun z=>zaZ a c z.1 z.2.1 z.2.2) ([],e,0)).bind fun o=>zU o (fun b=>zej b) some)
theorem ziq(e:List za)(g:T2)(v:T0){r:T1}(h:zdN e g v=some r):SC Tryz.prog 136 [.ipt 2 [[.isl 6 (map zd e),.imp (map (rKV (fun x=>iA x)) g)]] 0 0,sA v] [] (.msl 0 0 (length r)) [.many 1 (map zf r)]:=by
 refine ⟨⟨zh0 (sz:=1) (fun _=>y),t⟩,zV Tryz.func136 y kz y ?_⟩
 unfold zdN at h
 refine rg y<|u<|asg y<|zb ?_
 refine zi ?_
 refine rg y<|u<|mv y<|u<|mv y<|u<|pc (zfp e g v y) y y y<|u<|nt y<|zb ?_
 refine ze y (fun q=>?_) (fun q=>?_)
 ·
  replace h:=bT q h
  refine rg y<|u<|asg y<|zb ?_
  refine zj ?_
  obtain rfl:=sm h
  exact ⟨_,y,[.fresh 1],.nilown y,y,⟨w,t⟩,y,k⟩
 ·
  replace h:=bF q h
  refine zg ?_
  refine rg y<|u<|asg y<|zb ?_
  obtain ⟨I,T,h⟩:=bs h
  refine rg y<|u<|mv y<|u<|mv y<|u<|sx [] (zdk e g v T)<|zx (env0:=[(0,.ipt 2 [[.isl 6 (map zd e),.imp (map (rKV (fun x=>iA x)) g)]] 0 0),(5,.lit (.slice none 0 0)),(17,.msl 0 0 (length I))]) (st0:=[some (1,map zf I)]) (zo [.old 0])<|u<|asg y<|zb ?_
  refine zi ?_
  refine rg y<|u<|asg y<|zb ?_
  obtain ⟨o,ho,h⟩:=bs h
  refine zY (X:=T1×T1×Int) (B:=T1) (R:=T1) (fun z=>[(0,.ipt 2 [[.isl 6 (map zd e),.imp (map (rKV (fun x=>iA x)) g)]] 0 0),(5,.msl 0 0 (length z.1)),(6,.msl 1 0 (length z.2.1)),(7,iA z.2.2)]) (fun z=>[some (1,map zf z.1),some (1,map zf z.2.1)]) (fun b=>[(5,.msl 0 0 (length b))]) (fun b=>[some (1,map zf b)]) (fun r env st=>zaO Tryz.prog Tryz.f136 0 (.msl 0 0 (length r)) [some (1,map zf r)] env st) ho ⟨[.fresh 1,.old 0],ce y y<|cv y (.nilown y)<|cv y (.msl y)<|ce y y<|cn,y,⟨w,⟨_,y,zkb (fun _=>y)⟩,t⟩,y,k⟩ ?_ ?_ ?_
  ·
   rintro ⟨A,i,c⟩ r h
   replace h:zaZ e g A i c=some r:=h
   unfold zaZ at h
   refine zi ?_
   refine rg y<|u<|mv y<|u<|mv y<|u<|lnM ti y y y<|u<|lss ti y y<|zb ?_
   refine ze y (fun j=>?_) (fun j=>?_)
   ·
    replace h:=bT j h
    refine zg ?_
    refine zi ?_
    refine zs ?_
    obtain ⟨J,C,h⟩:=bs h
    obtain ⟨a,K,h⟩:=bs h
    refine rg y<|u<|mv y<|u<|mv y<|u<|mv y<|u<|ixM ti y ti y y y y C<|u<|ldM ti y y (zl C).2.2 y<|u<|pc (zep e g J K) y y y<|u<|al 2 ti y<|u<|sto ti y y y<|zb ?_
    refine zaX (X:=T1) (fun z=>[(0,.ipt 2 [[.isl 6 (map zd e),.imp (map (rKV (fun x=>iA x)) g)]] 0 0),(5,.msl 0 0 (length z)),(6,.msl 1 0 (length i)),(7,iA c),(8,.mpt 2 0 0)]) (fun z=>[some (1,map zf z),some (1,map zf i),some (6,[(zd a)])]) (fun z=>zb5 i c a z=some r) ?_ ?_
    ·
     refine rg y<|u<|fa ti y y y<|u<|ld ti y y<|zb ?_
     refine ze y (fun l=>?_) (fun l=>?_)
     ·
      replace h:=bT l h
      obtain ⟨L,M,h⟩:=bs h
      exact rl y<|u<|mv y<|u<|fa ti y y y<|u<|ld ti y y<|u<|bl 3 ti y ti y (by decide) (by decide) y y y<|u<|apM 4 ti y ti y y (by decide) ti y y y y (roX (f:=zf) (z:=[a.Name]) y y) (fun _=>y) y M<|u<|asg y<|zb (⟨L,h,zo [.old 4,.old 1,.old 2]⟩)
     ·
      replace h:=bF l h
      refine zg ?_
      exact ⟨A,h,zo [.old 0,.old 1,.old 2]⟩
    ·
     rintro d h
     replace h:zb5 i c a d=some r:=h
     unfold zb5 at h
     refine rg y<|u<|fa ti y y y<|u<|ld ti y y<|u<|lnI ti y y<|u<|mv y<|zb ?_
     obtain ⟨o,ho,h⟩:=bs h
     refine zY (X:=T1×Int) (B:=T1) (R:=T1) (fun z=>[(0,.ipt 2 [[.isl 6 (map zd e),.imp (map (rKV (fun x=>iA x)) g)]] 0 0),(5,.msl 0 0 (length d)),(6,.msl 1 0 (length z.1)),(7,iA c),(38,.isl 1 (map zf a.Impl)),(39,iA (length a.Impl:Int)),(40,iA z.2)]) (fun z=>[some (1,map zf d),some (1,map zf z.1)]) (fun b=>[(0,.ipt 2 [[.isl 6 (map zd e),.imp (map (rKV (fun x=>iA x)) g)]] 0 0),(5,.msl 0 0 (length d)),(6,.msl 1 0 (length b)),(7,iA c)]) (fun b=>[some (1,map zf d),some (1,map zf b)]) (fun r env st=>zaO Tryz.prog Tryz.f136 0 (.msl 0 0 (length r)) [some (1,map zf r)] env st) ho (zo [.old 0,.old 1]) ?_ ?_ ?_
     ·
      rintro ⟨s,p⟩ r h
      replace h:zb6 a s p=some r:=h
      unfold zb6 at h
      refine rg y<|u<|lss ti y y<|zb ?_
      refine zi ?_
      refine ze y (fun m=>?_) (fun m=>?_)
      ·
       replace h:=bT m h
       refine zg ?_
       refine zaX (X:=T1) (fun z=>[(0,.ipt 2 [[.isl 6 (map zd e),.imp (map (rKV (fun x=>iA x)) g)]] 0 0),(5,.msl 0 0 (length d)),(6,.msl 1 0 (length z)),(7,iA c),(38,.isl 1 (map zf a.Impl)),(39,iA (length a.Impl:Int)),(40,iA p)]) (fun z=>[some (1,map zf d),some (1,map zf z)]) (fun z=>zcK p z=some r) ?_ ?_
       ·
        refine zs ?_
        obtain ⟨D,E,h⟩:=bs h
        refine rg y<|u<|ixI ti y ti y y y E<|u<|ldI ti y (zl E).2.2 y<|u<|asg y<|zb ?_
        obtain ⟨U,N,h⟩:=bs h
        refine rg y<|u<|mv y<|u<|mv y<|u<|pcs (zaI s D N) y y (.cons (zhm y (fun _=>y)) (.cons (si y) .nil)) zcn<|u<|nt y<|zb ?_
        refine ze y (fun n=>?_) (fun n=>?_)
        ·
         replace h:=bT n h
         obtain ⟨O,P,h⟩:=bs h
         exact rl y<|u<|mv y<|u<|mv y<|u<|bl 2 ti y ti y (by decide) (by decide) y y y<|u<|apM 3 ti y ti y y (by decide) ti y y y y (roX (f:=zf) (z:=[D]) y y) (fun _=>y) y P<|u<|asg y<|zb (⟨O,h,zo [.old 0,.old 3]⟩)
        ·
         replace h:=bF n h
         refine zg ?_
         exact ⟨s,h,zo [.old 0,.old 1]⟩
       ·
        rintro Q h
        replace h:zcK p Q=some r:=h
        unfold zcK at h
        refine rl y<|u<|add ti y y<|u<|mv y<|zb ?_
        obtain rfl:=sm h
        exact ⟨_,y,zo [.old 0,.old 1]⟩
      ·
       replace h:=bF m h
       refine zE ?_
       obtain rfl:=sm h
       exact ⟨y,_,y,zo [.old 0,.old 1]⟩
     ·
      rintro S rfl
      replace h:zei c d S=some r:=h
      unfold zei at h
      refine zy ?_
      refine rl y<|u<|mv y<|u<|add ti y y<|u<|asg y<|zb ?_
      obtain rfl:=sm h
      exact ⟨_,y,zo [.old 0,.old 1]⟩
     ·
      rintro r' rfl env st hp
      obtain rfl:=sm h
      exact ⟨_,y,hp⟩
   ·
    replace h:=bF j h
    refine zE ?_
    obtain rfl:=sm h
    exact ⟨y,_,y,zo [.old 0]⟩
  ·
   rintro F rfl
   replace h:zej F=some r:=h
   unfold zej at h
   refine zy ?_
   obtain ⟨G,H,h⟩:=bs h
   refine rg y<|u<|mv y<|u<|sx [0] (zzD F H)<|zx (env0:=[(5,.msl 0 0 (length G))]) (st0:=[some (1,map zf G)]) ⟨[.old 0],cv y (zB1 (zx0 H) y)<|cn,y,⟨⟨_,y,zkb (fun _=>y)⟩,t⟩,y,k⟩<|zb ?_
   refine rg y<|u<|mv y<|u<|asg y<|zb ?_
   refine zj ?_
   obtain rfl:=sm h
   exact ⟨_,y,zz [.old 0]⟩
  ·
   rintro r' rfl env st hp
   obtain rfl:=sm h
   exact hp
def zbP(o:((List za)×T2×T0×T0→Option Bool))(b:List za)(c:T2)(d:T0)(a:T0):Option (Bool):=
  (zdO b c d).bind fun p=>(cond (!p) (some true) ((zdO b c a).bind fun q=>some (!q))).bind fun r=>cond r (some false) ((zfZ d).bind fun e=>(zfZ a).bind fun f=>cond (d == a) (some true) (cond (e.2&&f.2) ((cond ((!(e.1 == [73]))&&(!(f.1 == [73]))) ((o (b,c,e.1,f.1)).bind fun g=>some g) (some false)).bind fun h=>some h) (cond e.2 (some (a == [79,98,106,101,99,116])) ((zbz b c d).bind fun i=>(zK i a).bind fun j=>(cond j (some true) ((zdN b c d).bind fun l=>(zK l a).bind fun m=>some m)).bind fun n=>some n))))
theorem zlr(C:((List za)×T2×T0×T0→Option Bool))(hrec:∀z r,C z=some r→zG Tryz.prog 82 [.ipt 2 [[.isl 6 (map zd z.1),.imp (map (rKV (fun x=>iA x)) z.2.1)]] 0 0,sA z.2.2.1,sA z.2.2.2] (bA r))(e:List za)(f:T2)(l:T0)(m:T0){r:Bool}(h:zbP C e f l m=some r):zG Tryz.prog 82 [.ipt 2 [[.isl 6 (map zd e),.imp (map (rKV (fun x=>iA x)) f)]] 0 0,sA l,sA m] (bA r):=by
 refine zr Tryz.func82 y kz y y ?_
 unfold zbP at h
 refine rg y<|u<|asg y<|zb ?_
 refine zi ?_
 obtain ⟨V,L,h⟩:=bs h
 obtain ⟨M,q,h⟩:=bs h
 refine rg y<|u<|mv y<|u<|mv y<|u<|pc (zir e f l L) y y y<|u<|nt y<|u<|mv y<|zcU (x:=M) (j:=4) 4 y y y y y gpn (fun i=>by replace q:=bF i q;obtain ⟨W,N,q⟩:=bs q;obtain rfl:=sm q;exact g y i<|mv y<|g y i<|mv y<|g y i<|pc (zir e f m N) y y y<|g y i<|nt y<|zb (eg [16,17,18,19] 4 y y y y)) (fun hb=>(sm (bT hb q)).symm)<|zb ?_
 refine ze y (fun s=>?_) (fun s=>?_)
 ·
  replace h:=bT s h
  refine rg y<|u<|asg y<|zb ?_
  refine zj ?_
  obtain rfl:=sm h
  exact ⟨_,y,zz []⟩
 ·
  replace h:=bF s h
  refine zg ?_
  obtain ⟨O,P,h⟩:=bs h
  refine rg y<|u<|mv y<|u<|pc (zhs l P) y y y<|u<|mv y<|u<|ex y y<|u<|ex y y<|u<|asg y<|u<|asg y<|zb ?_
  obtain ⟨Q,R,h⟩:=bs h
  refine rg y<|u<|mv y<|u<|pc (zhs m R) y y y<|u<|mv y<|u<|ex y y<|u<|ex y y<|u<|asg y<|u<|asg y<|zb ?_
  refine zi ?_
  refine zs ?_
  refine rg y<|u<|mv y<|u<|mv y<|u<|seq ti y y<|u<|asg y<|zb ?_
  refine ze y (fun v=>?_) (fun v=>?_)
  ·
   replace h:=bT v h
   refine rg y<|u<|asg y<|zb ?_
   refine zj ?_
   obtain rfl:=sm h
   exact ⟨_,y,zz []⟩
  ·
   replace h:=bF v h
   refine rg y<|u<|mv y<|u<|mv y<|z7 (j:=1) 1 y y y y y gpn (fun B=>g y B<|mv y<|zb (egA [38] 1 B y y y y)) ze3<|u<|asg y<|zb ?_
   refine ze y (fun n=>?_) (fun n=>?_)
   ·
    replace h:=bT n h
    obtain ⟨D,d,h⟩:=bs h
    refine rg y<|u<|mv y<|u<|sne ti y y<|u<|mv y<|z7 (j:=2) 2 y y y y y gpn (fun o=>g y o<|mv y<|g y o<|sne ti y y<|zb (egA [43,44] 2 o y y y y)) ze3<|u<|mv y<|z7 (x:=D) (j:=6) 4 y y y y y gpn (fun c=>by replace d:=bT c d;obtain ⟨S,E,d⟩:=bs d;obtain rfl:=sm d;exact g y c<|mv y<|g y c<|mv y<|g y c<|mv y<|g y c<|pc (hrec (e,f,O.1,Q.1) _ E) y y y<|zb (eg [47,48,49,50] 4 y y y y)) (fun hb=>(sm (bF hb d)).symm)<|u<|asg y<|zb ?_
    refine zj ?_
    obtain rfl:=sm h
    exact ⟨_,y,zz []⟩
   ·
    replace h:=bF n h
    refine rg y<|u<|mv y<|u<|asg y<|zb ?_
    refine ze y (fun p=>?_) (fun p=>?_)
    ·
     replace h:=bT p h
     refine rg y<|u<|mv y<|u<|seq ti y y<|u<|asg y<|zb ?_
     refine zj ?_
     obtain rfl:=sm h
     exact ⟨_,y,zz []⟩
    ·
     replace h:=bF p h
     refine zg ?_
     obtain ⟨A,F,h⟩:=bs h
     obtain ⟨T,G,h⟩:=bs h
     obtain ⟨H,b,h⟩:=bs h
     refine rg y<|u<|mv y<|u<|mv y<|u<|sx [] (zdk e f l F)<|zx (env0:=[(0,.ipt 2 [[.isl 6 (map zd e),.imp (map (rKV (fun x=>iA x)) f)]] 0 0),(1,sA l),(2,sA m),(58,.msl 0 0 (length A))]) (st0:=[some (1,map zf A)]) (zo [.old 0])<|u<|mv y<|u<|pcs (zaI A m G) y y (.cons (zhm y (fun _=>y)) (.cons (si y) .nil)) zcn<|u<|mv y<|zCf (x:=H) (j:=5) 5 1 y y y y y gpn (fun a=>by replace b:=bF a b;obtain ⟨I,J,b⟩:=bs b;obtain ⟨U,K,b⟩:=bs b;obtain rfl:=sm b;exact g y a<|mv y<|g y a<|mv y<|g y a<|sx [] (ziq e f l J)<|g y a<|mv y<|g y a<|pcs (zaI I m K) y y (.cons (zhm y (fun _=>y)) (.cons (si y) .nil)) zcn<|zb (xg [62,63,64,65,66] 5 y y y y y y)) (fun hb=>(sm (bT hb b)).symm)<|u<|asg y<|zb ?_
     refine zj ?_
     obtain rfl:=sm h
     exact ⟨_,y,zz []⟩
def zcz(a:List za)(b:T2)(c:T0)(d:T0):Option Bool:=
  zBp (fun e z=>zbP e z.1 z.2.1 z.2.2.1 z.2.2.2) (a,b,c,d)
theorem zdn(b:List za)(c:T2)(d:T0)(e:T0){r:Bool}(h:zcz b c d e=some r):zG Tryz.prog 82 [.ipt 2 [[.isl 6 (map zd b),.imp (map (rKV (fun x=>iA x)) c)]] 0 0,sA d,sA e] (bA r):=
  zxO (F:=(fun a z=>zbP a z.1 z.2.1 z.2.2.1 z.2.2.2)) (Q:=fun z r=>zG Tryz.prog 82 [.ipt 2 [[.isl 6 (map zd z.1),.imp (map (rKV (fun x=>iA x)) z.2.1)]] 0 0,sA z.2.2.1,sA z.2.2.2] (bA r)) (fun a hv z r h=>zlr a hv z.1 z.2.1 z.2.2.1 z.2.2.2 h) h
def zdy(b:List za)(c:T2)(a:T0):Option (Bool):=
  (cond ((a == [78])||(a == [84])) (some true) ((zcz b c a a).bind fun d=>some d)).bind fun e=>some e
theorem zeZ(f:List za)(i:T2)(e:T0){r:Bool}(h:zdy f i e=some r):zG Tryz.prog 79 [.ipt 2 [[.isl 6 (map zd f),.imp (map (rKV (fun x=>iA x)) i)]] 0 0,sA e] (bA r):=by
 refine zr Tryz.func79 y kz y y ?_
 unfold zdy at h
 refine rg y<|u<|asg y<|zb ?_
 obtain ⟨l,c,h⟩:=bs h
 refine rg y<|u<|mv y<|u<|nep ti y y y y y y<|u<|mv y<|g y y<|mv y<|g y y<|seq ti y y<|g y y<|mv y<|zcU (j:=5) 2 y y y y y (gps y y y) (fun d=>g y d<|mv y<|g y d<|seq ti y y<|zb (egO [11,12] 2 d y y y y)) orT<|g y y<|mv y<|zcU (x:=l) (j:=9) 4 y y y y y (gps y y y) (fun a=>by replace c:=bF a c;obtain ⟨n,m,c⟩:=bs c;obtain rfl:=sm c;exact g y a<|mv y<|g y a<|mv y<|g y a<|mv y<|g y a<|pc (zdn f i e e m) y y y<|zb (eg [15,16,17,18] 4 y y y y)) (fun hb=>(sm (bT hb c)).symm)<|u<|pk (b:=true) y y<|u<|asg y<|zb ?_
 refine zj ?_
 obtain rfl:=sm h
 exact ⟨_,y,zz []⟩
def zhV(a:T0)(b:List za)(c:T2):Option (Bool):=
  (zdy b c a).bind fun d=>some d
theorem znQ(a:T0)(b:List za)(c:T2){r:Bool}(h:zhV a b c=some r):zG Tryz.prog 78 [sA a,.ipt 1 [[.ipt 2 [[.isl 6 (map zd b),.imp (map (rKV (fun x=>iA x)) c)]] 0 0]] 0 0] (bA r):=by
 refine zr Tryz.func78 y kz y y ?_
 unfold zhV at h
 refine rg y<|u<|asg y<|zb ?_
 obtain ⟨e,d,h⟩:=bs h
 refine rg y<|u<|ld ti y y<|u<|mv y<|u<|pc (zeZ b c a d) y y y<|u<|asg y<|zb ?_
 refine zj ?_
 obtain rfl:=sm h
 exact ⟨_,y,zz []⟩
def zjD(a:T0)(b:List za)(c:T2):Option (Bool):=
  (zhV a b c).bind fun d=>some (!d)
theorem zp6(a:T0)(b:List za)(c:T2){r:Bool}(h:zjD a b c=some r):zG Tryz.prog 133 [sA a,.ipt 1 [[.fn (.func 78) [] [.ipt 1 [[.ipt 2 [[.isl 6 (map zd b),.imp (map (rKV (fun x=>iA x)) c)]] 0 0]] 0 0]]] 0 0] (bA r):=by
 refine zr Tryz.func133 y kz y y ?_
 unfold zjD at h
 refine rg y<|u<|asg y<|zb ?_
 obtain ⟨e,d,h⟩:=bs h
 refine rg y<|u<|ld ti y y<|u<|mv y<|u<|pc (znQ a b c d) y y y<|u<|nt y<|u<|asg y<|zb ?_
 refine zj ?_
 obtain rfl:=sm h
 exact ⟨_,y,zz []⟩
def zbu:Option (Int):=
  some (-1)
def zan(b:T1)(c:List za)(d:T2)(a:Int):Option (Sum (Int) (Sum (Unit) (Int))):=
  cond (decide (a<(length b:Int))) ((idx b a).bind fun e=>(zjD e c d).bind fun f=>cond f (some (.inr (.inr a))) (some (.inl (IntKind.i64.wrap (a+1))))) (some (.inr (.inl ())))
def zbY(a:T1)(c:List za)(d:T2):Option (Int):=
  (zw (fun z=>zan a c d z) 0).bind fun o=>zU o (fun b=>zbu) some
theorem zgV(a:T1)(c:List za)(d:T2){r:Int}(h:zbY a c d=some r):zG Tryz.prog 110 [.isl 1 (map zf a),.fn (.func 133) [] [.ipt 1 [[.fn (.func 78) [] [.ipt 1 [[.ipt 2 [[.isl 6 (map zd c),.imp (map (rKV (fun x=>iA x)) d)]] 0 0]] 0 0]]] 0 0]] (iA r):=by
 refine zr Tryz.func110 y kz y y ?_
 unfold zbY at h
 refine rg y<|u<|asg y<|zb ?_
 refine zi ?_
 refine rg y<|u<|mv y<|u<|lnI ti y y<|u<|mv y<|zb ?_
 obtain ⟨o,ho,h⟩:=bs h
 refine zY (X:=Int) (B:=Unit) (R:=Int) (fun z=>[(0,.isl 1 (map zf a)),(1,.fn (.func 133) [] [.ipt 1 [[.fn (.func 78) [] [.ipt 1 [[.ipt 2 [[.isl 6 (map zd c),.imp (map (rKV (fun x=>iA x)) d)]] 0 0]] 0 0]]] 0 0]),(7,iA (length a:Int)),(8,iA z)]) (fun z=>[]) (fun b=>[]) (fun b=>[]) (fun r env st=>zaO Tryz.prog Tryz.f110 0 (iA r) [] env st) ho (zo []) ?_ ?_ ?_
 ·
  rintro i r h
  replace h:zan a c d i=some r:=h
  unfold zan at h
  refine rg y<|u<|lss ti y y<|zb ?_
  refine zi ?_
  refine ze y (fun e=>?_) (fun e=>?_)
  ·
   replace h:=bT e h
   refine zg ?_
   refine zi ?_
   refine zs ?_
   refine rg y<|u<|mv y<|u<|asg y<|zb ?_
   obtain ⟨j,g,h⟩:=bs h
   obtain ⟨m,l,h⟩:=bs h
   refine rg y<|u<|mv y<|u<|mv y<|u<|mv y<|u<|ixI ti y ti y y y g<|u<|ldI ti y (zl g).2.2 y<|u<|pc (zp6 j c d l) y y y<|zb ?_
   refine ze y (fun f=>?_) (fun f=>?_)
   ·
    replace h:=bT f h
    refine rg y<|u<|mv y<|u<|asg y<|zb ?_
    refine zj ?_
    obtain rfl:=sm h
    exact ⟨_,y,_,y,zz []⟩
   ·
    replace h:=bF f h
    refine zg ?_
    refine rl y<|u<|add ti y y<|u<|mv y<|zb ?_
    obtain rfl:=sm h
    exact ⟨_,y,zo []⟩
  ·
   replace h:=bF e h
   refine zE ?_
   obtain rfl:=sm h
   exact ⟨y,_,y,zo []⟩
 ·
  rintro ⟨⟩ rfl
  replace h:zbu=some r:=h
  unfold zbu at h
  refine zy ?_
  refine rg y<|u<|asg y<|zb ?_
  refine zj ?_
  obtain rfl:=sm h
  exact ⟨_,y,zz []⟩
 ·
  rintro r' rfl env st hp
  obtain rfl:=sm h
  exact hp
def zbn(a:T1)(b:List za)(c:T2):Option (Bool):=
  (zbY a b c).bind fun d=>some (decide (0≤d))
theorem zgi(a:T1)(b:List za)(c:T2){r:Bool}(h:zbn a b c=some r):zG Tryz.prog 56 [.isl 1 (map zf a),.fn (.func 133) [] [.ipt 1 [[.fn (.func 78) [] [.ipt 1 [[.ipt 2 [[.isl 6 (map zd b),.imp (map (rKV (fun x=>iA x)) c)]] 0 0]] 0 0]]] 0 0]] (bA r):=by
 refine zr Tryz.func56 y kz y y ?_
 unfold zbn at h
 refine rg y<|u<|asg y<|zb ?_
 obtain ⟨e,d,h⟩:=bs h
 refine rg y<|u<|mv y<|u<|mv y<|u<|pc (zgV a b c d) y y y<|u<|geq ti y y<|u<|asg y<|zb ?_
 refine zj ?_
 obtain rfl:=sm h
 exact ⟨_,y,zz []⟩
def ziY(a:T1)(b:List za)(c:T2):Option (Bool):=
  (zbn a b c).bind fun d=>some (!d)
theorem znT(a:T1)(b:List za)(c:T2){r:Bool}(h:ziY a b c=some r):zG Tryz.prog 81 [.isl 1 (map zf a),.fn (.func 78) [] [.ipt 1 [[.ipt 2 [[.isl 6 (map zd b),.imp (map (rKV (fun x=>iA x)) c)]] 0 0]] 0 0]] (bA r):=by
 refine zr Tryz.func81 y kz y y ?_
 unfold ziY at h
 refine rg y<|u<|bx 0 1 y y y y<|u<|asg y<|zb ?_
 obtain ⟨e,d,h⟩:=bs h
 refine rg y<|u<|mv y<|u<|mf y y<|u<|pcs (zgi a b c d) y y (.cons (si y) (.cons (zh4 t ⟨(zcT y ⟨(si y),t⟩),t⟩) .nil)) zcn<|u<|nt y<|u<|asg y<|zb ?_
 refine zj ?_
 obtain rfl:=sm h
 exact ⟨_,y,zz []⟩
def zjo(a:List za)(b:T2)(c:T0)(d:zc)(e:T1)(f:T1)(g:Bool)(h:Bool):Unit:=
  ()
theorem zv(d:List za)(e:T2)(f:T0)(i:zc)(a:T1)(b:T1)(l:Bool)(m:Bool){r:Unit}(h:zjo d e f i a b l m=r):SC Tryz.prog 80 [.mpt 0 0 0,bA m] [.one 15 (vK d e f i (.msl 1 0 (length a)) (.msl 2 0 (length b)) (bA l)),.many 1 (map zf a),.many 1 (map zf b)] (.tup []) [.one 15 (vK d e f i (.msl 1 0 (length a)) (.msl 2 0 (length b)) (bA (l||(!m)))),.many 1 (map zf a),.many 1 (map zf b)]:=by
 refine ⟨⟨t,zh0 (sz:=1) (fun _=>y),zh0 (sz:=1) (fun _=>y),t⟩,zV Tryz.func80 y kz y ?_⟩
 unfold zjo at h
 refine rl y<|u<|mv y<|u<|mv y<|u<|nc y y<|u<|fa ti y y y<|u<|ld ti y y<|u<|mv y<|zcU (j:=5) 2 y y y y y gpn (fun c=>g y c<|mv y<|g y c<|nt y<|zb (egO [10,11] 2 c y y y y)) orT<|u<|nc y y<|u<|fa ti y y y<|u<|sto ti y y y<|zb ?_
 obtain rfl:=h
 exact ⟨_,y,zz [.old 0,.old 1,.old 2]⟩
def zhW(a:T0)(b:List za)(c:T2):Option (Bool):=
  (zcz b c a a).bind fun d=>some d
theorem znR(a:T0)(b:List za)(c:T2){r:Bool}(h:zhW a b c=some r):zG Tryz.prog 83 [sA a,.ipt 1 [[.ipt 2 [[.isl 6 (map zd b),.imp (map (rKV (fun x=>iA x)) c)]] 0 0]] 0 0] (bA r):=by
 refine zr Tryz.func83 y kz y y ?_
 unfold zhW at h
 refine rg y<|u<|asg y<|zb ?_
 obtain ⟨e,d,h⟩:=bs h
 refine rg y<|u<|ld ti y y<|u<|mv y<|u<|mv y<|u<|pc (zdn b c a a d) y y y<|u<|asg y<|zb ?_
 refine zj ?_
 obtain rfl:=sm h
 exact ⟨_,y,zz []⟩
def zhX(a:T0)(b:List za)(c:T2):Option (Bool):=
  (zhW a b c).bind fun d=>some (!d)
theorem znS(a:T0)(b:List za)(c:T2){r:Bool}(h:zhX a b c=some r):zG Tryz.prog 133 [sA a,.ipt 1 [[.fn (.func 83) [] [.ipt 1 [[.ipt 2 [[.isl 6 (map zd b),.imp (map (rKV (fun x=>iA x)) c)]] 0 0]] 0 0]]] 0 0] (bA r):=by
 refine zr Tryz.func133 y kz y y ?_
 unfold zhX at h
 refine rg y<|u<|asg y<|zb ?_
 obtain ⟨e,d,h⟩:=bs h
 refine rg y<|u<|ld ti y y<|u<|mv y<|u<|pc (znR a b c d) y y y<|u<|nt y<|u<|asg y<|zb ?_
 refine zj ?_
 obtain rfl:=sm h
 exact ⟨_,y,zz []⟩
def zbv:Option (Int):=
  some (-1)
def zao(b:T1)(c:List za)(d:T2)(a:Int):Option (Sum (Int) (Sum (Unit) (Int))):=
  cond (decide (a<(length b:Int))) ((idx b a).bind fun e=>(zhX e c d).bind fun f=>cond f (some (.inr (.inr a))) (some (.inl (IntKind.i64.wrap (a+1))))) (some (.inr (.inl ())))
def zbZ(a:T1)(c:List za)(d:T2):Option (Int):=
  (zw (fun z=>zao a c d z) 0).bind fun o=>zU o (fun b=>zbv) some
theorem zgW(a:T1)(c:List za)(d:T2){r:Int}(h:zbZ a c d=some r):zG Tryz.prog 110 [.isl 1 (map zf a),.fn (.func 133) [] [.ipt 1 [[.fn (.func 83) [] [.ipt 1 [[.ipt 2 [[.isl 6 (map zd c),.imp (map (rKV (fun x=>iA x)) d)]] 0 0]] 0 0]]] 0 0]] (iA r):=by
 refine zr Tryz.func110 y kz y y ?_
 unfold zbZ at h
 refine rg y<|u<|asg y<|zb ?_
 refine zi ?_
 refine rg y<|u<|mv y<|u<|lnI ti y y<|u<|mv y<|zb ?_
 obtain ⟨o,ho,h⟩:=bs h
 refine zY (X:=Int) (B:=Unit) (R:=Int) (fun z=>[(0,.isl 1 (map zf a)),(1,.fn (.func 133) [] [.ipt 1 [[.fn (.func 83) [] [.ipt 1 [[.ipt 2 [[.isl 6 (map zd c),.imp (map (rKV (fun x=>iA x)) d)]] 0 0]] 0 0]]] 0 0]),(7,iA (length a:Int)),(8,iA z)]) (fun z=>[]) (fun b=>[]) (fun b=>[]) (fun r env st=>zaO Tryz.prog Tryz.f110 0 (iA r) [] env st) ho (zo []) ?_ ?_ ?_
 ·
  rintro i r h
  replace h:zao a c d i=some r:=h
  unfold zao at h
  refine rg y<|u<|lss ti y y<|zb ?_
  refine zi ?_
  refine ze y (fun e=>?_) (fun e=>?_)
  ·
   replace h:=bT e h
   refine zg ?_
   refine zi ?_
   refine zs ?_
   refine rg y<|u<|mv y<|u<|asg y<|zb ?_
   obtain ⟨j,g,h⟩:=bs h
   obtain ⟨m,l,h⟩:=bs h
   refine rg y<|u<|mv y<|u<|mv y<|u<|mv y<|u<|ixI ti y ti y y y g<|u<|ldI ti y (zl g).2.2 y<|u<|pc (znS j c d l) y y y<|zb ?_
   refine ze y (fun f=>?_) (fun f=>?_)
   ·
    replace h:=bT f h
    refine rg y<|u<|mv y<|u<|asg y<|zb ?_
    refine zj ?_
    obtain rfl:=sm h
    exact ⟨_,y,_,y,zz []⟩
   ·
    replace h:=bF f h
    refine zg ?_
    refine rl y<|u<|add ti y y<|u<|mv y<|zb ?_
    obtain rfl:=sm h
    exact ⟨_,y,zo []⟩
  ·
   replace h:=bF e h
   refine zE ?_
   obtain rfl:=sm h
   exact ⟨y,_,y,zo []⟩
 ·
  rintro ⟨⟩ rfl
  replace h:zbv=some r:=h
  unfold zbv at h
  refine zy ?_
  refine rg y<|u<|asg y<|zb ?_
  refine zj ?_
  obtain rfl:=sm h
  exact ⟨_,y,zz []⟩
 ·
  rintro r' rfl env st hp
  obtain rfl:=sm h
  exact hp
def zbo(a:T1)(b:List za)(c:T2):Option (Bool):=
  (zbZ a b c).bind fun d=>some (decide (0≤d))
theorem zgj(a:T1)(b:List za)(c:T2){r:Bool}(h:zbo a b c=some r):zG Tryz.prog 56 [.isl 1 (map zf a),.fn (.func 133) [] [.ipt 1 [[.fn (.func 83) [] [.ipt 1 [[.ipt 2 [[.isl 6 (map zd b),.imp (map (rKV (fun x=>iA x)) c)]] 0 0]] 0 0]]] 0 0]] (bA r):=by
 refine zr Tryz.func56 y kz y y ?_
 unfold zbo at h
 refine rg y<|u<|asg y<|zb ?_
 obtain ⟨e,d,h⟩:=bs h
 refine rg y<|u<|mv y<|u<|mv y<|u<|pc (zgW a b c d) y y y<|u<|geq ti y y<|u<|asg y<|zb ?_
 refine zj ?_
 obtain rfl:=sm h
 exact ⟨_,y,zz []⟩
def zhY(a:T1)(b:List za)(c:T2):Option (Bool):=
  (zbo a b c).bind fun d=>some (!d)
theorem zoX(a:T1)(b:List za)(c:T2){r:Bool}(h:zhY a b c=some r):zG Tryz.prog 81 [.isl 1 (map zf a),.fn (.func 83) [] [.ipt 1 [[.ipt 2 [[.isl 6 (map zd b),.imp (map (rKV (fun x=>iA x)) c)]] 0 0]] 0 0]] (bA r):=by
 refine zr Tryz.func81 y kz y y ?_
 unfold zhY at h
 refine rg y<|u<|bx 0 1 y y y y<|u<|asg y<|zb ?_
 obtain ⟨e,d,h⟩:=bs h
 refine rg y<|u<|mv y<|u<|mf y y<|u<|pcs (zgj a b c d) y y (.cons (si y) (.cons (zh4 t ⟨(zcT y ⟨(si y),t⟩),t⟩) .nil)) zcn<|u<|nt y<|u<|asg y<|zb ?_
 refine zj ?_
 obtain rfl:=sm h
 exact ⟨_,y,zz []⟩
def zeH(a:z8)(b:Int):Bool:=
  (a.At == b)
theorem zke(a:z8)(b:Int){r:Bool}(h:zeH a b=r):zG Tryz.prog 212 [.agg (zL a),.ipt 1 [[iA b]] 0 0] (bA r):=by
 refine zr Tryz.func212 y kz y y ?_
 unfold zeH at h
 refine rg y<|u<|bx 0 3 y y y y<|u<|asg y<|zb ?_
 refine rg y<|u<|fa ti y y y<|u<|ld ti y y<|u<|ld ti y y<|u<|eql ti y y<|u<|asg y<|zb ?_
 refine zj ?_
 obtain rfl:=h
 exact ⟨_,y,zz []⟩
def zbF:Option (Int):=
  some (-1)
def zas(b:List z8)(c:Int)(a:Int):Option (Sum (Int) (Sum (Unit) (Int))):=
  cond (decide (a<(length b:Int))) ((idx b a).bind fun d=>cond (zeH d c) (some (.inr (.inr a))) (some (.inl (IntKind.i64.wrap (a+1))))) (some (.inr (.inl ())))
def zb4(a:List z8)(c:Int):Option (Int):=
  (zw (fun z=>zas a c z) 0).bind fun o=>zU o (fun b=>zbF) some
theorem zho(a:List z8)(c:Int){r:Int}(h:zb4 a c=some r):zG Tryz.prog 211 [.isl 3 (map zL a),.fn (.func 212) [] [.ipt 1 [[iA c]] 0 0]] (iA r):=by
 refine zr Tryz.func211 y kz y y ?_
 unfold zb4 at h
 refine rg y<|u<|asg y<|zb ?_
 refine zi ?_
 refine rg y<|u<|mv y<|u<|lnI ti y y<|u<|mv y<|zb ?_
 obtain ⟨o,ho,h⟩:=bs h
 refine zY (X:=Int) (B:=Unit) (R:=Int) (fun z=>[(0,.isl 3 (map zL a)),(1,.fn (.func 212) [] [.ipt 1 [[iA c]] 0 0]),(7,iA (length a:Int)),(8,iA z)]) (fun z=>[]) (fun b=>[]) (fun b=>[]) (fun r env st=>zaO Tryz.prog Tryz.f211 0 (iA r) [] env st) ho (zo []) ?_ ?_ ?_
 ·
  rintro g r h
  replace h:zas a c g=some r:=h
  unfold zas at h
  refine rg y<|u<|lss ti y y<|zb ?_
  refine zi ?_
  refine ze y (fun d=>?_) (fun d=>?_)
  ·
   replace h:=bT d h
   refine zg ?_
   refine zi ?_
   refine zs ?_
   refine rg y<|u<|mv y<|u<|asg y<|zb ?_
   obtain ⟨i,f,h⟩:=bs h
   refine rg y<|u<|mv y<|u<|mv y<|u<|mv y<|u<|ixI ti y ti y y y f<|u<|ldI ti y (zl f).2.2 y<|u<|pc (zke i c y) y y y<|zb ?_
   refine ze y (fun e=>?_) (fun e=>?_)
   ·
    replace h:=bT e h
    refine rg y<|u<|mv y<|u<|asg y<|zb ?_
    refine zj ?_
    obtain rfl:=sm h
    exact ⟨_,y,_,y,zz []⟩
   ·
    replace h:=bF e h
    refine zg ?_
    refine rl y<|u<|add ti y y<|u<|mv y<|zb ?_
    obtain rfl:=sm h
    exact ⟨_,y,zo []⟩
  ·
   replace h:=bF d h
   refine zE ?_
   obtain rfl:=sm h
   exact ⟨y,_,y,zo []⟩
 ·
  rintro ⟨⟩ rfl
  replace h:zbF=some r:=h
  unfold zbF at h
  refine zy ?_
  refine rg y<|u<|asg y<|zb ?_
  refine zj ?_
  obtain rfl:=sm h
  exact ⟨_,y,zz []⟩
 ·
  rintro r' rfl env st hp
  obtain rfl:=sm h
  exact hp
def zcI(e:List za)(f:T2)(g:T0)(a:zc)(h:T1)(i:T1)(j:Bool)(d:Int):Option ((Option z8)):=
  (zb4 a.Maps d).bind fun b=>cond (decide (b<0)) (some none) ((idx a.Maps b).bind fun c=>some (some c))
theorem zfL(e:List za)(f:T2)(g:T0)(d:zc)(a:T1)(b:T1)(i:Bool)(j:Int){r:(Option z8)}(h:zcI e f g d a b i j=some r):SC Tryz.prog 137 [.mpt 0 0 0,iA j] [.one 15 (vK e f g d (.msl 1 0 (length a)) (.msl 2 0 (length b)) (bA i)),.many 1 (map zf a),.many 1 (map zf b)] (zlf 3 zL r) [.one 15 (vK e f g d (.msl 1 0 (length a)) (.msl 2 0 (length b)) (bA i)),.many 1 (map zf a),.many 1 (map zf b)]:=by
 refine ⟨⟨t,zh0 (sz:=1) (fun _=>y),zh0 (sz:=1) (fun _=>y),t⟩,zV Tryz.func137 y kz y ?_⟩
 unfold zcI at h
 refine rg y<|u<|bx 3 1 y y y y<|u<|asg y<|zb ?_
 obtain ⟨o,m,h⟩:=bs h
 refine rg y<|u<|mv y<|u<|nc y y<|u<|fa ti y y y<|u<|fa ti y y y<|u<|ld ti y y<|u<|mf y y<|u<|pcs (zho d.Maps j m) y y (.cons (si y) (.cons (zh4 t ⟨(zcT y ⟨(si y),t⟩),t⟩) .nil)) zcn<|u<|asg y<|zb ?_
 refine zi ?_
 refine rg y<|u<|mv y<|u<|lss ti y y<|zb ?_
 refine ze y (fun c=>?_) (fun c=>?_)
 ·
  replace h:=bT c h
  refine rg y<|u<|asg y<|zb ?_
  refine zj ?_
  obtain rfl:=sm h
  exact ⟨_,y,zz [.old 0,.old 1,.old 2]⟩
 ·
  replace h:=bF c h
  refine zg ?_
  obtain ⟨n,l,h⟩:=bs h
  refine rg y<|u<|mv y<|u<|nc y y<|u<|fa ti y y y<|u<|fa ti y y y<|u<|ld ti y y<|u<|mv y<|u<|ixI ti y ti y y y l<|zDj l<|u<|asg y<|zb ?_
  refine zj ?_
  obtain rfl:=sm h
  exact ⟨_,y,zz [.old 0,.old 1,.old 2]⟩
def zgl(b:List za)(c:T2)(a:T0):Option (Bool):=
  (cond (!(a == [73])) ((zcz b c a a).bind fun d=>some d) (some false)).bind fun e=>some e
theorem zjn(d:List za)(e:T2)(c:T0){r:Bool}(h:zgl d e c=some r):zG Tryz.prog 252 [.ipt 2 [[.isl 6 (map zd d),.imp (map (rKV (fun x=>iA x)) e)]] 0 0,sA c] (bA r):=by
 refine zr Tryz.func252 y kz y y ?_
 unfold zgl at h
 refine rg y<|u<|asg y<|zb ?_
 obtain ⟨f,b,h⟩:=bs h
 refine rg y<|u<|mv y<|u<|sne ti y y<|u<|mv y<|z7 (x:=f) (j:=2) 4 y y y y y gpn (fun a=>by replace b:=bT a b;obtain ⟨l,i,b⟩:=bs b;obtain rfl:=sm b;exact g y a<|mv y<|g y a<|mv y<|g y a<|mv y<|g y a<|pc (zdn d e c c i) y y y<|zb (eg [8,9,10,11] 4 y y y y)) (fun hb=>(sm (bF hb b)).symm)<|u<|asg y<|zb ?_
 refine zj ?_
 obtain rfl:=sm h
 exact ⟨_,y,zz []⟩
def zeF(a:List za)(b:T2)(d:T0)(c:T0):Option (Bool):=
  (zdy a b d).bind fun j=>(cond (!j) (some true) ((zdy a b c).bind fun l=>some (!l))).bind fun m=>cond m (some false) (cond ((c == [84])||(d == c)) (some true) (cond (d == [78]) ((zgl a b c).bind fun n=>some n) ((zgl a b d).bind fun o=>(cond (!o) (some true) ((zgl a b c).bind fun e=>some (!e))).bind fun f=>cond f (some false) ((zaQ a b c).bind fun g=>(cond g.1.Interface (some true) ((zcz a b d c).bind fun h=>some h)).bind fun i=>some i))))
theorem zaS(e:List za)(f:T2)(p:T0)(l:T0){r:Bool}(h:zeF e f p l=some r):zG Tryz.prog 198 [.ipt 2 [[.isl 6 (map zd e),.imp (map (rKV (fun x=>iA x)) f)]] 0 0,sA p,sA l] (bA r):=by
 refine zr Tryz.func198 y kz y y ?_
 unfold zeF at h
 refine rg y<|u<|asg y<|zb ?_
 refine zi ?_
 refine zs ?_
 obtain ⟨M,F,h⟩:=bs h
 obtain ⟨G,o,h⟩:=bs h
 refine rg y<|u<|mv y<|u<|mv y<|u<|pc (zeZ e f p F) y y y<|u<|nt y<|u<|mv y<|zcU (x:=G) (j:=4) 4 y y y y y gpn (fun i=>by replace o:=bF i o;obtain ⟨N,H,o⟩:=bs o;obtain rfl:=sm o;exact g y i<|mv y<|g y i<|mv y<|g y i<|pc (zeZ e f l H) y y y<|g y i<|nt y<|zb (eg [15,16,17,18] 4 y y y y)) (fun hb=>(sm (bT hb o)).symm)<|u<|asg y<|zb ?_
 refine ze y (fun q=>?_) (fun q=>?_)
 ·
  replace h:=bT q h
  refine rg y<|u<|asg y<|zb ?_
  refine zj ?_
  obtain rfl:=sm h
  exact ⟨_,y,zz []⟩
 ·
  replace h:=bF q h
  refine rg y<|u<|mv y<|u<|seq ti y y<|u<|mv y<|zcU (j:=2) 3 y y y y y gpn (fun n=>g y n<|mv y<|g y n<|mv y<|g y n<|seq ti y y<|zb (egO [24,25,26] 3 n y y y y)) orT<|u<|asg y<|zb ?_
  refine ze y (fun s=>?_) (fun s=>?_)
  ·
   replace h:=bT s h
   refine rg y<|u<|asg y<|zb ?_
   refine zj ?_
   obtain rfl:=sm h
   exact ⟨_,y,zz []⟩
  ·
   replace h:=bF s h
   refine rg y<|u<|mv y<|u<|seq ti y y<|u<|asg y<|zb ?_
   refine ze y (fun v=>?_) (fun v=>?_)
   ·
    replace h:=bT v h
    obtain ⟨O,I,h⟩:=bs h
    refine rg y<|u<|mv y<|u<|mv y<|u<|pc (zjn e f l I) y y y<|u<|asg y<|zb ?_
    refine zj ?_
    obtain rfl:=sm h
    exact ⟨_,y,zz []⟩
   ·
    replace h:=bF v h
    obtain ⟨P,z,h⟩:=bs h
    obtain ⟨A,c,h⟩:=bs h
    refine rg y<|u<|mv y<|u<|mv y<|u<|pc (zjn e f p z) y y y<|u<|nt y<|u<|mv y<|zcU (x:=A) (j:=4) 4 y y y y y gpn (fun a=>by replace c:=bF a c;obtain ⟨J,B,c⟩:=bs c;obtain rfl:=sm c;exact g y a<|mv y<|g y a<|mv y<|g y a<|pc (zjn e f l B) y y y<|g y a<|nt y<|zb (eg [40,41,42,43] 4 y y y y)) (fun hb=>(sm (bT hb c)).symm)<|u<|asg y<|zb ?_
    refine ze y (fun m=>?_) (fun m=>?_)
    ·
     replace h:=bT m h
     refine rg y<|u<|asg y<|zb ?_
     refine zj ?_
     obtain rfl:=sm h
     exact ⟨_,y,zz []⟩
    ·
     replace h:=bF m h
     refine zg ?_
     obtain ⟨K,C,h⟩:=bs h
     refine rg y<|u<|mv y<|u<|mv y<|u<|pc (zbw e f l C) y y y<|u<|mv y<|u<|ex y y<|u<|ex y y<|u<|al 0 ti y<|u<|sto ti y y y<|u<|asg y<|zb ?_
     obtain ⟨D,d,h⟩:=bs h
     refine rg y<|u<|fa ti y y y<|u<|ld ti y y<|u<|mv y<|zcU (x:=D) (j:=2) 4 y y y y y gpn (fun b=>by replace d:=bF b d;obtain ⟨L,E,d⟩:=bs d;obtain rfl:=sm d;exact g y b<|mv y<|g y b<|mv y<|g y b<|mv y<|g y b<|pc (zdn e f p l E) y y y<|zb (eg [54,55,56,57] 4 y y y y)) (fun hb=>(sm (bT hb d)).symm)<|u<|asg y<|zb ?_
     refine zj ?_
     obtain rfl:=sm h
     exact ⟨_,y,zz []⟩
def zjm:Option (Bool):=
  some true
def zdL(f:List za)(g:T2)(b:T1)(h:T1)(a:Int):Option (Sum (Int) (Sum (Unit) (Bool))):=
  cond (decide (a<(length b:Int))) ((idx b a).bind fun c=>(idx h a).bind fun d=>(zeF f g c d).bind fun e=>cond (!e) (some (.inr (.inr false))) (some (.inl (IntKind.i64.wrap (a+1))))) (some (.inr (.inl ())))
def zhy(d:List za)(e:T2)(a:T1)(c:T1):Option (Bool):=
  cond (!((length a:Int) == (length c:Int))) (some false) ((zw (fun z=>zdL d e a c z) 0).bind fun o=>zU o (fun b=>zjm) some)
theorem zl0(c:List za)(d:T2)(a:T1)(e:T1){r:Bool}(h:zhy c d a e=some r):zG Tryz.prog 199 [.ipt 2 [[.isl 6 (map zd c),.imp (map (rKV (fun x=>iA x)) d)]] 0 0,.isl 1 (map zf a),.isl 1 (map zf e)] (bA r):=by
 refine zr Tryz.func199 y kz y y ?_
 unfold zhy at h
 refine rg y<|u<|asg y<|zb ?_
 refine zi ?_
 refine rg y<|u<|mv y<|u<|lnI ti y y<|u<|mv y<|u<|lnI ti y y<|u<|neq ti y y<|zb ?_
 refine ze y (fun i=>?_) (fun i=>?_)
 ·
  replace h:=bT i h
  refine rg y<|u<|asg y<|zb ?_
  refine zj ?_
  obtain rfl:=sm h
  exact ⟨_,y,zz []⟩
 ·
  replace h:=bF i h
  refine zg ?_
  refine zi ?_
  refine rg y<|u<|mv y<|u<|lnI ti y y<|u<|mv y<|zb ?_
  obtain ⟨o,ho,h⟩:=bs h
  refine zY (X:=Int) (B:=Unit) (R:=Bool) (fun z=>[(0,.ipt 2 [[.isl 6 (map zd c),.imp (map (rKV (fun x=>iA x)) d)]] 0 0),(1,.isl 1 (map zf a)),(2,.isl 1 (map zf e)),(14,iA (length a:Int)),(15,iA z)]) (fun z=>[]) (fun b=>[]) (fun b=>[]) (fun r env st=>zaO Tryz.prog Tryz.f199 0 (bA r) [] env st) ho (zo []) ?_ ?_ ?_
  ·
   rintro g r h
   replace h:zdL c d a e g=some r:=h
   unfold zdL at h
   refine rg y<|u<|lss ti y y<|zb ?_
   refine zi ?_
   refine ze y (fun j=>?_) (fun j=>?_)
   ·
    replace h:=bT j h
    refine zg ?_
    refine zi ?_
    refine zs ?_
    refine rg y<|u<|mv y<|u<|asg y<|zb ?_
    obtain ⟨m,p,h⟩:=bs h
    obtain ⟨n,q,h⟩:=bs h
    obtain ⟨l,s,h⟩:=bs h
    refine rdA [(0,.ipt 2 [[.isl 6 (map zd c),.imp (map (rKV (fun x=>iA x)) d)]] 0 0),(1,.isl 1 (map zf a)),(2,.isl 1 (map zf e)),(14,iA (length a:Int)),(15,iA g),(28,bA (!l))] [] [] [10,9,8,7,6,5,4,3,2,1,0] [(28,bA (!l)),(27,bA l),(26,sA n),(25,.ipt 1 (map zf e) (Int.toNat g) 0),(24,iA g),(23,.isl 1 (map zf e)),(22,sA m),(21,.ipt 1 (map zf a) (Int.toNat g) 0),(20,iA g),(19,.isl 1 (map zf a)),(18,.ipt 2 [[.isl 6 (map zd c),.imp (map (rKV (fun x=>iA x)) d)]] 0 0)] 0 (zhA ⟨pe,(pb y (pc (zaS c d m n s) y y y w)),(pb y (ldI ti y (zl q).2.2 y w)),(pb y (ixI ti y ti y y y q w)),pe,pe,(pb y (ldI ti y (zl p).2.2 y w)),(pb y (ixI ti y ti y y y p w)),pe,pe,pe,t⟩ (zo [])) ?_
    refine ze y (fun f=>?_) (fun f=>?_)
    ·
     replace h:=bT f h
     refine rg y<|u<|asg y<|zb ?_
     refine zj ?_
     obtain rfl:=sm h
     exact ⟨_,y,_,y,zz []⟩
    ·
     replace h:=bF f h
     refine zg ?_
     refine rl y<|u<|add ti y y<|u<|mv y<|zb ?_
     obtain rfl:=sm h
     exact ⟨_,y,zo []⟩
   ·
    replace h:=bF j h
    refine zE ?_
    obtain rfl:=sm h
    exact ⟨y,_,y,zo []⟩
  ·
   rintro ⟨⟩ rfl
   replace h:zjm=some r:=h
   unfold zjm at h
   refine zy ?_
   refine rg y<|u<|asg y<|zb ?_
   refine zj ?_
   obtain rfl:=sm h
   exact ⟨_,y,zz []⟩
  ·
   rintro r' rfl env st hp
   obtain rfl:=sm h
   exact hp
def zeG(a:List za)(b:T2)(c:z8)(d:T1)(e:T1):Option (Bool):=
  (zhy a b d c.Locals).bind fun f=>(cond f ((zhy a b e c.Stack).bind fun g=>some g) (some false)).bind fun h=>some h
theorem zk3(c:List za)(d:T2)(e:z8)(f:T1)(i:T1){r:Bool}(h:zeG c d e f i=some r):zG Tryz.prog 150 [.ipt 2 [[.isl 6 (map zd c),.imp (map (rKV (fun x=>iA x)) d)]] 0 0,.agg (zL e),.isl 1 (map zf f),.isl 1 (map zf i)] (bA r):=by
 refine zr Tryz.func150 y kz y y ?_
 unfold zeG at h
 refine rg y<|u<|bx 0 3 y y y y<|u<|asg y<|zb ?_
 obtain ⟨o,l,h⟩:=bs h
 obtain ⟨m,b,h⟩:=bs h
 refine rg y<|u<|mv y<|u<|mv y<|u<|fa ti y y y<|u<|ld ti y y<|u<|pc (zl0 c d f e.Locals l) y y y<|u<|mv y<|z7 (x:=m) (j:=5) 5 y y y y y gpn (fun a=>by replace b:=bT a b;obtain ⟨p,n,b⟩:=bs b;obtain rfl:=sm b;exact g y a<|mv y<|g y a<|mv y<|g y a<|fa ti y y y<|g y a<|ld ti y y<|g y a<|pc (zl0 c d i e.Stack n) y y y<|zb (eg [15,16,17,18,19] 5 y y y y)) (fun hb=>(sm (bF hb b)).symm)<|u<|asg y<|zb ?_
 refine zj ?_
 obtain rfl:=sm h
 exact ⟨_,y,zz []⟩
def zcJ(b:List za)(c:T2)(h:T0)(i:zc)(d:T1)(e:T1)(a:Bool)(j:Int):Option (Bool):=
  (zcI b c h i d e a j).bind fun l=>zAo l (some (a||(!false))) (fun f=>(zeG b c f d e).bind fun g=>some (a||(!g)))
theorem zh5(e:List za)(f:T2)(g:T0)(i:zc)(d:T1)(a:T1)(j:Bool)(m:Int){r:Bool}(h:zcJ e f g i d a j m=some r):SC Tryz.prog 88 [.mpt 0 0 0,iA m,.msl 2 0 (length a)] [.one 15 (vK e f g i (.msl 1 0 (length d)) (.msl 2 0 (length a)) (bA j)),.many 1 (map zf d),.many 1 (map zf a)] (.tup []) [.one 15 (vK e f g i (.msl 1 0 (length d)) (.msl 2 0 (length a)) (bA r)),.many 1 (map zf d),.many 1 (map zf a)]:=by
 refine ⟨⟨t,zh0 (sz:=1) (fun _=>y),zh0 (sz:=1) (fun _=>y),t⟩,zV Tryz.func88 y kz y ?_⟩
 unfold zcJ at h
 obtain ⟨n,o,h⟩:=bs h
 refine rg y<|u<|mv y<|u<|mv y<|u<|sx [0,1,2] (zfL e f g i d a j m o)<|zCV zxU<|zx (env0:=[(0,.mpt 0 0 0),(2,.msl 2 0 (length a)),(9,zlf 3 zL n)]) (st0:=[some (15,[(vK e f g i (.msl 1 0 (length d)) (.msl 2 0 (length a)) (bA j))]),some (1,map zf d),some (1,map zf a)]) (zo [.old 0,.old 1,.old 2])<|u<|asg y<|zb ?_
 rcases n with _ |c
 ·
  replace h:=oeN h
  refine zjw [] [some (15,[(vK e f g i (.msl 1 0 (length d)) (.msl 2 0 (length a)) (bA (j||(!false))))]),some (1,map zf d),some (1,map zf a)] [18] [17,16,15,14,13,12,11,10,9,8,7,6,5,4,3,2,1,0] [(27,bA false),(26,.lit undef),(25,.lit undef),(24,.lit undef),(23,.lit undef),(22,.lit undef),(21,.lit undef),(20,.lit undef),(19,.lit undef),(18,.lit undef),(17,.lit undef),(16,.lit undef),(15,.lit undef),(14,.lit undef),(13,bA false),(12,bA false),(11,.lit (.pointer none)),(10,.mpt 0 0 0)] 1 (zeo ⟨pe,pe,pe,pe,pe,pe,pe,pe,pe,pe,pe,pe,pe,pe,pe,(pb y (nep ti y y y y y y w)),pe,pe,t⟩ ⟨(fun _ _=>⟨_,y,y,sc [0,1,2] (args:=[.mpt 0 0 0,bA false]) (zv e f g i d a j false y) y y y y ⟨(.mpt y),(rnI y),t⟩ ⟨⟨_,y,(zwe y ⟨(.msl y),(.msl y),(rnI y),t⟩)⟩,⟨y,mkI (fun _=>y)⟩,⟨y,mkI (fun _=>y)⟩,t⟩<|⟨(.tup []),[],[(28,.tup [])],y,y,kz,y,zhA ⟨pe,pe,pe,pe,pe,pe,pe,pe,pe,pe,pe,pe,pe,pe,pe,(pb y (nep ti y y y y y y w)),pe,pe,t⟩ (zo [.old 0,.old 1,.old 2])⟩⟩),t⟩) ?_
  obtain rfl:=sm h
  exact ⟨_,y,zz [.old 0,.old 1,.old 2]⟩
 ·
  replace h:=oeS h
  obtain ⟨l,p,h⟩:=bs h
  refine zjw [] [some (15,[(vK e f g i (.msl 1 0 (length d)) (.msl 2 0 (length a)) (bA (j||(!l))))]),some (1,map zf d),some (1,map zf a)] [18] [17,16,15,14,13,12,11,10,9,8,7,6,5,4,3,2,1,0] [(27,bA l),(26,bA l),(25,.msl 2 0 (length a)),(24,.msl 1 0 (length d)),(23,.mpt 0 0 12),(22,.mpt 0 0 0),(21,.mpt 0 0 0),(20,.agg (zL c)),(19,.ipt 3 [[iA c.At,.isl 1 (map zf c.Locals),.isl 1 (map zf c.Stack)]] 0 0),(18,.ipt 3 [[iA c.At,.isl 1 (map zf c.Locals),.isl 1 (map zf c.Stack)]] 0 0),(17,.ipt 2 [[.isl 6 (map zd e),.imp (map (rKV (fun x=>iA x)) f)]] 0 0),(16,.mpt 0 0 0),(15,.mpt 0 0 0),(14,.mpt 0 0 0),(13,bA true),(12,bA true),(11,.ipt 3 [[iA c.At,.isl 1 (map zf c.Locals),.isl 1 (map zf c.Stack)]] 0 0),(10,.mpt 0 0 0)] 1 (zeo ⟨pe,(fun _=>pag (b:=true) y y y y y y (pcs (zk3 e f c d a p) y y (.cons (si y) (.cons (si y) (.cons (zhm y (fun _=>y)) (.cons (zhm y (fun _=>y)) .nil)))) zcn<|w)),pe,pe,pe,pe,pe,pe,pe,pe,pe,pe,pe,pe,pe,(pb y (nep ti y y y y y y w)),pe,pe,t⟩ ⟨(fun _ _=>⟨_,y,y,sc [0,1,2] (args:=[.mpt 0 0 0,bA l]) (zv e f g i d a j l y) y y y y ⟨(.mpt y),(rnI y),t⟩ ⟨⟨_,y,(zwe y ⟨(.msl y),(.msl y),(rnI y),t⟩)⟩,⟨y,mkI (fun _=>y)⟩,⟨y,mkI (fun _=>y)⟩,t⟩<|⟨(.tup []),[],[(28,.tup [])],y,y,kz,y,zhA ⟨pe,pe,pe,pe,pe,pe,pe,pe,pe,pe,pe,pe,pe,pe,pe,(pb y (nep ti y y y y y y w)),pe,pe,t⟩ (zo [.old 0,.old 1,.old 2])⟩⟩),t⟩) ?_
  obtain rfl:=sm h
  exact ⟨_,y,zz [.old 0,.old 1,.old 2]⟩
def zng(a:T1):Option T1:=zh2 16 ([]:T1) a
theorem zpo(a:T1){r:T1}(h:zng a=some r):SC Tryz.prog 138 [.isl 1 (map zf a)] [] (.msl 0 0 (length r)) [.many 1 (map zf r)]:=by
 refine ⟨⟨zh0 (sz:=1) (fun _=>y),t⟩,zV Tryz.func138 y kz y ?_⟩
 unfold zng at h
 refine rg y<|u<|asg y<|zb ?_
 refine zi ?_
 refine rg y<|u<|mv y<|zCU ti y y y<|And.intro ?_ ?_
 · intro hl
   refine zb ?_
   subst hl
   obtain rfl:[]=r:=by simpa [zh2] using h
   refine ze y (fun _=>?_) (fun hx=>by cases hx)
   refine rg y<|u<|asg y<|zb ?_
   refine zj ?_
   exact ⟨_,y,[.fresh 1],.nilown y,y,⟨w,t⟩,y,k⟩
 · refine zb ?_
   refine ze y (fun hx=>by cases hx) (fun _=>?_)
   refine zg ?_
   refine rg y<|u<|bl 0 ti y ti y (by decide) (by decide) y y y<|u<|mv y<|u<|apM (l:=([]:T1)) (f:=zf) 1 ti y ti y y (by decide) ti y y y y roI (fun _=>y) y h<|u<|asg y<|zb ?_
   refine zj ?_
   exact ⟨_,y,zz [.old 1]⟩
def zbG(b:(Option z8))(c:Bool):Option (T1×T1×Bool):=
  zAo b (none) (fun a=>(zng a.Locals).bind fun d=>(zng a.Stack).bind fun e=>some (d,e,c))
def zd1(e:List za)(f:T2)(g:T0)(h:zc)(c:T1)(d:T1)(b:Bool)(i:Int)(j:Bool):Option (T1×T1×Bool):=
  (zcI e f g h c d b i).bind fun a=>cond (Option.isNone a) (some (c,d,(b||(!j)))) (cond j ((zcJ e f g h c d b i).bind fun l=>zbG a l) (zbG a b))
theorem zkX(d:List za)(e:T2)(f:T0)(g:zc)(b:T1)(c:T1)(j:Bool)(n:Int)(o:Bool){r:T1×T1×Bool}(h:zd1 d e f g b c j n o=some r):SC Tryz.prog 84 [.mpt 0 0 0,iA n,bA o] [.one 15 (vK d e f g (.msl 1 0 (length b)) (.msl 2 0 (length c)) (bA j)),.many 1 (map zf b),.many 1 (map zf c)] (.tup []) [.one 15 (vK d e f g (.msl 3 0 (length r.1)) (.msl 4 0 (length r.2.1)) (bA r.2.2)),.no,.no,.many 1 (map zf r.1),.many 1 (map zf r.2.1)]:=by
 refine ⟨⟨t,t,t,zh0 (sz:=1) (fun _=>y),zh0 (sz:=1) (fun _=>y),t⟩,zV Tryz.func84 y kz y ?_⟩
 unfold zd1 at h
 obtain ⟨i,x,h⟩:=bs h
 refine rg y<|u<|mv y<|u<|mv y<|u<|sx [0,1,2] (zfL d e f g b c j n x)<|zCV zxU<|zx (env0:=[(0,.mpt 0 0 0),(1,iA n),(2,bA o),(9,zlf 3 zL i)]) (st0:=[some (15,[(vK d e f g (.msl 1 0 (length b)) (.msl 2 0 (length c)) (bA j))]),some (1,map zf b),some (1,map zf c)]) (zo [.old 0,.old 1,.old 2])<|u<|asg y<|zb ?_
 refine zi ?_
 refine rg y<|u<|mv y<|u<|zCK ti y y y<|zb ?_
 refine ze y (fun p=>?_) (fun p=>?_)
 ·
  replace h:=bT p h
  refine rg y<|u<|mv y<|u<|mv y<|u<|sx [0,1,2] (zv d e f g b c j o y)<|zx (env0:=[]) (st0:=[some (15,[(vK d e f g (.msl 1 0 (length b)) (.msl 2 0 (length c)) (bA (j||(!o))))]),some (1,map zf b),some (1,map zf c)]) (zo [.old 0,.old 1,.old 2])<|zb ?_
  refine zj ?_
  obtain rfl:=sm h
  exact ⟨_,y,zz [.old 0,.dead,.dead,.old 1,.old 2]⟩
 ·
  replace h:=bF p h
  refine zg ?_
  refine zaX (X:=Bool) (fun z=>[(0,.mpt 0 0 0),(6,zlf 3 zL i)]) (fun z=>[some (15,[(vK d e f g (.msl 1 0 (length b)) (.msl 2 0 (length c)) (bA z))]),some (1,map zf b),some (1,map zf c)]) (fun z=>zbG i z=some r) ?_ ?_
  ·
   refine rg y<|u<|mv y<|zb ?_
   refine ze y (fun q=>?_) (fun q=>?_)
   ·
    replace h:=bT q h
    obtain ⟨s,A,h⟩:=bs h
    exact rl y<|u<|mv y<|u<|mv y<|u<|mv y<|u<|nc y y<|u<|fa ti y y y<|u<|ld ti y y<|u<|sx [0,1,2] (zh5 d e f g b c j n A)<|zx (env0:=[(0,.mpt 0 0 0),(6,zlf 3 zL i)]) (st0:=[some (15,[(vK d e f g (.msl 1 0 (length b)) (.msl 2 0 (length c)) (bA s))]),some (1,map zf b),some (1,map zf c)]) (zo [.old 0,.old 1,.old 2])<|zb (⟨s,h,zo [.old 0,.old 1,.old 2]⟩)
   ·
    replace h:=bF q h
    refine zg ?_
    exact ⟨j,h,zo [.old 0,.old 1,.old 2]⟩
  ·
   rintro v h
   replace h:zbG i v=some r:=h
   unfold zbG at h
   rcases i with _ |a
   ·
    replace h:=oeN h
    cases h
   ·
    replace h:=oeS h
    obtain ⟨l,B,h⟩:=bs h
    obtain ⟨m,C,h⟩:=bs h
    refine zjw [] [some (15,[(vK d e f g (.msl 3 0 (length l)) (.msl 4 0 (length m)) (bA v))]),some (1,map zf b),some (1,map zf c),some (1,map zf l),some (1,map zf m)] [6,11,14,17] [10,9,8,7,5,4,3,2,1,0] [(33,.isl 1 (map zf a.Stack)),(32,.ipt 3 [[iA a.At,.isl 1 (map zf a.Locals),.isl 1 (map zf a.Stack)]] 0 2),(31,.ipt 3 [[iA a.At,.isl 1 (map zf a.Locals),.isl 1 (map zf a.Stack)]] 0 0),(30,.ipt 3 [[iA a.At,.isl 1 (map zf a.Locals),.isl 1 (map zf a.Stack)]] 0 0),(28,.isl 1 (map zf a.Locals)),(27,.ipt 3 [[iA a.At,.isl 1 (map zf a.Locals),.isl 1 (map zf a.Stack)]] 0 1),(26,.ipt 3 [[iA a.At,.isl 1 (map zf a.Locals),.isl 1 (map zf a.Stack)]] 0 0),(25,.ipt 3 [[iA a.At,.isl 1 (map zf a.Locals),.isl 1 (map zf a.Stack)]] 0 0),(24,.mpt 0 0 0),(23,.mpt 0 0 0)] 4 (zmt ⟨(fun _ _=>⟨_,y,y,sx [] (zpo a.Locals B)<|⟨(.msl 3 0 (length l)),[],[(29,.msl 3 0 (length l))],y,y,kz,y,zmt ⟨nv,(fun _ _=>⟨_,y,y,sx [] (zpo a.Stack C)<|⟨(.msl 4 0 (length m)),[13,12],[(36,.mpt 0 0 12),(35,.mpt 0 0 0),(34,.msl 4 0 (length m))],y,y,kz,y,zmt ⟨nv,nv,(fun _ _=>⟨_,y,y,sto ti y y y<|⟨.any,[16,15],[(38,.mpt 0 0 13),(37,.mpt 0 0 0)],y,y,kz,t,zmt ⟨nv,nv,nv,(fun _ _=>⟨_,y,y,sto ti y y y<|⟨.any,[],[],y,y,kz,t,zh3 (zo [.old 0,.old 1,.old 2,.old 3,.old 4])⟩⟩),t⟩⟩⟩),nw,t⟩⟩⟩),nw,nw,t⟩⟩⟩),nw,nw,nw,t⟩) ?_
    obtain rfl:=sm h
    exact ⟨_,y,zz [.old 0,.dead,.dead,.old 3,.old 4]⟩
def zdl(b:List za)(c:T2)(h:T0)(i:zc)(d:T1)(j:T1)(a:Bool)(l:Int)(m:T1):Option (Bool):=
  (zcI b c h i d j a l).bind fun e=>zAo e (some (a||(!false))) (fun f=>(zeG b c f d m).bind fun g=>some (a||(!g)))
theorem zjM(e:List za)(f:T2)(i:T0)(j:zc)(c:T1)(d:T1)(l:Bool)(o:Int)(g:T1){r:Bool}(h:zdl e f i j c d l o g=some r):SC Tryz.prog 88 [.mpt 0 0 0,iA o,.msl 3 0 (length g)] [.one 15 (vK e f i j (.msl 1 0 (length c)) (.msl 2 0 (length d)) (bA l)),.many 1 (map zf c),.many 1 (map zf d),.many 1 (map zf g)] (.tup []) [.one 15 (vK e f i j (.msl 1 0 (length c)) (.msl 2 0 (length d)) (bA r)),.many 1 (map zf c),.many 1 (map zf d),.many 1 (map zf g)]:=by
 refine ⟨⟨t,zh0 (sz:=1) (fun _=>y),zh0 (sz:=1) (fun _=>y),zh0 (sz:=1) (fun _=>y),t⟩,zV Tryz.func88 y kz y ?_⟩
 unfold zdl at h
 obtain ⟨n,p,h⟩:=bs h
 refine rg y<|u<|mv y<|u<|mv y<|u<|sx [0,1,2] (zfL e f i j c d l o p)<|zCV zxU<|zx (env0:=[(0,.mpt 0 0 0),(2,.msl 3 0 (length g)),(9,zlf 3 zL n)]) (st0:=[some (15,[(vK e f i j (.msl 1 0 (length c)) (.msl 2 0 (length d)) (bA l))]),some (1,map zf c),some (1,map zf d),some (1,map zf g)]) (zo [.old 0,.old 1,.old 2,.old 3])<|u<|asg y<|zb ?_
 rcases n with _ |a
 ·
  replace h:=oeN h
  refine zjw [] [some (15,[(vK e f i j (.msl 1 0 (length c)) (.msl 2 0 (length d)) (bA (l||(!false))))]),some (1,map zf c),some (1,map zf d),some (1,map zf g)] [18] [17,16,15,14,13,12,11,10,9,8,7,6,5,4,3,2,1,0] [(27,bA false),(26,.lit undef),(25,.lit undef),(24,.lit undef),(23,.lit undef),(22,.lit undef),(21,.lit undef),(20,.lit undef),(19,.lit undef),(18,.lit undef),(17,.lit undef),(16,.lit undef),(15,.lit undef),(14,.lit undef),(13,bA false),(12,bA false),(11,.lit (.pointer none)),(10,.mpt 0 0 0)] 1 (zeo ⟨pe,pe,pe,pe,pe,pe,pe,pe,pe,pe,pe,pe,pe,pe,pe,(pb y (nep ti y y y y y y w)),pe,pe,t⟩ ⟨(fun _ _=>⟨_,y,y,sc [0,1,2] (args:=[.mpt 0 0 0,bA false]) (zv e f i j c d l false y) y y y y ⟨(.mpt y),(rnI y),t⟩ ⟨⟨_,y,(zwe y ⟨(.msl y),(.msl y),(rnI y),t⟩)⟩,⟨y,mkI (fun _=>y)⟩,⟨y,mkI (fun _=>y)⟩,t⟩<|⟨(.tup []),[],[(28,.tup [])],y,y,kz,y,zhA ⟨pe,pe,pe,pe,pe,pe,pe,pe,pe,pe,pe,pe,pe,pe,pe,(pb y (nep ti y y y y y y w)),pe,pe,t⟩ (zo [.old 0,.old 1,.old 2,.old 3])⟩⟩),t⟩) ?_
  obtain rfl:=sm h
  exact ⟨_,y,zz [.old 0,.old 1,.old 2,.old 3]⟩
 ·
  replace h:=oeS h
  obtain ⟨m,q,h⟩:=bs h
  refine zjw [] [some (15,[(vK e f i j (.msl 1 0 (length c)) (.msl 2 0 (length d)) (bA (l||(!m))))]),some (1,map zf c),some (1,map zf d),some (1,map zf g)] [18] [17,16,15,14,13,12,11,10,9,8,7,6,5,4,3,2,1,0] [(27,bA m),(26,bA m),(25,.msl 3 0 (length g)),(24,.msl 1 0 (length c)),(23,.mpt 0 0 12),(22,.mpt 0 0 0),(21,.mpt 0 0 0),(20,.agg (zL a)),(19,.ipt 3 [[iA a.At,.isl 1 (map zf a.Locals),.isl 1 (map zf a.Stack)]] 0 0),(18,.ipt 3 [[iA a.At,.isl 1 (map zf a.Locals),.isl 1 (map zf a.Stack)]] 0 0),(17,.ipt 2 [[.isl 6 (map zd e),.imp (map (rKV (fun x=>iA x)) f)]] 0 0),(16,.mpt 0 0 0),(15,.mpt 0 0 0),(14,.mpt 0 0 0),(13,bA true),(12,bA true),(11,.ipt 3 [[iA a.At,.isl 1 (map zf a.Locals),.isl 1 (map zf a.Stack)]] 0 0),(10,.mpt 0 0 0)] 1 (zeo ⟨pe,(fun _=>pag (b:=true) y y y y y y (pcs (zk3 e f a c g q) y y (.cons (si y) (.cons (si y) (.cons (zhm y (fun _=>y)) (.cons (zhm y (fun _=>y)) .nil)))) zcn<|w)),pe,pe,pe,pe,pe,pe,pe,pe,pe,pe,pe,pe,pe,(pb y (nep ti y y y y y y w)),pe,pe,t⟩ ⟨(fun _ _=>⟨_,y,y,sc [0,1,2] (args:=[.mpt 0 0 0,bA m]) (zv e f i j c d l m y) y y y y ⟨(.mpt y),(rnI y),t⟩ ⟨⟨_,y,(zwe y ⟨(.msl y),(.msl y),(rnI y),t⟩)⟩,⟨y,mkI (fun _=>y)⟩,⟨y,mkI (fun _=>y)⟩,t⟩<|⟨(.tup []),[],[(28,.tup [])],y,y,kz,y,zhA ⟨pe,pe,pe,pe,pe,pe,pe,pe,pe,pe,pe,pe,pe,pe,pe,(pb y (nep ti y y y y y y w)),pe,pe,t⟩ (zo [.old 0,.old 1,.old 2,.old 3])⟩⟩),t⟩) ?_
  obtain rfl:=sm h
  exact ⟨_,y,zz [.old 0,.old 1,.old 2,.old 3]⟩
def zfn(a:Bool):Option (Bool):=
  some a
def zcm(a:Int)(b:Bool):Option (Sum (Bool×Int) (Sum (Bool) (Bool))):=
  some (.inl (b,(IntKind.i64.wrap (a+1))))
def zbI(f:List za)(g:T2)(j:T0)(l:zc)(m:T1)(n:T1)(h:Int)(b:Bool)(c:Int)(a:zaF)(d:T0):Option (Sum (Bool×Int) (Sum (Bool) (Bool))):=
  (zcz f g d [84,104,114,111,119,110]).bind fun e=>cond ((decide (a.From≤h))&&(decide (h<a.To))) ((zdl f g j l m n (b||(!e)) a.At [d]).bind fun i=>zcm c i) (zcm c (b||(!e)))
def zbe(e:List za)(f:T2)(g:T0)(d:zc)(h:T1)(i:T1)(j:Int)(c:Bool)(a:Int):Option (Sum (Bool×Int) (Sum (Bool) (Bool))):=
  cond (decide (a<(length d.Traps:Int))) ((idx d.Traps a).bind fun b=>cond (b.C == []) (zbI e f g d h i j c a b [84,104,114,111,119,110]) (zbI e f g d h i j c a b b.C)) (some (.inr (.inl c)))
def zc9(a:List za)(c:T2)(d:T0)(e:zc)(f:T1)(g:T1)(h:Bool)(i:Int):Option (Bool):=
  (zw (fun z=>zbe a c d e f g i z.1 z.2) (h,0)).bind fun o=>zU o (fun b=>zfn b) some
theorem zkZ(e:List za)(f:T2)(i:T0)(a:zc)(c:T1)(d:T1)(F:Bool)(p:Int){r:Bool}(h:zc9 e f i a c d F p=some r):SC Tryz.prog 85 [.mpt 0 0 0,iA p] [.one 15 (vK e f i a (.msl 1 0 (length c)) (.msl 2 0 (length d)) (bA F)),.many 1 (map zf c),.many 1 (map zf d)] (.tup []) [.one 15 (vK e f i a (.msl 1 0 (length c)) (.msl 2 0 (length d)) (bA r)),.many 1 (map zf c),.many 1 (map zf d)]:=by
 refine ⟨⟨t,zh0 (sz:=1) (fun _=>y),zh0 (sz:=1) (fun _=>y),t⟩,zV Tryz.func85 y kz y ?_⟩
 unfold zc9 at h
 refine rg y<|u<|mv y<|u<|nc y y<|u<|fa ti y y y<|u<|fa ti y y y<|u<|ld ti y y<|u<|lnI ti y y<|u<|mv y<|zb ?_
 obtain ⟨o,ho,h⟩:=bs h
 refine zY (X:=Bool×Int) (B:=Bool) (R:=Bool) (fun z=>[(0,.mpt 0 0 0),(1,iA p),(11,.isl 4 (map za9 a.Traps)),(12,iA (length a.Traps:Int)),(13,iA z.2)]) (fun z=>[some (15,[(vK e f i a (.msl 1 0 (length c)) (.msl 2 0 (length d)) (bA z.1))]),some (1,map zf c),some (1,map zf d)]) (fun b=>[]) (fun b=>[some (15,[(vK e f i a (.msl 1 0 (length c)) (.msl 2 0 (length d)) (bA b))]),some (1,map zf c),some (1,map zf d)]) (fun r env st=>zaO Tryz.prog Tryz.f85 3 (.tup []) [some (15,[(vK e f i a (.msl 1 0 (length c)) (.msl 2 0 (length d)) (bA r))]),some (1,map zf c),some (1,map zf d)] env st) ho (zo [.old 0,.old 1,.old 2]) ?_ ?_ ?_
 ·
  rintro ⟨m,l⟩ r h
  replace h:zbe e f i a c d p m l=some r:=h
  unfold zbe at h
  refine rg y<|u<|lss ti y y<|zb ?_
  refine zi ?_
  refine ze y (fun D=>?_) (fun D=>?_)
  ·
   replace h:=bT D h
   refine zg ?_
   refine zaX (X:=Bool) (fun z=>[(0,.mpt 0 0 0),(1,iA p),(11,.isl 4 (map za9 a.Traps)),(12,iA (length a.Traps:Int)),(13,iA l)]) (fun z=>[some (15,[(vK e f i a (.msl 1 0 (length c)) (.msl 2 0 (length d)) (bA z))]),some (1,map zf c),some (1,map zf d)]) (fun z=>zcm l z=some r) ?_ ?_
   ·
    refine zs ?_
    obtain ⟨q,G,h⟩:=bs h
    refine rg y<|u<|ixI ti y ti y y y G<|u<|ldI ti y (zl G).2.2 y<|u<|al 3 ti y<|u<|sto ti y y y<|zb ?_
    refine rg y<|u<|fa ti y y y<|u<|ld ti y y<|u<|asg y<|zb ?_
    refine zaX (X:=T0) (fun z=>[(0,.mpt 0 0 0),(1,iA p),(5,.mpt 3 0 0),(6,sA z),(11,.isl 4 (map za9 a.Traps)),(12,iA (length a.Traps:Int)),(13,iA l)]) (fun z=>[some (15,[(vK e f i a (.msl 1 0 (length c)) (.msl 2 0 (length d)) (bA m))]),some (1,map zf c),some (1,map zf d),some (4,[(za9 q)])]) (fun z=>zbI e f i a c d p m l q z=some r) ?_ ?_
    ·
     refine rg y<|u<|mv y<|u<|seq ti y y<|zb ?_
     refine ze y (fun s=>?_) (fun s=>?_)
     ·
      replace h:=bT s h
      exact rl y<|u<|asg y<|zb (⟨[84,104,114,111,119,110],h,zo [.old 0,.old 1,.old 2,.old 3]⟩)
     ·
      replace h:=bF s h
      refine zg ?_
      exact ⟨q.C,h,zo [.old 0,.old 1,.old 2,.old 3]⟩
    ·
     rintro x h
     replace h:zbI e f i a c d p m l q x=some r:=h
     unfold zbI at h
     obtain ⟨A,H,h⟩:=bs h
     refine rg y<|u<|mv y<|u<|mv y<|u<|nc y y<|u<|fa ti y y y<|u<|ld ti y y<|u<|mv y<|u<|pc (zdn e f x [84,104,114,111,119,110] H) y y y<|u<|sx [0,1,2] (zv e f i a c d m A y)<|zx (env0:=[(0,.mpt 0 0 0),(1,iA p),(5,.mpt 3 0 0),(6,sA x),(11,.isl 4 (map za9 a.Traps)),(12,iA (length a.Traps:Int)),(13,iA l)]) (st0:=[some (15,[(vK e f i a (.msl 1 0 (length c)) (.msl 2 0 (length d)) (bA (m||(!A))))]),some (1,map zf c),some (1,map zf d),some (4,[(za9 q)])]) (zo [.old 0,.old 1,.old 2,.old 3])<|zb ?_
     refine rg y<|u<|fa ti y y y<|u<|ld ti y y<|u<|mv y<|u<|leq ti y y<|u<|mv y<|z7 (j:=4) 4 y y y y y gpn (fun n=>g y n<|mv y<|g y n<|fa ti y y y<|g y n<|ld ti y y<|g y n<|lss ti y y<|zb (egA [34,35,36,37] 4 n y y y y)) ze3<|zb ?_
     refine ze y (fun v=>?_) (fun v=>?_)
     ·
      replace h:=bT v h
      obtain ⟨E,I,h⟩:=bs h
      exact rl y<|u<|mv y<|u<|fa ti y y y<|u<|ld ti y y<|u<|mv y<|u<|bl 4 ti y ti y (by decide) (by decide) y y y<|u<|sx [0,1,2,4] (zjM e f i a c d (m||(!A)) q.At [x] I)<|zx (env0:=[(0,.mpt 0 0 0),(1,iA p),(11,.isl 4 (map za9 a.Traps)),(12,iA (length a.Traps:Int)),(13,iA l)]) (st0:=[some (15,[(vK e f i a (.msl 1 0 (length c)) (.msl 2 0 (length d)) (bA E))]),some (1,map zf c),some (1,map zf d)]) (zo [.old 0,.old 1,.old 2])<|zb (⟨E,h,zo [.old 0,.old 1,.old 2]⟩)
     ·
      replace h:=bF v h
      refine zg ?_
      exact ⟨(m||(!A)),h,zo [.old 0,.old 1,.old 2]⟩
   ·
    rintro J h
    replace h:zcm l J=some r:=h
    unfold zcm at h
    refine rl y<|u<|add ti y y<|u<|mv y<|zb ?_
    obtain rfl:=sm h
    exact ⟨_,y,zo [.old 0,.old 1,.old 2]⟩
  ·
   replace h:=bF D h
   refine zE ?_
   obtain rfl:=sm h
   exact ⟨y,_,y,zo [.old 0,.old 1,.old 2]⟩
 ·
  rintro K rfl
  replace h:zfn K=some r:=h
  unfold zfn at h
  refine zy ?_
  obtain rfl:=sm h
  exact ⟨_,y,zz [.old 0,.old 1,.old 2]⟩
 ·
  rintro r' rfl env st hp
  obtain rfl:=sm h
  exact hp
def zaM(a:Int)(b:Int)(c:Int):Bool:=
  ((decide (b≤a))&&(decide (a≤c)))
theorem zbN(b:Int)(c:Int)(d:Int){r:Bool}(h:zaM b c d=r):zG Tryz.prog 139 [iA b,iA c,iA d] (bA r):=by
 refine zr Tryz.func139 y kz y y ?_
 unfold zaM at h
 refine rg y<|u<|asg y<|zb ?_
 refine rg y<|u<|mv y<|u<|mv y<|u<|geq ti y y<|u<|mv y<|z7 (j:=3) 3 y y y y y gpn (fun a=>g y a<|mv y<|g y a<|mv y<|g y a<|leq ti y y<|zb (egA [11,12,13] 3 a y y y y)) ze3<|u<|asg y<|zb ?_
 refine zj ?_
 obtain rfl:=h
 exact ⟨_,y,zz []⟩
def zB(d:List za)(e:T2)(f:T0)(g:zc)(h:T1)(a:T1)(i:Bool)(b:T0):Option (T1):=
  (zh2 16 a [b]).bind fun c=>some c
theorem zA(b:List za)(c:T2)(d:T0)(e:zc)(a:T1)(g:T1)(i:Bool)(j:T0){r:T1}(h:zB b c d e a g i j=some r):SC Tryz.prog 142 [.mpt 0 0 0,sA j] [.one 15 (vK b c d e (.msl 1 0 (length a)) (.msl 2 0 (length g)) (bA i)),.many 1 (map zf a),.many 1 (map zf g)] (.tup []) [.one 15 (vK b c d e (.msl 1 0 (length a)) (.msl 3 0 (length r)) (bA i)),.many 1 (map zf a),.no,.many 1 (map zf r)]:=by
 refine ⟨⟨t,zh0 (sz:=1) (fun _=>y),t,zh0 (sz:=1) (fun _=>y),t⟩,zV Tryz.func142 y kz y ?_⟩
 unfold zB at h
 obtain ⟨m,l,h⟩:=bs h
 refine rl y<|u<|mv y<|u<|mv y<|u<|nc y y<|u<|fa ti y y y<|u<|ld ti y y<|u<|mv y<|u<|bl 3 ti y ti y (by decide) (by decide) y y y<|u<|apM 4 ti y ti y y (by decide) ti y y y y (roX (f:=zf) (z:=[j]) y y) (fun _=>y) y l<|u<|nc y y<|u<|fa ti y y y<|u<|sto ti y y y<|zb ?_
 obtain rfl:=sm h
 exact ⟨_,y,zz [.old 0,.old 1,.dead,.old 4]⟩
def zag(e:List za)(f:T2)(g:T0)(h:zc)(i:T1)(a:T1)(b:Bool):Option (T0×T1×Bool):=
  cond (((length a):Int) == (0:Int)) (some ([84],a,true)) ((idx a (IntKind.i64.wrap (((length a):Int)-1))).bind fun c=>(zkh a 0 (IntKind.i64.wrap (((length a):Int)-1))).bind fun d=>some (c,d,b))
theorem zaN(e:List za)(g:T2)(i:T0)(j:zc)(d:T1)(a:T1)(n:Bool){r:T0×T1×Bool}(h:zag e g i j d a n=some r):SC Tryz.prog 213 [.mpt 0 0 0] [.one 15 (vK e g i j (.msl 1 0 (length d)) (.msl 2 0 (length a)) (bA n)),.many 1 (map zf d),.many 1 (map zf a)] (sA r.1) [.one 15 (vK e g i j (.msl 1 0 (length d)) (.msl 2 0 (length r.2.1)) (bA r.2.2)),.many 1 (map zf d),.many 1 (map zf r.2.1)]:=by
 refine ⟨⟨t,zh0 (sz:=1) (fun _=>y),zh0 (sz:=1) (fun _=>y),t⟩,zV Tryz.func213 y kz y ?_⟩
 unfold zag at h
 refine rg y<|u<|asg y<|zb ?_
 refine zi ?_
 refine rg y<|u<|mv y<|u<|nc y y<|u<|fa ti y y y<|u<|ld ti y y<|u<|lnM ti y y y<|u<|eql ti y y<|zb ?_
 refine ze y (fun m=>?_) (fun m=>?_)
 ·
  replace h:=bT m h
  refine rg y<|u<|mv y<|u<|nc y y<|u<|fa ti y y y<|u<|sto ti y y y<|zb ?_
  refine rg y<|u<|asg y<|zb ?_
  refine zj ?_
  obtain rfl:=sm h
  exact ⟨_,y,zz [.old 0,.old 1,.old 2]⟩
 ·
  replace h:=bF m h
  refine zg ?_
  obtain ⟨o,q,h⟩:=bs h
  refine rdA [(0,.mpt 0 0 0),(3,sA o)] [some (15,[(vK e g i j (.msl 1 0 (length d)) (.msl 2 0 (length a)) (bA n))]),some (1,map zf d),some (1,map zf a)] [] [12,11,10,9,8,7,6,5,4,3,2,1,0] [(3,sA o),(24,sA o),(23,.mpt 2 (Int.toNat (IntKind.i64.wrap (((length a):Int)-1))) 0),(22,iA (IntKind.i64.wrap (((length a):Int)-1))),(21,iA ((length a):Int)),(20,.msl 2 0 (length a)),(19,.mpt 0 0 13),(18,.mpt 0 0 0),(17,.mpt 0 0 0),(16,.msl 2 0 (length a)),(15,.mpt 0 0 13),(14,.mpt 0 0 0),(13,.mpt 0 0 0)] 0 (zhA ⟨pe,(pb y (ldM ti y y (zl q).2.2 y w)),(pb y (ixM ti y ti y y y y q w)),(pb y (sub ti y y w)),(pb y (lnM ti y y y w)),pe,pe,pe,pe,pe,pe,pe,pe,t⟩ (zo [.old 0,.old 1,.old 2])) ?_
  obtain ⟨s,p,h⟩:=bs h
  refine rdA [(3,sA o)] [some (15,[(vK e g i j (.msl 1 0 (length d)) (.msl 2 0 (length s)) (bA n))]),some (1,map zf d),some (1,map zf a)] [14] [13,12,11,10,9,8,7,6,5,4,3,2,1,0] [(38,.mpt 0 0 13),(37,.mpt 0 0 0),(36,.msl 2 0 (length s)),(35,iA (IntKind.i64.wrap (((length a):Int)-1))),(34,iA ((length a):Int)),(33,.msl 2 0 (length a)),(32,.mpt 0 0 13),(31,.mpt 0 0 0),(30,.mpt 0 0 0),(29,.msl 2 0 (length a)),(28,.mpt 0 0 13),(27,.mpt 0 0 0),(26,.mpt 0 0 0),(25,.mpt 0 0 0)] 1 (zeo ⟨pe,pe,(pb y (slM (l:=a) (c:=(IntKind.i64.wrap (((length a):Int)-1))) ti y ti y y y (zov y p) p w)),(pb y (sub ti y y w)),(pb y (lnM ti y y y w)),pe,pe,pe,pe,pe,pe,pe,pe,pe,t⟩ ⟨(fun _ _=>⟨_,y,y,sto ti y y y<|⟨.any,[],[],y,y,kz,t,zh3 (zo [.old 0,.old 1,.old 2])⟩⟩),t⟩) ?_
  refine zCY (b:=2) (l:=a) (f:=zf) (c:=(IntKind.i64.wrap (((length a):Int)-1))) y y p ?_
  refine rg y<|u<|mv y<|u<|asg y<|zb ?_
  refine zj ?_
  obtain rfl:=sm h
  exact ⟨_,y,zz [.old 0,.old 1,.old 2]⟩
def za5(g:List za)(h:T2)(i:T0)(j:zc)(a:T1)(b:T1)(c:Bool)(l:zp)(d:Bool):Option (T1×T1×Bool):=
  cond d (some (a,b,true)) ((idx a l.A).bind fun e=>(zB g h i j a b c e).bind fun f=>some (a,f,c))
def zaY(c:List za)(d:T2)(e:T0)(f:zc)(a:T1)(i:T1)(g:Bool)(b:zp):Option (T1×T1×Bool):=
  cond (b.Op == (1:Int)) ((zB c d e f a i g [73]).bind fun x=>some (a,x,g)) (cond (b.Op == (2:Int)) ((zB c d e f a i g [78]).bind fun p=>some (a,p,g)) (cond (b.Op == (3:Int)) (cond (decide (((length a):Int)≤b.A)) (za5 c d e f a i g b true) ((idx a b.A).bind fun q=>za5 c d e f a i g b (q == [84]))) (cond (b.Op == (4:Int)) ((zag c d e f a i g).bind fun l=>cond (decide (((length a):Int)≤b.A)) (some (a,l.2.1,true)) ((zng a).bind fun n=>(idx n b.A).bind fun z=>some ((List.set n (Int.toNat b.A) l.1),l.2.1,l.2.2))) (cond (b.Op == (5:Int)) ((zag c d e f a i g).bind fun o=>some (a,o.2.1,o.2.2)) (cond (b.Op == (6:Int)) ((zag c d e f a i g).bind fun h=>(zB c d e f a h.2.1 h.2.2 h.1).bind fun r=>(zB c d e f a r h.2.2 h.1).bind fun s=>some (a,s,h.2.2)) (cond (b.Op == (7:Int)) ((zag c d e f a i g).bind fun m=>(zag c d e f a m.2.1 m.2.2).bind fun j=>(zB c d e f a j.2.1 j.2.2 m.1).bind fun u=>(zB c d e f a u j.2.2 j.1).bind fun v=>some (a,v,j.2.2)) (some (a,i,g))))))))
theorem zlb(d:List za)(e:T2)(f:T0)(g:zc)(a:T1)(n:T1)(m:Bool)(i:zp){r:T1×T1×Bool}(h:zaY d e f g a n m i=some r):SC Tryz.prog 140 [.mpt 0 0 0,.agg (zu i)] [.one 15 (vK d e f g (.msl 1 0 (length a)) (.msl 2 0 (length n)) (bA m)),.many 1 (map zf a),.many 1 (map zf n)] (.tup []) [.one 15 (vK d e f g (.msl 3 0 (length r.1)) (.msl 4 0 (length r.2.1)) (bA r.2.2)),.no,.no,.many 1 (map zf r.1),.many 1 (map zf r.2.1)]:=by
 refine ⟨⟨t,t,t,zh0 (sz:=1) (fun _=>y),zh0 (sz:=1) (fun _=>y),t⟩,zV Tryz.func140 y kz y ?_⟩
 unfold zaY at h
 refine rg y<|u<|bx 3 4 y y y y<|zb ?_
 refine rg y<|u<|fa ti y y y<|u<|ld ti y y<|zb ?_
 refine zs ?_
 refine rg y<|u<|eql ti y y<|u<|asg y<|zb ?_
 refine ze y (fun E=>?_) (fun E=>?_)
 ·
  replace h:=bT E h
  obtain ⟨S,q2,h⟩:=bs h
  refine rl y<|u<|mv y<|u<|sx [0,1,2] (zA d e f g a n m [73] q2)<|zx (env0:=[]) (st0:=[some (15,[(vK d e f g (.msl 1 0 (length a)) (.msl 3 0 (length S)) (bA m))]),some (1,map zf a),none,some (1,map zf S)]) (zo [.old 0,.old 1,.dead,.old 4])<|zb ?_
  obtain rfl:=sm h
  exact ⟨_,y,zz [.old 0,.dead,.dead,.old 1,.old 3]⟩
 ·
  replace h:=bF E h
  refine rg y<|u<|eql ti y y<|u<|asg y<|zb ?_
  refine ze y (fun F=>?_) (fun F=>?_)
  ·
   replace h:=bT F h
   obtain ⟨L,q4,h⟩:=bs h
   refine rl y<|u<|mv y<|u<|sx [0,1,2] (zA d e f g a n m [78] q4)<|zx (env0:=[]) (st0:=[some (15,[(vK d e f g (.msl 1 0 (length a)) (.msl 3 0 (length L)) (bA m))]),some (1,map zf a),none,some (1,map zf L)]) (zo [.old 0,.old 1,.dead,.old 4])<|zb ?_
   obtain rfl:=sm h
   exact ⟨_,y,zz [.old 0,.dead,.dead,.old 1,.old 3]⟩
  ·
   replace h:=bF F h
   refine rg y<|u<|eql ti y y<|u<|asg y<|zb ?_
   refine ze y (fun G=>?_) (fun G=>?_)
   ·
    replace h:=bT G h
    refine zi ?_
    refine zaX (X:=Bool) (fun z=>[(0,.mpt 0 0 0),(3,.mpt 3 0 0),(38,bA z)]) (fun z=>[some (15,[(vK d e f g (.msl 1 0 (length a)) (.msl 2 0 (length n)) (bA m))]),some (1,map zf a),some (1,map zf n),some (4,[(zu i)])]) (fun z=>za5 d e f g a n m i z=some r) ?_ ?_
    ·
     rcases bb (decide (((length a):Int)≤i.A)) with p |p
     ·
      replace h:=bT p h
      exact zaf [] [18,17,16,15,14,13,12,11,10,9,8,7,6,5,4,3,2,1,0] [(38,bA true),(37,.lit undef),(36,.lit undef),(35,.lit undef),(34,.lit undef),(33,.lit undef),(32,.lit undef),(31,.lit undef),(30,.lit undef),(29,.lit undef),(28,bA (decide (((length a):Int)≤i.A))),(27,bA (decide (((length a):Int)≤i.A))),(26,iA ((length a):Int)),(25,.msl 1 0 (length a)),(24,.mpt 0 0 12),(23,.mpt 0 0 0),(22,.mpt 0 0 0),(21,iA i.A),(20,.mpt 3 0 1)] 0 kz kz y kz (zhA ⟨pe,pe,pe,pe,pe,pe,pe,pe,pe,pe,pe,pe,(pb y (lnM ti y y y w)),pe,pe,pe,pe,pe,pe,t⟩ ⟨true,h,zo [.old 0,.old 1,.old 2,.old 3]⟩)
     ·
      replace h:=bF p h
      obtain ⟨D,T,h⟩:=bs h
      exact zaf [] [18,17,16,15,14,13,12,11,10,9,8,7,6,5,4,3,2,1,0] [(38,bA (D == [84])),(37,bA (D == [84])),(36,sA D),(35,.mpt 1 (Int.toNat i.A) 0),(34,iA i.A),(33,.mpt 3 0 1),(32,.msl 1 0 (length a)),(31,.mpt 0 0 12),(30,.mpt 0 0 0),(29,.mpt 0 0 0),(28,bA (decide (((length a):Int)≤i.A))),(27,bA (decide (((length a):Int)≤i.A))),(26,iA ((length a):Int)),(25,.msl 1 0 (length a)),(24,.mpt 0 0 12),(23,.mpt 0 0 0),(22,.mpt 0 0 0),(21,iA i.A),(20,.mpt 3 0 1)] 0 kz kz y kz (zhA ⟨pe,pe,(fun _=>pag (b:=(decide (((length a):Int)≤i.A))) y y y y p y (ldM ti y y (zl T).2.2 y<|w)),(fun _=>pag (b:=(decide (((length a):Int)≤i.A))) y y y y p y (ixM ti y ti y y y y T<|w)),pe,pe,pe,pe,pe,pe,pe,pe,(pb y (lnM ti y y y w)),pe,pe,pe,pe,pe,pe,t⟩ ⟨(D == [84]),h,zo [.old 0,.old 1,.old 2,.old 3]⟩)
    ·
     rintro U h
     replace h:za5 d e f g a n m i U=some r:=h
     unfold za5 at h
     refine ze y (fun H=>?_) (fun H=>?_)
     ·
      replace h:=bT H h
      refine rg y<|u<|mv y<|u<|nc y y<|u<|fa ti y y y<|u<|sto ti y y y<|zb ?_
      refine zj ?_
      obtain rfl:=sm h
      exact ⟨_,y,zz [.old 0,.dead,.dead,.old 1,.old 2]⟩
     ·
      replace h:=bF H h
      refine zg ?_
      obtain ⟨M,R,h⟩:=bs h
      obtain ⟨N,V,h⟩:=bs h
      refine zjw [] [some (15,[(vK d e f g (.msl 1 0 (length a)) (.msl 3 0 (length N)) (bA m))]),some (1,map zf a),none,some (1,map zf N)] [9] [8,7,6,5,4,3,2,1,0] [(50,sA M),(49,.mpt 1 (Int.toNat i.A) 0),(48,iA i.A),(47,.mpt 3 0 1),(46,.msl 1 0 (length a)),(45,.mpt 0 0 12),(44,.mpt 0 0 0),(43,.mpt 0 0 0),(42,.mpt 0 0 0)] 1 (zeo ⟨(pb y (ldM ti y y (zl R).2.2 y w)),(pb y (ixM ti y ti y y y y R w)),pe,pe,pe,pe,pe,pe,pe,t⟩ ⟨(fun _ _=>⟨_,y,y,sx [0,1,2] (zA d e f g a n m M V)<|⟨(.tup []),[],[(51,.tup [])],y,y,kz,y,zhA ⟨pe,(pb y (ixM ti y ti y y y y R w)),pe,pe,pe,pe,pe,pe,pe,t⟩ (zo [.old 0,.old 1,.dead,.old 4])⟩⟩),t⟩) ?_
      obtain rfl:=sm h
      exact ⟨_,y,zz [.old 0,.dead,.dead,.old 1,.old 3]⟩
   ·
    replace h:=bF G h
    refine rg y<|u<|eql ti y y<|u<|asg y<|zb ?_
    refine ze y (fun s=>?_) (fun s=>?_)
    ·
     replace h:=bT s h
     obtain ⟨c,W,h⟩:=bs h
     refine rg y<|u<|mv y<|u<|sx [0,1,2] (zaN d e f g a n m W)<|zx (env0:=[(0,.mpt 0 0 0),(3,.mpt 3 0 0),(55,sA c.1)]) (st0:=[some (15,[(vK d e f g (.msl 1 0 (length a)) (.msl 2 0 (length c.2.1)) (bA c.2.2))]),some (1,map zf a),some (1,map zf c.2.1),some (4,[(zu i)])]) (zo [.old 0,.old 1,.old 2,.old 3])<|u<|asg y<|zb ?_
     refine zi ?_
     refine rdA [(0,.mpt 0 0 0),(3,.mpt 3 0 0),(4,sA c.1),(63,bA (decide (((length a):Int)≤i.A)))] [some (15,[(vK d e f g (.msl 1 0 (length a)) (.msl 2 0 (length c.2.1)) (bA c.2.2))]),some (1,map zf a),some (1,map zf c.2.1),some (4,[(zu i)])] [] [7,6,5,4,3,2,1,0] [(63,bA (decide (((length a):Int)≤i.A))),(62,iA ((length a):Int)),(61,.msl 1 0 (length a)),(60,.mpt 0 0 12),(59,.mpt 0 0 0),(58,.mpt 0 0 0),(57,iA i.A),(56,.mpt 3 0 1)] 0 (zhA ⟨pe,(pb y (lnM ti y y y w)),pe,pe,pe,pe,pe,pe,t⟩ (zo [.old 0,.old 1,.old 2,.old 3])) ?_
     refine ze y (fun v=>?_) (fun v=>?_)
     ·
      replace h:=bT v h
      refine rg y<|u<|mv y<|u<|nc y y<|u<|fa ti y y y<|u<|sto ti y y y<|zb ?_
      refine zj ?_
      obtain rfl:=sm h
      exact ⟨_,y,zz [.old 0,.dead,.dead,.old 1,.old 2]⟩
     ·
      replace h:=bF v h
      refine zg ?_
      obtain ⟨q,Y,h⟩:=bs h
      refine rg y<|u<|mv y<|u<|mv y<|u<|nc y y<|u<|fa ti y y y<|u<|ld ti y y<|zx (env0:=[(0,.mpt 0 0 0),(3,.mpt 3 0 0),(4,sA c.1),(67,.mpt 0 0 0),(71,.isl 1 (map zf a))]) (st0:=[some (15,[(vK d e f g (.isl 1 (map zf a)) (.msl 2 0 (length c.2.1)) (bA c.2.2))]),none,some (1,map zf c.2.1),some (4,[(zu i)])]) (zo [.old 0,.dead,.old 2,.old 3])<|u<|sx [] (zpo a Y)<|zx (env0:=[(0,.mpt 0 0 0),(3,.mpt 3 0 0),(4,sA c.1),(67,.mpt 0 0 0),(72,.msl 4 0 (length q))]) (st0:=[some (15,[(vK d e f g (.isl 1 (map zf a)) (.msl 2 0 (length c.2.1)) (bA c.2.2))]),none,some (1,map zf c.2.1),some (4,[(zu i)]),some (1,map zf q)]) (zo [.old 0,.dead,.old 2,.old 3,.old 4])<|u<|nc y y<|u<|fa ti y y y<|u<|sto ti y y y<|zb ?_
      obtain ⟨v17,O,h⟩:=bs h
      refine zjw [] [some (15,[(vK d e f g (.msl 3 0 (length (List.set q (Int.toNat i.A) c.1))) (.msl 2 0 (length c.2.1)) (bA c.2.2))]),none,some (1,map zf c.2.1),some (1,map zf (List.set q (Int.toNat i.A) c.1))] [8] [7,6,5,4,3,2,1,0] [(82,.mpt 4 (Int.toNat i.A) 0),(81,sA c.1),(80,iA i.A),(79,.mpt 3 0 1),(78,.msl 4 0 (length q)),(77,.mpt 0 0 12),(76,.mpt 0 0 0),(75,.mpt 0 0 0)] 1 (zeo ⟨(pb y (ixM ti y ti y y y y O w)),pe,pe,pe,pe,pe,pe,pe,t⟩ ⟨(fun _ _=>⟨_,y,y,zCm (c':=c.1) ti y y (zl O).2.2 y y y y y<|⟨.any,[],[],y,y,kz,t,zh3 ⟨[.old 0,.dead,.old 2,.old 4],cn,y,⟨⟨_,y,ziT (zAL y (by exact ⟨zB1 (by simp) y,.msl y,ci y,t⟩))⟩,⟨_,y,zkb (fun _=>y)⟩,⟨_,y,zkb (fun _=>y)⟩,t⟩,y,k⟩⟩⟩),t⟩) ?_
      obtain rfl:=sm h
      exact ⟨_,y,zz [.old 0,.dead,.dead,.old 3,.old 2]⟩
    ·
     replace h:=bF s h
     refine rg y<|u<|eql ti y y<|u<|asg y<|zb ?_
     refine ze y (fun x=>?_) (fun x=>?_)
     ·
      replace h:=bT x h
      obtain ⟨I,Z,h⟩:=bs h
      refine rl y<|u<|mv y<|u<|sx [0,1,2] (zaN d e f g a n m Z)<|zx (env0:=[]) (st0:=[some (15,[(vK d e f g (.msl 1 0 (length a)) (.msl 2 0 (length I.2.1)) (bA I.2.2))]),some (1,map zf a),some (1,map zf I.2.1)]) (zo [.old 0,.old 1,.old 2])<|zb ?_
      obtain rfl:=sm h
      exact ⟨_,y,zz [.old 0,.dead,.dead,.old 1,.old 2]⟩
     ·
      replace h:=bF x h
      refine rg y<|u<|eql ti y y<|u<|asg y<|zb ?_
      refine ze y (fun B=>?_) (fun B=>?_)
      ·
       replace h:=bT B h
       obtain ⟨j,q19,h⟩:=bs h
       refine rg y<|u<|mv y<|u<|sx [0,1,2] (zaN d e f g a n m q19)<|zx (env0:=[(0,.mpt 0 0 0),(90,sA j.1)]) (st0:=[some (15,[(vK d e f g (.msl 1 0 (length a)) (.msl 2 0 (length j.2.1)) (bA j.2.2))]),some (1,map zf a),some (1,map zf j.2.1)]) (zo [.old 0,.old 1,.old 2])<|u<|asg y<|zb ?_
       obtain ⟨J,q20,h⟩:=bs h
       refine rg y<|u<|mv y<|u<|mv y<|u<|sx [0,1,2] (zA d e f g a j.2.1 j.2.2 j.1 q20)<|zx (env0:=[(0,.mpt 0 0 0),(5,sA j.1)]) (st0:=[some (15,[(vK d e f g (.msl 1 0 (length a)) (.msl 3 0 (length J)) (bA j.2.2))]),some (1,map zf a),none,some (1,map zf J)]) (zo [.old 0,.old 1,.dead,.old 3])<|zb ?_
       obtain ⟨P,q21,h⟩:=bs h
       refine rl y<|u<|mv y<|u<|mv y<|u<|sx [0,1,3] (zA d e f g a J j.2.2 j.1 q21)<|zx (env0:=[]) (st0:=[some (15,[(vK d e f g (.msl 1 0 (length a)) (.msl 3 0 (length P)) (bA j.2.2))]),some (1,map zf a),none,some (1,map zf P)]) (zo [.old 0,.old 1,.dead,.old 4])<|zb ?_
       obtain rfl:=sm h
       exact ⟨_,y,zz [.old 0,.dead,.dead,.old 1,.old 3]⟩
      ·
       replace h:=bF B h
       refine rg y<|u<|eql ti y y<|u<|asg y<|zb ?_
       refine ze y (fun C=>?_) (fun C=>?_)
       ·
        replace h:=bT C h
        obtain ⟨o,q23,h⟩:=bs h
        obtain ⟨l,q24,h⟩:=bs h
        refine rg y<|u<|mv y<|u<|sx [0,1,2] (zaN d e f g a n m q23)<|zx (env0:=[(0,.mpt 0 0 0),(100,sA o.1)]) (st0:=[some (15,[(vK d e f g (.msl 1 0 (length a)) (.msl 2 0 (length o.2.1)) (bA o.2.2))]),some (1,map zf a),some (1,map zf o.2.1)]) (zo [.old 0,.old 1,.old 2])<|u<|mv y<|u<|sx [0,1,2] (zaN d e f g a o.2.1 o.2.2 q24)<|zx (env0:=[(0,.mpt 0 0 0),(100,sA o.1),(102,sA l.1)]) (st0:=[some (15,[(vK d e f g (.msl 1 0 (length a)) (.msl 2 0 (length l.2.1)) (bA l.2.2))]),some (1,map zf a),some (1,map zf l.2.1)]) (zo [.old 0,.old 1,.old 2])<|u<|asg y<|u<|asg y<|zb ?_
        obtain ⟨K,q25,h⟩:=bs h
        refine rg y<|u<|mv y<|u<|mv y<|u<|sx [0,1,2] (zA d e f g a l.2.1 l.2.2 o.1 q25)<|zx (env0:=[(0,.mpt 0 0 0),(7,sA l.1)]) (st0:=[some (15,[(vK d e f g (.msl 1 0 (length a)) (.msl 3 0 (length K)) (bA l.2.2))]),some (1,map zf a),none,some (1,map zf K)]) (zo [.old 0,.old 1,.dead,.old 3])<|zb ?_
        obtain ⟨Q,q26,h⟩:=bs h
        refine rl y<|u<|mv y<|u<|mv y<|u<|sx [0,1,3] (zA d e f g a K l.2.2 l.1 q26)<|zx (env0:=[]) (st0:=[some (15,[(vK d e f g (.msl 1 0 (length a)) (.msl 3 0 (length Q)) (bA l.2.2))]),some (1,map zf a),none,some (1,map zf Q)]) (zo [.old 0,.old 1,.dead,.old 4])<|zb ?_
        obtain rfl:=sm h
        exact ⟨_,y,zz [.old 0,.dead,.dead,.old 1,.old 3]⟩
       ·
        replace h:=bF C h
        refine zg ?_
        obtain rfl:=sm h
        exact ⟨_,y,zz [.old 0,.dead,.dead,.old 1,.old 2]⟩
def zfM(a:T1)(b:Bool):Option (T1×Bool):=
  some (a,b)
def zaq(e:List za)(f:T2)(i:T0)(j:zc)(l:T1)(m:T1)(c:T1)(d:Bool)(a:Int):Option (Sum (T1×Bool×Int) (Sum (T1×Bool) (T1×Bool))):=
  cond (decide (0≤a)) ((idx m a).bind fun g=>(zag e f i j l c d).bind fun b=>(zeF e f b.1 g).bind fun h=>some (.inl (b.2.1,(b.2.2||(!h)),(IntKind.i64.wrap (a-1))))) (some (.inr (.inl (c,d))))
def zH(c:List za)(d:T2)(e:T0)(f:zc)(g:T1)(h:T1)(i:Bool)(a:T1):Option (T1×Bool):=
  (zw (fun z=>zaq c d e f g a z.1 z.2.1 z.2.2) (h,i,(IntKind.i64.wrap ((length a:Int)-1)))).bind fun o=>zU o (fun b=>zfM b.1 b.2) some
theorem zI(d:List za)(e:T2)(f:T0)(g:zc)(a:T1)(v:T1)(A:Bool)(i:T1){r:T1×Bool}(h:zH d e f g a v A i=some r):SC Tryz.prog 141 [.mpt 0 0 0,.isl 1 (map zf i)] [.one 15 (vK d e f g (.msl 1 0 (length a)) (.msl 2 0 (length v)) (bA A)),.many 1 (map zf a),.many 1 (map zf v)] (.tup []) [.one 15 (vK d e f g (.msl 1 0 (length a)) (.msl 2 0 (length r.1)) (bA r.2)),.many 1 (map zf a),.many 1 (map zf r.1)]:=by
 refine ⟨⟨t,zh0 (sz:=1) (fun _=>y),zh0 (sz:=1) (fun _=>y),t⟩,zV Tryz.func141 y kz y ?_⟩
 unfold zH at h
 refine rg y<|u<|mv y<|u<|lnI ti y y<|u<|sub ti y y<|u<|asg y<|zb ?_
 obtain ⟨o,ho,h⟩:=bs h
 refine zY (X:=T1×Bool×Int) (B:=T1×Bool) (R:=T1×Bool) (fun z=>[(0,.mpt 0 0 0),(1,.isl 1 (map zf i)),(4,iA z.2.2)]) (fun z=>[some (15,[(vK d e f g (.msl 1 0 (length a)) (.msl 2 0 (length z.1)) (bA z.2.1))]),some (1,map zf a),some (1,map zf z.1)]) (fun b=>[]) (fun b=>[some (15,[(vK d e f g (.msl 1 0 (length a)) (.msl 2 0 (length b.1)) (bA b.2))]),some (1,map zf a),some (1,map zf b.1)]) (fun r env st=>zaO Tryz.prog Tryz.f141 3 (.tup []) [some (15,[(vK d e f g (.msl 1 0 (length a)) (.msl 2 0 (length r.1)) (bA r.2))]),some (1,map zf a),some (1,map zf r.1)] env st) ho (zo [.old 0,.old 1,.old 2]) ?_ ?_ ?_
 ·
  rintro ⟨p,q,j⟩ r h
  replace h:zaq d e f g a i p q j=some r:=h
  unfold zaq at h
  refine zi ?_
  refine rg y<|u<|mv y<|u<|geq ti y y<|zb ?_
  refine ze y (fun m=>?_) (fun m=>?_)
  ·
   replace h:=bT m h
   refine zg ?_
   refine zi ?_
   refine zs ?_
   obtain ⟨s,l,h⟩:=bs h
   obtain ⟨c,E,h⟩:=bs h
   obtain ⟨n,F,h⟩:=bs h
   refine zjw [(0,.mpt 0 0 0),(1,.isl 1 (map zf i)),(4,iA j)] [some (15,[(vK d e f g (.msl 1 0 (length a)) (.msl 2 0 (length c.2.1)) (bA (c.2.2||(!n))))]),some (1,map zf a),some (1,map zf c.2.1)] [6,12] [10,9,8,7,5,4,3,2,1,0] [(22,sA s),(21,.ipt 1 (map zf i) (Int.toNat j) 0),(20,iA j),(19,.isl 1 (map zf i)),(17,.mpt 0 0 0),(16,.ipt 2 [[.isl 6 (map zd d),.imp (map (rKV (fun x=>iA x)) e)]] 0 0),(15,.mpt 0 0 0),(14,.mpt 0 0 0),(13,.mpt 0 0 0),(12,.mpt 0 0 0)] 2 (zeo ⟨(pb y (ldI ti y (zl l).2.2 y w)),(pb y (ixI ti y ti y y y l w)),pe,pe,pe,pe,pe,pe,pe,pe,t⟩ ⟨(fun _ _=>⟨_,y,y,sx [0,1,2] (zaN d e f g a p q E)<|⟨(sA c.1),[11],[(23,bA n),(18,sA c.1)],y,y,kz,y,zeo ⟨(pb y (pc (zaS d e c.1 s F) y y y w)),(pb y (ldI ti y (zl l).2.2 y w)),(pb y (ixI ti y ti y y y l w)),pe,pe,pe,pe,pe,pe,pe,pe,t⟩ ⟨nv,(fun _ _=>⟨_,y,y,sx [0,1,2] (zv d e f g a c.2.1 c.2.2 n y)<|⟨(.tup []),[],[(24,.tup [])],y,y,kz,y,zhA ⟨pe,(pb y (ldI ti y (zl l).2.2 y w)),(pb y (ixI ti y ti y y y l w)),pe,pe,pe,pe,pe,pe,pe,pe,t⟩ (zo [.old 0,.old 1,.old 2])⟩⟩),t⟩⟩⟩),nw,t⟩) ?_
   refine rl y<|u<|mv y<|u<|sub ti y y<|u<|asg y<|zb ?_
   obtain rfl:=sm h
   exact ⟨_,y,zo [.old 0,.old 1,.old 2]⟩
  ·
   replace h:=bF m h
   refine zE ?_
   obtain rfl:=sm h
   exact ⟨y,_,y,zo [.old 0,.old 1,.old 2]⟩
 ·
  rintro ⟨C,D⟩ rfl
  replace h:zfM C D=some r:=h
  unfold zfM at h
  refine zy ?_
  obtain rfl:=sm h
  exact ⟨_,y,zz [.old 0,.old 1,.old 2]⟩
 ·
  rintro r' rfl env st hp
  obtain rfl:=sm h
  exact hp
def zb1(c:List za)(d:T2)(e:T0)(f:zc)(g:T1)(h:T1)(i:Bool):Option (T0×T1×Bool):=
  (zag c d e f g h i).bind fun a=>(cond (a.1 == [78]) (some true) ((zjt a.1).bind fun j=>some j)).bind fun b=>some (a.1,a.2.1,(a.2.2||(!b)))
theorem zdM(c:List za)(d:T2)(e:T0)(f:zc)(a:T1)(n:T1)(o:Bool){r:T0×T1×Bool}(h:zb1 c d e f a n o=some r):SC Tryz.prog 143 [.mpt 0 0 0] [.one 15 (vK c d e f (.msl 1 0 (length a)) (.msl 2 0 (length n)) (bA o)),.many 1 (map zf a),.many 1 (map zf n)] (sA r.1) [.one 15 (vK c d e f (.msl 1 0 (length a)) (.msl 2 0 (length r.2.1)) (bA r.2.2)),.many 1 (map zf a),.many 1 (map zf r.2.1)]:=by
 refine ⟨⟨t,zh0 (sz:=1) (fun _=>y),zh0 (sz:=1) (fun _=>y),t⟩,zV Tryz.func143 y kz y ?_⟩
 unfold zb1 at h
 refine rg y<|u<|asg y<|zb ?_
 obtain ⟨b,p,h⟩:=bs h
 refine rg y<|u<|mv y<|u<|sx [0,1,2] (zaN c d e f a n o p)<|zx (env0:=[(0,.mpt 0 0 0),(5,sA b.1)]) (st0:=[some (15,[(vK c d e f (.msl 1 0 (length a)) (.msl 2 0 (length b.2.1)) (bA b.2.2))]),some (1,map zf a),some (1,map zf b.2.1)]) (zo [.old 0,.old 1,.old 2])<|u<|asg y<|zb ?_
 obtain ⟨l,i,h⟩:=bs h
 refine rg y<|u<|mv y<|u<|mv y<|u<|seq ti y y<|u<|mv y<|zcU (x:=l) (j:=3) 2 y y y y y gpn (fun m=>by replace i:=bF m i;obtain ⟨s,q,i⟩:=bs i;obtain rfl:=sm i;exact g y m<|mv y<|g y m<|pc (zkC b.1 q) y y y<|zb (eg [10,11] 2 y y y y)) (fun hb=>(sm (bT hb i)).symm)<|u<|sx [0,1,2] (zv c d e f a b.2.1 b.2.2 l y)<|zx (env0:=[(3,sA b.1)]) (st0:=[some (15,[(vK c d e f (.msl 1 0 (length a)) (.msl 2 0 (length b.2.1)) (bA (b.2.2||(!l))))]),some (1,map zf a),some (1,map zf b.2.1)]) (zo [.old 0,.old 1,.old 2])<|zb ?_
 refine rg y<|u<|mv y<|u<|asg y<|zb ?_
 refine zj ?_
 obtain rfl:=sm h
 exact ⟨_,y,zz [.old 0,.old 1,.old 2]⟩
def ziD:Option (T0×zt×Bool):=
  some ([],(zt.mk [] [] false),false)
def zdb(g:List za)(h:T2)(i:T0)(e:T1)(a:Int):Option (Sum (Int) (Sum (Unit) (T0×zt×Bool))):=
  cond (decide (a<((length e):Int))) ((idx e a).bind fun b=>(zaQ g h b).bind fun c=>(zi1 c.1 i).bind fun d=>cond (decide (0≤d)) ((idx c.1.Fields d).bind fun f=>some (.inr (.inr (b,f,true)))) (some (.inl (IntKind.i64.wrap (a+1))))) (some (.inr (.inl ())))
def zhK(a:List za)(c:T2)(d:T0)(e:T0):Option (T0×zt×Bool):=
  (zbz a c d).bind fun f=>(zw (fun z=>zdb a c e f z) 0).bind fun o=>zU o (fun b=>ziD) some
theorem zk1(a:List za)(c:T2)(p:T0)(f:T0){r:T0×zt×Bool}(h:zhK a c p f=some r):zG Tryz.prog 162 [.ipt 2 [[.isl 6 (map zd a),.imp (map (rKV (fun x=>iA x)) c)]] 0 0,sA p,sA f] (.tup [sA r.1,.agg (zJ r.2.1),bA r.2.2]):=by
 refine zr Tryz.func162 y kz y y ?_
 unfold zhK at h
 refine rg y<|u<|asg y<|u<|al 0 ti y<|u<|asg y<|zb ?_
 refine zi ?_
 obtain ⟨g,C,h⟩:=bs h
 refine rg y<|u<|mv y<|u<|mv y<|u<|sx [] (zdk a c p C)<|zx (env0:=[(0,.ipt 2 [[.isl 6 (map zd a),.imp (map (rKV (fun x=>iA x)) c)]] 0 0),(2,sA f),(7,.mpt 0 0 0),(16,.msl 1 0 (length g))]) (st0:=[some (3,[[sA [],sA [],bA false]]),some (1,map zf g)]) (zo [.old 0,.old 1])<|u<|lnM ti y y y<|u<|mv y<|zb ?_
 obtain ⟨o,ho,h⟩:=bs h
 refine zY (X:=Int) (B:=Unit) (R:=T0×zt×Bool) (fun z=>[(0,.ipt 2 [[.isl 6 (map zd a),.imp (map (rKV (fun x=>iA x)) c)]] 0 0),(2,sA f),(7,.mpt 0 0 0),(16,.msl 1 0 (length g)),(17,iA ((length g):Int)),(18,iA z)]) (fun z=>[some (3,[[sA [],sA [],bA false]]),some (1,map zf g)]) (fun b=>[(7,.mpt 0 0 0)]) (fun b=>[some (3,[[sA [],sA [],bA false]])]) (fun r env st=>zaO Tryz.prog Tryz.f162 0 (.tup [sA r.1,.agg (zJ r.2.1),bA r.2.2]) [] env st) ho (zo [.old 0,.old 1]) ?_ ?_ ?_
 ·
  rintro q r h
  replace h:zdb a c f g q=some r:=h
  unfold zdb at h
  refine rg y<|u<|lss ti y y<|zb ?_
  refine zi ?_
  refine ze y (fun i=>?_) (fun i=>?_)
  ·
   replace h:=bT i h
   refine zg ?_
   refine zi ?_
   refine zs ?_
   obtain ⟨e,s,h⟩:=bs h
   refine rg y<|u<|ixM ti y ti y y y y s<|u<|ldM ti y y (zl s).2.2 y<|u<|asg y<|zb ?_
   obtain ⟨j,v,h⟩:=bs h
   refine rg y<|u<|mv y<|u<|mv y<|u<|pc (zbw a c e v) y y y<|u<|mv y<|u<|ex y y<|u<|ex y y<|u<|al 2 ti y<|u<|sto ti y y y<|u<|asg y<|zb ?_
   obtain ⟨l,A,h⟩:=bs h
   refine rg y<|u<|ld ti y y<|u<|mv y<|u<|pc (zp9 j.1 f A) y y y<|u<|asg y<|zb ?_
   refine rg y<|u<|mv y<|u<|geq ti y y<|zb ?_
   refine ze y (fun d=>?_) (fun d=>?_)
   ·
    replace h:=bT d h
    obtain ⟨m,n,h⟩:=bs h
    refine rdA [(6,sA e),(7,.mpt 0 0 0),(8,bA true)] [some (3,[(zJ m)])] [7] [6,5,4,3,2,1,0] [(6,sA e),(38,.agg (zJ m)),(37,.ipt 3 (map zJ j.1.Fields) (Int.toNat l) 0),(36,iA l),(35,.isl 3 (map zJ j.1.Fields)),(34,.mpt 2 0 4),(33,sA e)] 1 (zeo ⟨pe,(pb y (ldI ti y (zl n).2.2 y w)),(pb y (ixI ti y ti y y y n w)),pe,pe,pe,pe,t⟩ ⟨(fun _ _=>⟨_,y,y,sto ti y y y<|⟨.any,[8],[(8,bA true)],y,y,kz,t,zh3 (zo [.old 0])⟩⟩),t⟩) ?_
    refine zj ?_
    obtain rfl:=sm h
    exact ⟨_,y,_,y,zz []⟩
   ·
    replace h:=bF d h
    refine zg ?_
    refine rl y<|u<|add ti y y<|u<|mv y<|zb ?_
    obtain rfl:=sm h
    exact ⟨_,y,zo [.old 0,.old 1]⟩
  ·
   replace h:=bF i h
   refine zE ?_
   obtain rfl:=sm h
   exact ⟨y,_,y,zo [.old 0]⟩
 ·
  rintro ⟨⟩ rfl
  replace h:ziD=some r:=h
  unfold ziD at h
  refine zy ?_
  refine rg y<|u<|bd ti y y y<|u<|asg y<|u<|sto ti y y y<|u<|asg y<|zb ?_
  refine zj ?_
  obtain rfl:=sm h
  exact ⟨_,y,zz []⟩
 ·
  rintro r' rfl env st hp
  obtain rfl:=sm h
  exact hp
def zc8(c:List za)(d:T2)(f:T0)(g:zc)(h:T1)(i:T1)(e:Bool)(b:zp):Option (T1×Bool):=
  cond (b.Op == (37:Int)) ((zaQ c d b.C).bind fun l=>(zB c d f g h i (e||(!(l.2&&(!l.1.Interface)))) b.C).bind fun o=>some (o,(e||(!(l.2&&(!l.1.Interface)))))) ((zhK c d b.C b.M).bind fun a=>cond (b.Op == (38:Int)) ((zH c d f g h i (e||(!(a.2.2&&(a.2.1.Static == ((b.Op == (40:Int))||(b.Op == (41:Int))))))) [b.C]).bind fun j=>(zB c d f g h j.1 j.2 a.2.1.Type_).bind fun p=>some (p,j.2)) (cond (b.Op == (39:Int)) ((zH c d f g h i (e||(!(a.2.2&&(a.2.1.Static == ((b.Op == (40:Int))||(b.Op == (41:Int))))))) [b.C,a.2.1.Type_]).bind fun m=>some (m.1,m.2)) (cond (b.Op == (40:Int)) ((zB c d f g h i (e||(!(a.2.2&&(a.2.1.Static == ((b.Op == (40:Int))||(b.Op == (41:Int))))))) a.2.1.Type_).bind fun q=>some (q,(e||(!(a.2.2&&(a.2.1.Static == ((b.Op == (40:Int))||(b.Op == (41:Int))))))))) ((zH c d f g h i (e||(!(a.2.2&&(a.2.1.Static == ((b.Op == (40:Int))||(b.Op == (41:Int))))))) [a.2.1.Type_]).bind fun n=>some (n.1,n.2)))))
theorem zkY(d:List za)(e:T2)(f:T0)(i:zc)(c:T1)(l:T1)(m:Bool)(b:zp){r:T1×Bool}(h:zc8 d e f i c l m b=some r):SC Tryz.prog 144 [.mpt 0 0 0,.agg (zu b)] [.one 15 (vK d e f i (.msl 1 0 (length c)) (.msl 2 0 (length l)) (bA m)),.many 1 (map zf c),.many 1 (map zf l)] (.tup []) [.one 15 (vK d e f i (.msl 1 0 (length c)) (.msl 3 0 (length r.1)) (bA r.2)),.many 1 (map zf c),.no,.many 1 (map zf r.1)]:=by
 refine ⟨⟨t,zh0 (sz:=1) (fun _=>y),t,zh0 (sz:=1) (fun _=>y),t⟩,zV Tryz.func144 y kz y ?_⟩
 unfold zc8 at h
 refine rg y<|u<|bx 3 4 y y y y<|zb ?_
 refine zi ?_
 refine rg y<|u<|fa ti y y y<|u<|ld ti y y<|u<|eql ti y y<|zb ?_
 refine ze y (fun A=>?_) (fun A=>?_)
 ·
  replace h:=bT A h
  obtain ⟨n,I,h⟩:=bs h
  refine rdA [(0,.mpt 0 0 0),(3,.mpt 3 0 0),(4,.mpt 4 0 0),(5,bA n.2)] [some (15,[(vK d e f i (.msl 1 0 (length c)) (.msl 2 0 (length l)) (bA m))]),some (1,map zf c),some (1,map zf l),some (4,[(zu b)]),some (6,[(zd n.1)])] [10,11] [9,8,7,6,5,4,3,2,1,0] [(21,bA n.2),(20,.agg (zd n.1)),(12,.tup [.agg (zd n.1),bA n.2]),(19,.tup [.agg (zd n.1),bA n.2]),(18,sA b.C),(17,.mpt 3 0 2),(16,.ipt 2 [[.isl 6 (map zd d),.imp (map (rKV (fun x=>iA x)) e)]] 0 0),(15,.mpt 0 0 0),(14,.mpt 0 0 0),(13,.mpt 0 0 0)] 2 (zeo ⟨pe,pe,pe,(pb y (pc (zbw d e b.C I) y y y w)),pe,pe,pe,pe,pe,pe,t⟩ ⟨(fun _ _=>⟨_,y,y,al 4 ti y<|⟨(.mpt 4 0 0),[],[(4,.mpt 4 0 0)],y,y,kz,y,zeo ⟨pe,pe,pe,(pb y (pc (zbw d e b.C I) y y y w)),pe,pe,pe,pe,pe,pe,t⟩ ⟨nv,(fun _ _=>⟨_,y,y,sto ti y y y<|⟨.any,[12],[(5,bA n.2)],y,y,kz,t,zh3 (zo [.old 0,.old 1,.old 2,.old 3,.old 4])⟩⟩),t⟩⟩⟩),nw,t⟩) ?_
  refine rg y<|u<|mv y<|u<|mv y<|u<|mv y<|z7 (j:=2) 3 y y y y y gpn (fun v=>g y v<|fa ti y y y<|g y v<|ld ti y y<|g y v<|nt y<|zb (egA [25,26,27] 3 v y y y y)) ze3<|u<|sx [0,1,2] (zv d e f i c l m (n.2&&(!n.1.Interface)) y)<|zx (env0:=[(0,.mpt 0 0 0),(3,.mpt 3 0 0)]) (st0:=[some (15,[(vK d e f i (.msl 1 0 (length c)) (.msl 2 0 (length l)) (bA (m||(!(n.2&&(!n.1.Interface))))))]),some (1,map zf c),some (1,map zf l),some (4,[(zu b)])]) (zo [.old 0,.old 1,.old 2,.old 3])<|zb ?_
  obtain ⟨F,P,h⟩:=bs h
  refine rg y<|u<|mv y<|u<|fa ti y y y<|u<|ld ti y y<|u<|sx [0,1,2] (zA d e f i c l (m||(!(n.2&&(!n.1.Interface)))) b.C P)<|zx (env0:=[]) (st0:=[some (15,[(vK d e f i (.msl 1 0 (length c)) (.msl 3 0 (length F)) (bA (m||(!(n.2&&(!n.1.Interface))))))]),some (1,map zf c),none,some (1,map zf F)]) (zo [.old 0,.old 1,.dead,.old 4])<|zb ?_
  refine zj ?_
  obtain rfl:=sm h
  exact ⟨_,y,zz [.old 0,.old 1,.dead,.old 3]⟩
 ·
  replace h:=bF A h
  refine zg ?_
  obtain ⟨a,J,h⟩:=bs h
  refine rdA [(0,.mpt 0 0 0),(3,.mpt 3 0 0),(7,.mpt 4 0 0),(8,bA a.2.2)] [some (15,[(vK d e f i (.msl 1 0 (length c)) (.msl 2 0 (length l)) (bA m))]),some (1,map zf c),some (1,map zf l),some (4,[(zu b)]),some (3,[(zJ a.2.1)])] [13,15] [12,11,10,9,8,7,6,5,4,3,2,1,0] [(46,bA a.2.2),(45,.agg (zJ a.2.1)),(44,sA a.1),(34,.tup [sA a.1,.agg (zJ a.2.1),bA a.2.2]),(43,.tup [sA a.1,.agg (zJ a.2.1),bA a.2.2]),(42,sA b.M),(41,.mpt 3 0 3),(40,sA b.C),(39,.mpt 3 0 2),(38,.ipt 2 [[.isl 6 (map zd d),.imp (map (rKV (fun x=>iA x)) e)]] 0 0),(37,.mpt 0 0 0),(36,.mpt 0 0 0),(35,.mpt 0 0 0)] 2 (zeo ⟨pe,pe,pe,pe,(pb y (pc (zk1 d e b.C b.M J) y y y w)),pe,pe,pe,pe,pe,pe,pe,pe,t⟩ ⟨(fun _ _=>⟨_,y,y,al 4 ti y<|⟨(.mpt 4 0 0),[14],[(6,sA a.1),(7,.mpt 4 0 0)],y,y,kz,y,zeo ⟨pe,pe,pe,pe,pe,(pb y (pc (zk1 d e b.C b.M J) y y y w)),pe,pe,pe,pe,pe,pe,pe,pe,t⟩ ⟨nv,(fun _ _=>⟨_,y,y,sto ti y y y<|⟨.any,[16],[(8,bA a.2.2)],y,y,kz,t,zh3 (zo [.old 0,.old 1,.old 2,.old 3,.old 4])⟩⟩),t⟩⟩⟩),nw,t⟩) ?_
  refine rg y<|u<|mv y<|u<|mv y<|u<|mv y<|z7 (j:=2) 11 y y y y y gpn (fun o=>g y o<|fa ti y y y<|g y o<|ld ti y y<|g y o<|fa ti y y y<|g y o<|ld ti y y<|g y o<|eql ti y y<|g y o<|mv y<|zcU (j:=8) 3 y y y y y (gps y y o) (fun z=>g y z<|fa ti y y y<|g y z<|ld ti y y<|g y z<|eql ti y y<|zb (egO [56,57,58] 3 z y y y y)) orT<|g y o<|beq ti y y y<|zb (egA [50,51,52,53,54,55,56,57,58,59,60] 8 o y y y y)) ze3<|u<|sx [0,1,2] (zv d e f i c l m (a.2.2&&(a.2.1.Static == ((b.Op == (40:Int))||(b.Op == (41:Int))))) y)<|zx (env0:=[(0,.mpt 0 0 0),(3,.mpt 3 0 0),(7,.mpt 4 0 0)]) (st0:=[some (15,[(vK d e f i (.msl 1 0 (length c)) (.msl 2 0 (length l)) (bA (m||(!(a.2.2&&(a.2.1.Static == ((b.Op == (40:Int))||(b.Op == (41:Int)))))))))]),some (1,map zf c),some (1,map zf l),some (4,[(zu b)]),some (3,[(zJ a.2.1)])]) (zo [.old 0,.old 1,.old 2,.old 3,.old 4])<|zb ?_
  refine rg y<|u<|fa ti y y y<|u<|ld ti y y<|zb ?_
  refine zs ?_
  refine rg y<|u<|eql ti y y<|u<|asg y<|zb ?_
  refine ze y (fun B=>?_) (fun B=>?_)
  ·
   replace h:=bT B h
   obtain ⟨p,Q,h⟩:=bs h
   refine rg y<|u<|mv y<|u<|fa ti y y y<|u<|ld ti y y<|u<|bl 5 ti y ti y (by decide) (by decide) y y y<|zx (env0:=[(0,.mpt 0 0 0),(7,.mpt 3 0 0),(72,.mpt 0 0 0),(75,.isl 1 (map zf [b.C]))]) (st0:=[some (15,[(vK d e f i (.msl 1 0 (length c)) (.msl 2 0 (length l)) (bA (m||(!(a.2.2&&(a.2.1.Static == ((b.Op == (40:Int))||(b.Op == (41:Int)))))))))]),some (1,map zf c),some (1,map zf l),some (3,[(zJ a.2.1)])]) (zo [.old 0,.old 1,.old 2,.old 4])<|u<|sx [0,1,2] (zI d e f i c l (m||(!(a.2.2&&(a.2.1.Static == ((b.Op == (40:Int))||(b.Op == (41:Int))))))) [b.C] Q)<|zx (env0:=[(0,.mpt 0 0 0),(7,.mpt 3 0 0)]) (st0:=[some (15,[(vK d e f i (.msl 1 0 (length c)) (.msl 2 0 (length p.1)) (bA p.2))]),some (1,map zf c),some (1,map zf p.1),some (3,[(zJ a.2.1)])]) (zo [.old 0,.old 1,.old 2,.old 3])<|zb ?_
   obtain ⟨G,K,h⟩:=bs h
   refine rl y<|u<|mv y<|u<|fa ti y y y<|u<|ld ti y y<|u<|sx [0,1,2] (zA d e f i c p.1 p.2 a.2.1.Type_ K)<|zx (env0:=[]) (st0:=[some (15,[(vK d e f i (.msl 1 0 (length c)) (.msl 3 0 (length G)) (bA p.2))]),some (1,map zf c),none,some (1,map zf G)]) (zo [.old 0,.old 1,.dead,.old 4])<|zb ?_
   obtain rfl:=sm h
   exact ⟨_,y,zz [.old 0,.old 1,.dead,.old 3]⟩
  ·
   replace h:=bF B h
   refine rg y<|u<|eql ti y y<|u<|asg y<|zb ?_
   refine ze y (fun q=>?_) (fun q=>?_)
   ·
    replace h:=bT q h
    obtain ⟨D,L,h⟩:=bs h
    refine rl y<|u<|mv y<|u<|fa ti y y y<|u<|ld ti y y<|u<|fa ti y y y<|u<|ld ti y y<|u<|bl 5 ti y ti y (by decide) (by decide) y y y<|zx (env0:=[(83,.mpt 0 0 0),(88,.isl 1 (map zf [b.C,a.2.1.Type_]))]) (st0:=[some (15,[(vK d e f i (.msl 1 0 (length c)) (.msl 2 0 (length l)) (bA (m||(!(a.2.2&&(a.2.1.Static == ((b.Op == (40:Int))||(b.Op == (41:Int)))))))))]),some (1,map zf c),some (1,map zf l)]) (zo [.old 0,.old 1,.old 2])<|u<|sx [0,1,2] (zI d e f i c l (m||(!(a.2.2&&(a.2.1.Static == ((b.Op == (40:Int))||(b.Op == (41:Int))))))) [b.C,a.2.1.Type_] L)<|zx (env0:=[]) (st0:=[some (15,[(vK d e f i (.msl 1 0 (length c)) (.msl 2 0 (length D.1)) (bA D.2))]),some (1,map zf c),some (1,map zf D.1)]) (zo [.old 0,.old 1,.old 2])<|zb ?_
    obtain rfl:=sm h
    exact ⟨_,y,zz [.old 0,.old 1,.dead,.old 2]⟩
   ·
    replace h:=bF q h
    refine rg y<|u<|eql ti y y<|u<|asg y<|zb ?_
    refine ze y (fun s=>?_) (fun s=>?_)
    ·
     replace h:=bT s h
     obtain ⟨H,N,h⟩:=bs h
     refine rl y<|u<|mv y<|u<|fa ti y y y<|u<|ld ti y y<|u<|sx [0,1,2] (zA d e f i c l (m||(!(a.2.2&&(a.2.1.Static == ((b.Op == (40:Int))||(b.Op == (41:Int))))))) a.2.1.Type_ N)<|zx (env0:=[]) (st0:=[some (15,[(vK d e f i (.msl 1 0 (length c)) (.msl 3 0 (length H)) (bA (m||(!(a.2.2&&(a.2.1.Static == ((b.Op == (40:Int))||(b.Op == (41:Int)))))))))]),some (1,map zf c),none,some (1,map zf H)]) (zo [.old 0,.old 1,.dead,.old 5])<|zb ?_
     obtain rfl:=sm h
     exact ⟨_,y,zz [.old 0,.old 1,.dead,.old 3]⟩
    ·
     replace h:=bF s h
     obtain ⟨E,O,h⟩:=bs h
     refine rl y<|u<|mv y<|u<|fa ti y y y<|u<|ld ti y y<|u<|bl 5 ti y ti y (by decide) (by decide) y y y<|zx (env0:=[(65,.mpt 0 0 0),(68,.isl 1 (map zf [a.2.1.Type_]))]) (st0:=[some (15,[(vK d e f i (.msl 1 0 (length c)) (.msl 2 0 (length l)) (bA (m||(!(a.2.2&&(a.2.1.Static == ((b.Op == (40:Int))||(b.Op == (41:Int)))))))))]),some (1,map zf c),some (1,map zf l)]) (zo [.old 0,.old 1,.old 2])<|u<|sx [0,1,2] (zI d e f i c l (m||(!(a.2.2&&(a.2.1.Static == ((b.Op == (40:Int))||(b.Op == (41:Int))))))) [a.2.1.Type_] O)<|zx (env0:=[]) (st0:=[some (15,[(vK d e f i (.msl 1 0 (length c)) (.msl 2 0 (length E.1)) (bA E.2))]),some (1,map zf c),some (1,map zf E.1)]) (zo [.old 0,.old 1,.old 2])<|zb ?_
     obtain rfl:=sm h
     exact ⟨_,y,zz [.old 0,.old 1,.dead,.old 2]⟩
def zcA(a:zc):Bool:=
  (!(a.Name == [36,105,110,105,116]))
theorem zoT(a:zc){r:Bool}(h:zcA a=r):zG Tryz.prog 161 [.agg (zh a)] (bA r):=by
 refine zr Tryz.func161 y kz y y ?_
 unfold zcA at h
 refine rg y<|u<|bx 0 10 y y y y<|u<|asg y<|zb ?_
 refine rg y<|u<|fa ti y y y<|u<|ld ti y y<|u<|sne ti y y<|u<|asg y<|zb ?_
 refine zj ?_
 obtain rfl:=h
 exact ⟨_,y,zz []⟩
def zja:Option (T0×zc×Bool):=
  some ([],(zc.mk [] [] [] false false 0 0 [] [] []),false)
def zdE(i:List za)(j:T2)(e:T1)(l:T0)(a:Int):Option (Sum (Int) (Sum (Unit) (T0×zc×Bool))):=
  cond (decide (a<(length e:Int))) ((idx e a).bind fun d=>(zaQ i j d).bind fun b=>(zfR b.1 l).bind fun c=>(cond (decide (0≤c)) ((idx b.1.Methods c).bind fun f=>some (zcA f)) (some false)).bind fun g=>cond g ((idx b.1.Methods c).bind fun h=>some (.inr (.inr (d,h,true)))) (some (.inl (IntKind.i64.wrap (a+1))))) (some (.inr (.inl ())))
def ziu(a:List za)(c:T2)(d:T1)(e:T0):Option (T0×zc×Bool):=
  (zw (fun z=>zdE a c d e z) 0).bind fun o=>zU o (fun b=>zja) some
theorem zpB(i:List za)(l:T2)(m:T1)(n:T0){r:T0×zc×Bool}(h:ziu i l m n=some r):zG Tryz.prog 160 [.ipt 2 [[.isl 6 (map zd i),.imp (map (rKV (fun x=>iA x)) l)]] 0 0,.isl 1 (map zf m),sA n,.fn (.func 161) [] []] (.tup [sA r.1,.agg (zh r.2.1),bA r.2.2]):=by
 refine zr Tryz.func160 y kz y y ?_
 unfold ziu at h
 refine rg y<|u<|asg y<|u<|al 0 ti y<|u<|asg y<|zb ?_
 refine zi ?_
 refine rg y<|u<|mv y<|u<|lnI ti y y<|u<|mv y<|zb ?_
 obtain ⟨o,ho,h⟩:=bs h
 refine zY (X:=Int) (B:=Unit) (R:=T0×zc×Bool) (fun z=>[(0,.ipt 2 [[.isl 6 (map zd i),.imp (map (rKV (fun x=>iA x)) l)]] 0 0),(2,sA n),(3,.fn (.func 161) [] []),(9,.mpt 0 0 0),(16,.isl 1 (map zf m)),(17,iA (length m:Int)),(18,iA z)]) (fun z=>[some (10,[[sA [],.lit (.slice none 0 0),sA [],bA false,bA false,iA 0,iA 0,.lit (.slice none 0 0),.lit (.slice none 0 0),.lit (.slice none 0 0)]])]) (fun b=>[(9,.mpt 0 0 0)]) (fun b=>[some (10,[[sA [],.lit (.slice none 0 0),sA [],bA false,bA false,iA 0,iA 0,.lit (.slice none 0 0),.lit (.slice none 0 0),.lit (.slice none 0 0)]])]) (fun r env st=>zaO Tryz.prog Tryz.f160 0 (.tup [sA r.1,.agg (zh r.2.1),bA r.2.2]) [] env st) ho (zo [.old 0]) ?_ ?_ ?_
 ·
  rintro D r h
  replace h:zdE i l m n D=some r:=h
  unfold zdE at h
  refine rg y<|u<|lss ti y y<|zb ?_
  refine zi ?_
  refine ze y (fun d=>?_) (fun d=>?_)
  ·
   replace h:=bT d h
   refine zg ?_
   refine zi ?_
   refine zs ?_
   obtain ⟨f,q,h⟩:=bs h
   refine rg y<|u<|ixI ti y ti y y y q<|u<|ldI ti y (zl q).2.2 y<|u<|asg y<|zb ?_
   obtain ⟨p,E,h⟩:=bs h
   refine rg y<|u<|mv y<|u<|mv y<|u<|pc (zbw i l f E) y y y<|u<|mv y<|u<|ex y y<|u<|ex y y<|u<|al 1 ti y<|u<|sto ti y y y<|u<|asg y<|zb ?_
   obtain ⟨s,F,h⟩:=bs h
   refine rg y<|u<|ld ti y y<|u<|mv y<|u<|pc (zlk p.1 n F) y y y<|u<|asg y<|zb ?_
   obtain ⟨G,c,h⟩:=bs h
   refine rg y<|u<|mv y<|u<|geq ti y y<|u<|mv y<|z7 (x:=G) (j:=2) 7 y y y y y gpn (fun a=>by replace c:=bT a c;obtain ⟨H,v,c⟩:=bs c;obtain rfl:=sm c;exact g y a<|mv y<|g y a<|fa ti y y y<|g y a<|ld ti y y<|g y a<|mv y<|g y a<|ixI ti y ti y y y v<|g y a<|ldI ti y (zl v).2.2 y<|g y a<|pc (zoT H y) y y y<|zb (eg [34,35,36,37,38,39,40] 7 y y y y)) (fun hb=>(sm (bF hb c)).symm)<|zb ?_
   refine ze y (fun e=>?_) (fun e=>?_)
   ·
    replace h:=bT e h
    obtain ⟨A,C,h⟩:=bs h
    refine rdA [(8,sA f),(9,.mpt 0 0 0),(10,bA true)] [some (10,[(zh A)])] [7] [6,5,4,3,2,1,0] [(8,sA f),(47,.agg (zh A)),(46,.ipt 10 (map zh p.1.Methods) (Int.toNat s) 0),(45,iA s),(44,.isl 10 (map zh p.1.Methods)),(43,.mpt 1 0 5),(42,sA f)] 1 (zeo ⟨pe,(pb y (ldI ti y (zl C).2.2 y w)),(pb y (ixI ti y ti y y y C w)),pe,pe,pe,pe,t⟩ ⟨(fun _ _=>⟨_,y,y,sto ti y y y<|⟨.any,[8],[(10,bA true)],y,y,kz,t,zh3 (zo [.old 0])⟩⟩),t⟩) ?_
    refine zj ?_
    obtain rfl:=sm h
    exact ⟨_,y,_,y,zz []⟩
   ·
    replace h:=bF e h
    refine zg ?_
    refine rl y<|u<|add ti y y<|u<|mv y<|zb ?_
    obtain rfl:=sm h
    exact ⟨_,y,zo [.old 0]⟩
  ·
   replace h:=bF d h
   refine zE ?_
   obtain rfl:=sm h
   exact ⟨y,_,y,zo [.old 0]⟩
 ·
  rintro ⟨⟩ rfl
  replace h:zja=some r:=h
  unfold zja at h
  refine zy ?_
  refine rg y<|u<|bd ti y y y<|u<|asg y<|u<|sto ti y y y<|u<|asg y<|zb ?_
  refine zj ?_
  obtain rfl:=sm h
  exact ⟨_,y,zz []⟩
 ·
  rintro r' rfl env st hp
  obtain rfl:=sm h
  exact hp
def zgM(b:List za)(c:T2)(d:T0)(e:T0):Option (T0×zc×Bool):=
  (zbz b c d).bind fun f=>(ziu b c f e).bind fun a=>some (a.1,a.2.1,a.2.2)
theorem zjZ(a:List za)(b:T2)(e:T0)(c:T0){r:T0×zc×Bool}(h:zgM a b e c=some r):zG Tryz.prog 95 [.ipt 2 [[.isl 6 (map zd a),.imp (map (rKV (fun x=>iA x)) b)]] 0 0,sA e,sA c] (.tup [sA r.1,.agg (zh r.2.1),bA r.2.2]):=by
 refine zr Tryz.func95 y kz y y ?_
 unfold zgM at h
 refine rg y<|u<|asg y<|u<|al 0 ti y<|u<|asg y<|zb ?_
 obtain ⟨d,f,h⟩:=bs h
 obtain ⟨i,g,h⟩:=bs h
 refine rg y<|u<|mv y<|u<|mv y<|u<|mv y<|u<|sx [] (zdk a b e f)<|zx (env0:=[(2,sA c),(7,.mpt 0 0 0),(9,.ipt 2 [[.isl 6 (map zd a),.imp (map (rKV (fun x=>iA x)) b)]] 0 0),(12,.msl 1 0 (length d))]) (st0:=[some (10,[[sA [],.lit (.slice none 0 0),sA [],bA false,bA false,iA 0,iA 0,.lit (.slice none 0 0),.lit (.slice none 0 0),.lit (.slice none 0 0)]]),some (1,map zf d)]) (zo [.old 0,.old 1])<|u<|mv y<|zx (env0:=[(7,.mpt 0 0 0),(9,.ipt 2 [[.isl 6 (map zd a),.imp (map (rKV (fun x=>iA x)) b)]] 0 0),(12,.isl 1 (map zf d)),(13,sA c)]) (st0:=[some (10,[[sA [],.lit (.slice none 0 0),sA [],bA false,bA false,iA 0,iA 0,.lit (.slice none 0 0),.lit (.slice none 0 0),.lit (.slice none 0 0)]])]) (zo [.old 0])<|u<|pc (zpB a b d c g) y y y<|u<|ex y y<|u<|ex y y<|u<|ex y y<|u<|asg y<|u<|sto ti y y y<|u<|asg y<|zb ?_
 refine zj ?_
 obtain rfl:=sm h
 exact ⟨_,y,zz []⟩
def zfd(a:zc):Bool:=
  true
theorem zqn(a:zc){r:Bool}(h:zfd a=r):zG Tryz.prog 234 [.agg (zh a)] (bA r):=by
 refine zr Tryz.func234 y kz y y ?_
 unfold zfd at h
 refine rg y<|u<|bx 0 10 y y y y<|u<|asg y<|zb ?_
 refine rg y<|u<|asg y<|zb ?_
 refine zj ?_
 obtain rfl:=h
 exact ⟨_,y,zz []⟩
def zjb:Option (T0×zc×Bool):=
  some ([],(zc.mk [] [] [] false false 0 0 [] [] []),false)
def zdF(i:List za)(j:T2)(e:T1)(l:T0)(a:Int):Option (Sum (Int) (Sum (Unit) (T0×zc×Bool))):=
  cond (decide (a<(length e:Int))) ((idx e a).bind fun d=>(zaQ i j d).bind fun b=>(zfR b.1 l).bind fun c=>(cond (decide (0≤c)) ((idx b.1.Methods c).bind fun f=>some (zfd f)) (some false)).bind fun g=>cond g ((idx b.1.Methods c).bind fun h=>some (.inr (.inr (d,h,true)))) (some (.inl (IntKind.i64.wrap (a+1))))) (some (.inr (.inl ())))
def ziv(a:List za)(c:T2)(d:T1)(e:T0):Option (T0×zc×Bool):=
  (zw (fun z=>zdF a c d e z) 0).bind fun o=>zU o (fun b=>zjb) some
theorem zpC(i:List za)(l:T2)(m:T1)(n:T0){r:T0×zc×Bool}(h:ziv i l m n=some r):zG Tryz.prog 160 [.ipt 2 [[.isl 6 (map zd i),.imp (map (rKV (fun x=>iA x)) l)]] 0 0,.isl 1 (map zf m),sA n,.fn (.func 234) [] []] (.tup [sA r.1,.agg (zh r.2.1),bA r.2.2]):=by
 refine zr Tryz.func160 y kz y y ?_
 unfold ziv at h
 refine rg y<|u<|asg y<|u<|al 0 ti y<|u<|asg y<|zb ?_
 refine zi ?_
 refine rg y<|u<|mv y<|u<|lnI ti y y<|u<|mv y<|zb ?_
 obtain ⟨o,ho,h⟩:=bs h
 refine zY (X:=Int) (B:=Unit) (R:=T0×zc×Bool) (fun z=>[(0,.ipt 2 [[.isl 6 (map zd i),.imp (map (rKV (fun x=>iA x)) l)]] 0 0),(2,sA n),(3,.fn (.func 234) [] []),(9,.mpt 0 0 0),(16,.isl 1 (map zf m)),(17,iA (length m:Int)),(18,iA z)]) (fun z=>[some (10,[[sA [],.lit (.slice none 0 0),sA [],bA false,bA false,iA 0,iA 0,.lit (.slice none 0 0),.lit (.slice none 0 0),.lit (.slice none 0 0)]])]) (fun b=>[(9,.mpt 0 0 0)]) (fun b=>[some (10,[[sA [],.lit (.slice none 0 0),sA [],bA false,bA false,iA 0,iA 0,.lit (.slice none 0 0),.lit (.slice none 0 0),.lit (.slice none 0 0)]])]) (fun r env st=>zaO Tryz.prog Tryz.f160 0 (.tup [sA r.1,.agg (zh r.2.1),bA r.2.2]) [] env st) ho (zo [.old 0]) ?_ ?_ ?_
 ·
  rintro D r h
  replace h:zdF i l m n D=some r:=h
  unfold zdF at h
  refine rg y<|u<|lss ti y y<|zb ?_
  refine zi ?_
  refine ze y (fun d=>?_) (fun d=>?_)
  ·
   replace h:=bT d h
   refine zg ?_
   refine zi ?_
   refine zs ?_
   obtain ⟨f,q,h⟩:=bs h
   refine rg y<|u<|ixI ti y ti y y y q<|u<|ldI ti y (zl q).2.2 y<|u<|asg y<|zb ?_
   obtain ⟨p,E,h⟩:=bs h
   refine rg y<|u<|mv y<|u<|mv y<|u<|pc (zbw i l f E) y y y<|u<|mv y<|u<|ex y y<|u<|ex y y<|u<|al 1 ti y<|u<|sto ti y y y<|u<|asg y<|zb ?_
   obtain ⟨s,F,h⟩:=bs h
   refine rg y<|u<|ld ti y y<|u<|mv y<|u<|pc (zlk p.1 n F) y y y<|u<|asg y<|zb ?_
   obtain ⟨G,c,h⟩:=bs h
   refine rg y<|u<|mv y<|u<|geq ti y y<|u<|mv y<|z7 (x:=G) (j:=2) 7 y y y y y gpn (fun a=>by replace c:=bT a c;obtain ⟨H,v,c⟩:=bs c;obtain rfl:=sm c;exact g y a<|mv y<|g y a<|fa ti y y y<|g y a<|ld ti y y<|g y a<|mv y<|g y a<|ixI ti y ti y y y v<|g y a<|ldI ti y (zl v).2.2 y<|g y a<|pc (zqn H y) y y y<|zb (eg [34,35,36,37,38,39,40] 7 y y y y)) (fun hb=>(sm (bF hb c)).symm)<|zb ?_
   refine ze y (fun e=>?_) (fun e=>?_)
   ·
    replace h:=bT e h
    obtain ⟨A,C,h⟩:=bs h
    refine rdA [(8,sA f),(9,.mpt 0 0 0),(10,bA true)] [some (10,[(zh A)])] [7] [6,5,4,3,2,1,0] [(8,sA f),(47,.agg (zh A)),(46,.ipt 10 (map zh p.1.Methods) (Int.toNat s) 0),(45,iA s),(44,.isl 10 (map zh p.1.Methods)),(43,.mpt 1 0 5),(42,sA f)] 1 (zeo ⟨pe,(pb y (ldI ti y (zl C).2.2 y w)),(pb y (ixI ti y ti y y y C w)),pe,pe,pe,pe,t⟩ ⟨(fun _ _=>⟨_,y,y,sto ti y y y<|⟨.any,[8],[(10,bA true)],y,y,kz,t,zh3 (zo [.old 0])⟩⟩),t⟩) ?_
    refine zj ?_
    obtain rfl:=sm h
    exact ⟨_,y,_,y,zz []⟩
   ·
    replace h:=bF e h
    refine zg ?_
    refine rl y<|u<|add ti y y<|u<|mv y<|zb ?_
    obtain rfl:=sm h
    exact ⟨_,y,zo [.old 0]⟩
  ·
   replace h:=bF d h
   refine zE ?_
   obtain rfl:=sm h
   exact ⟨y,_,y,zo [.old 0]⟩
 ·
  rintro ⟨⟩ rfl
  replace h:zjb=some r:=h
  unfold zjb at h
  refine zy ?_
  refine rg y<|u<|bd ti y y y<|u<|asg y<|u<|sto ti y y y<|u<|asg y<|zb ?_
  refine zj ?_
  obtain rfl:=sm h
  exact ⟨_,y,zz []⟩
 ·
  rintro r' rfl env st hp
  obtain rfl:=sm h
  exact hp
def zit(a:List za)(b:T2)(c:T0)(e:T0):Option (T0×zc×Bool):=
  (zaQ a b c).bind fun f=>cond (!f.1.Interface) (some ([],(zc.mk [] [] [] false false 0 0 [] [] []),false)) ((zdN a b c).bind fun g=>(zh2 16 [c] g).bind fun h=>(ziv a b h e).bind fun d=>some (d.1,d.2.1,d.2.2))
theorem zpA(a:List za)(b:T2)(c:T0)(e:T0){r:T0×zc×Bool}(h:zit a b c e=some r):zG Tryz.prog 163 [.ipt 2 [[.isl 6 (map zd a),.imp (map (rKV (fun x=>iA x)) b)]] 0 0,sA c,sA e] (.tup [sA r.1,.agg (zh r.2.1),bA r.2.2]):=by
 refine zr Tryz.func163 y kz y y ?_
 unfold zit at h
 refine rg y<|u<|asg y<|u<|al 0 ti y<|u<|asg y<|zb ?_
 obtain ⟨o,i,h⟩:=bs h
 refine rg y<|u<|mv y<|u<|mv y<|u<|pc (zbw a b c i) y y y<|u<|mv y<|u<|ex y y<|u<|ex y y<|u<|al 1 ti y<|u<|sto ti y y y<|u<|asg y<|zb ?_
 refine zi ?_
 refine rg y<|u<|fa ti y y y<|u<|ld ti y y<|u<|nt y<|zb ?_
 refine ze y (fun d=>?_) (fun d=>?_)
 ·
  replace h:=bT d h
  refine rg y<|u<|bd ti y y y<|u<|asg y<|u<|sto ti y y y<|u<|asg y<|zb ?_
  refine zj ?_
  obtain rfl:=sm h
  exact ⟨_,y,zz []⟩
 ·
  replace h:=bF d h
  refine zg ?_
  obtain ⟨p,j,h⟩:=bs h
  obtain ⟨g,m,h⟩:=bs h
  obtain ⟨q,n,h⟩:=bs h
  refine rg y<|u<|mv y<|u<|mv y<|u<|bl 2 ti y ti y (by decide) (by decide) y y y<|u<|mv y<|u<|mv y<|u<|sx [] (ziq a b c j)<|u<|apM (l:=[c]) (f:=zf) 4 ti y ti y y (by decide) ti y y y y (roM y) (fun _=>y) y m<|u<|mv y<|zx (env0:=[(7,.mpt 0 0 0),(21,.ipt 2 [[.isl 6 (map zd a),.imp (map (rKV (fun x=>iA x)) b)]] 0 0),(27,.isl 1 (map zf g)),(28,sA e)]) (st0:=[some (10,[[sA [],.lit (.slice none 0 0),sA [],bA false,bA false,iA 0,iA 0,.lit (.slice none 0 0),.lit (.slice none 0 0),.lit (.slice none 0 0)]])]) (zo [.old 0])<|u<|pc (zpC a b g e n) y y y<|u<|ex y y<|u<|ex y y<|u<|ex y y<|u<|asg y<|u<|sto ti y y y<|u<|asg y<|zb ?_
  refine zj ?_
  obtain rfl:=sm h
  exact ⟨_,y,zz []⟩

end
end Go.Proofs.YtjbdfkapnffjnaaGreat
