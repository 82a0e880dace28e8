/- What the proofs of this seat's laws rest on: how the program's functions compute, each for every input. No further condition. Part 5 of 6. -/
import Derived.Test.YtjbdfkapnffjnaaGreatVg4
namespace Go.Proofs.YtjbdfkapnffjnaaGreat
noncomputable section
open List (length map)
set_option linter.unusedSimpArgs false
set_option linter.unusedVariables false
set_option maxRecDepth 100000
set_option maxHeartbeats 4000000
def zd3(c:Bool)(d:T0)(a:T1)(b:List zn):Option (zc):=
  some (zc.mk [102] a d c false (IntKind.i64.wrap (((length a):Int)+1)) 1 b [] [])
def zfX(c:Bool)(b:T0)(a:T1):Option (zc):=
  cond (b == [73]) (zd3 c b a ([(zn.mk 1 0 [] []),(zn.mk 47 0 [] [])])) (zd3 c b a ([(zn.mk 46 0 [] [])]))
def zcu(c:List Int)(b:T1)(a:Int):Option (Sum (T1×Int) (Sum (T1) (zc))):=
  cond ((decide (a<(length c:Int)))&&(decide (a<4))) ((idx c a).bind fun d=>(zvt d 3).bind fun e=>(zvt (IntKind.i64.wrap (e+3)) 3).bind fun f=>(idx [[73],[79,98,106,101,99,116],[91,73]] f).bind fun g=>(ziA 16 b [g]).bind fun h=>some (.inl (h,(IntKind.i64.wrap (a+1))))) (some (.inr (.inl b)))
def zga(a:List Int)(c:Int)(d:Bool):Option (zc):=
  (idx ([[86],[73]]) (zvJ .i64 c 1)).bind fun e=>(zz (fun z=>zcu a z.1 z.2) ([],0)).bind fun o=>zaq o (fun b=>zfX d e b) some
theorem zka(e:List Int)(G:Int)(c:Bool){r:zc}(h:zga e G c=some r):zu Tryz.prog 48 [.isl 1 (map (rI .i64) e),iA G,bA c] (.agg (ze r)):=by
 refine zl Tryz.func48 y kz y y ?_
 unfold zga at h
 refine rg y<|u<|al 0 ti y<|zb ?_
 obtain ⟨i,H,h⟩:=bs h
 refine rg y<|u<|mv y<|u<|bl 1 ti y ti y (by decide) (by decide) y y y<|u<|mv y<|u<|zxM ti y y<|zK (env0:=[(0,.isl 1 (map (rI .i64) e)),(6,.mpt 0 0 0),(9,bA c),(10,.msl 1 0 (length ([[86],[73]]))),(12,iA (zvJ .i64 G 1))]) (st0:=[some (10,[[sA [],.lit (.slice none 0 0),sA [],bA false,bA false,iA 0,iA 0,.lit (.slice none 0 0),.lit (.slice none 0 0),.lit (.slice none 0 0)]]),some (1,map zm ([[86],[73]]))]) (zq [.old 0,.old 1])<|u<|ixM ti y ti y y y y H<|u<|ldM ti y y (zp H).2.2 y<|u<|bd ti y y y<|u<|al 2 ti y<|u<|sto ti y y y<|zb ?_
 refine zj ?_
 refine rg y<|u<|asg y<|zb ?_
 obtain ⟨o,ho,h⟩:=bs h
 refine zaN (X:=T1×Int) (B:=T1) (R:=zc) (fun z=>[(0,.isl 1 (map (rI .i64) e)),(6,.mpt 0 0 0),(7,.mpt 1 0 0),(8,iA z.2)]) (fun z=>[some (10,[[sA [],.lit (.slice none 0 0),sA [],bA false,bA false,iA 0,iA 0,.lit (.slice none 0 0),.lit (.slice none 0 0),.lit (.slice none 0 0)]]),some (10,[[sA [102],.msl 2 0 (length z.1),sA i,bA c,bA false,iA 0,iA 1,.lit (.slice none 0 0),.lit (.slice none 0 0),.lit (.slice none 0 0)]]),some (1,map zm z.1)]) (fun b=>[(6,.mpt 0 0 0),(7,.mpt 1 0 0)]) (fun b=>[some (10,[[sA [],.lit (.slice none 0 0),sA [],bA false,bA false,iA 0,iA 0,.lit (.slice none 0 0),.lit (.slice none 0 0),.lit (.slice none 0 0)]]),some (10,[[sA [102],.msl 2 0 (length b),sA i,bA c,bA false,iA 0,iA 1,.lit (.slice none 0 0),.lit (.slice none 0 0),.lit (.slice none 0 0)]]),some (1,map zm b)]) (fun r env st=>zb6 Tryz.prog Tryz.f48 0 (.agg (ze r)) [] env st) ho ⟨[.old 0,.old 2,.fresh 1],ce y y<|cv y (.mpt y)<|cv y (.mpt y)<|ce y y<|cn,y,⟨⟨_,y,zl8 (ciL y)⟩,⟨_,y,zl8 ⟨ci y,.nilown y,ci y,ci y,ci y,ci y,ci y,ci y,ci y,ci y,t⟩⟩,w,t⟩,y,k⟩ ?_ ?_ ?_
 ·
  rintro ⟨C,p⟩ r h
  replace h:zcu e C p=some r:=h
  unfold zcu at h
  refine zj ?_
  refine rg y<|u<|mv y<|u<|mv y<|u<|lnI ti y y<|u<|lss ti y y<|u<|mv y<|zbq (j:=4) 2 y y y y y gpn (fun A=>g y A<|mv y<|g y A<|lss ti y y<|zb (egA [21,22] 2 A y y y y)) zhn<|zb ?_
  refine zf y (fun m=>?_) (fun m=>?_)
  ·
   replace h:=bT m h
   refine zi ?_
   refine zj ?_
   refine zr ?_
   obtain ⟨I,a,h⟩:=bs h
   obtain ⟨D,q,h⟩:=bs h
   obtain ⟨E,s,h⟩:=bs h
   obtain ⟨F,v,h⟩:=bs h
   obtain ⟨x,J,h⟩:=bs h
   refine zoX [(0,.isl 1 (map (rI .i64) e)),(6,.mpt 0 0 0),(7,.mpt 1 0 0),(8,iA p)] [some (10,[[sA [],.lit (.slice none 0 0),sA [],bA false,bA false,iA 0,iA 0,.lit (.slice none 0 0),.lit (.slice none 0 0),.lit (.slice none 0 0)]]),some (10,[[sA [102],.msl 2 0 (length x),sA i,bA c,bA false,iA 0,iA 1,.lit (.slice none 0 0),.lit (.slice none 0 0),.lit (.slice none 0 0)]]),some (1,map zm x)] [2,12,13,15] [9,8,7,6,5,4,3,1,0] [(35,iA E),(34,iA (IntKind.i64.wrap (D+3))),(33,iA D),(32,iA I),(31,.ipt 1 (map (rI .i64) e) (Int.toNat p) 0),(30,iA p),(29,.isl 1 (map (rI .i64) e)),(27,.msl 2 0 (length C)),(26,.mpt 1 0 1)] 4 (ziH ⟨(pb y (rem ti y y s w)),pe,(pb y (rem ti y y q w)),(pb y (ldI ti y (zp a).2.2 y w)),(pb y (ixI ti y ti y y y a w)),pe,pe,pe,pe,t⟩ ⟨(fun _ _=>⟨_,y,y,bl 3 ti y ti y (by decide) (by decide) y y y<|⟨(.msl 3 0 3),[11,10],[(37,sA F),(36,.mpt 3 (Int.toNat E) 0),(28,.msl 3 0 3)],y,y,kz,y,ziH ⟨(pb y (ldM (l:=[[73],[79,98,106,101,99,116],[91,73]]) (f:=zm) ti y y (zp v).2.2 y w)),(pb y (ixM (l:=[[73],[79,98,106,101,99,116],[91,73]]) (f:=zm) ti y ti y y y y v w)),(pb y (rem ti y y s w)),pe,(pb y (rem ti y y q w)),(pb y (ldI ti y (zp a).2.2 y w)),(pb y (ixI ti y ti y y y a w)),pe,pe,pe,pe,t⟩ ⟨nv,(fun _ _=>⟨_,y,y,bl 4 ti y ti y (by decide) (by decide) y y y<|⟨(.msl 4 0 1),[],[(38,.msl 4 0 1)],y,y,kz,y,ziH ⟨pe,(pb y (ixM (l:=[[73],[79,98,106,101,99,116],[91,73]]) (f:=zm) ti y ti y y y y v w)),(pb y (rem ti y y s w)),pe,(pb y (rem ti y y q w)),(pb y (ldI ti y (zp a).2.2 y w)),(pb y (ixI ti y ti y y y a w)),pe,pe,pe,pe,t⟩ ⟨nv,nv,(fun _ _=>⟨_,y,y,apM 5 ti y ti y y (by decide) ti y y y y (roX (f:=zm) (z:=[F]) y y) (fun _=>y) y J<|⟨(.msl 5 0 (length x)),[14],[(40,.mpt 1 0 1),(39,.msl 5 0 (length x))],y,y,kz,y,ziH ⟨pe,pe,(pb y (ixM (l:=[[73],[79,98,106,101,99,116],[91,73]]) (f:=zm) ti y ti y y y y v w)),(pb y (rem ti y y s w)),pe,(pb y (rem ti y y q w)),(pb y (ldI ti y (zp a).2.2 y w)),(pb y (ixI ti y ti y y y a w)),pe,pe,pe,pe,t⟩ ⟨nv,nv,nv,(fun _ _=>⟨_,y,y,sto ti y y y<|⟨.any,[],[],y,y,kz,t,zlb (zq [.old 0,.old 1,.old 5])⟩⟩),t⟩⟩⟩),nw,t⟩⟩⟩),nw,nw,t⟩⟩⟩),nw,nw,nw,t⟩) ?_
   refine rl y<|u<|mv y<|u<|add ti y y<|u<|asg y<|zb ?_
   obtain rfl:=sm h
   exact ⟨_,y,zq [.old 0,.old 1,.old 2]⟩
  ·
   replace h:=bF m h
   refine zQ ?_
   obtain rfl:=sm h
   exact ⟨y,_,y,zq [.old 0,.old 1,.old 2]⟩
 ·
  rintro d rfl
  replace h:zfX c i d=some r:=h
  unfold zfX at h
  refine zD ?_
  refine rg y<|u<|fa ti y y y<|u<|ld ti y y<|u<|lnM ti y y y<|u<|add ti y y<|u<|fa ti y y y<|u<|sto ti y y y<|zb ?_
  refine rg y<|u<|bd ti y y y<|u<|bl 3 ti y ti y (by decide) (by decide) y y y<|u<|fa ti y y y<|u<|sto ti y y y<|zb ?_
  refine zdk (X:=(List zn)) (fun z=>[(6,.mpt 0 0 0),(7,.mpt 1 0 0)]) (fun z=>[some (10,[[sA [],.lit (.slice none 0 0),sA [],bA false,bA false,iA 0,iA 0,.lit (.slice none 0 0),.lit (.slice none 0 0),.lit (.slice none 0 0)]]),some (10,[[sA [102],.msl 2 0 (length d),sA i,bA c,bA false,iA (IntKind.i64.wrap (((length d):Int)+1)),iA 1,.msl 3 0 (length z),.lit (.slice none 0 0),.lit (.slice none 0 0)]]),some (1,map zm d),some (4,map zx z)]) (fun z=>zd3 c i d z=some r) ?_ ?_
  ·
   refine rg y<|u<|fa ti y y y<|u<|ld ti y y<|u<|seq ti y y<|zb ?_
   refine zf y (fun n=>?_) (fun n=>?_)
   ·
    replace h:=bT n h
    exact rl y<|u<|bd ti y y y<|u<|bd ti y y y<|u<|bl 4 ti y ti y (by decide) (by decide) y y y<|u<|fa ti y y y<|u<|sto ti y y y<|zb (⟨[(zn.mk 1 0 [] []),(zn.mk 47 0 [] [])],h,zq [.old 0,.old 1,.old 2,.old 4]⟩)
   ·
    replace h:=bF n h
    refine zi ?_
    exact ⟨[(zn.mk 46 0 [] [])],h,zq [.old 0,.old 1,.old 2,.old 3]⟩
  ·
   rintro K h
   replace h:zd3 c i d K=some r:=h
   unfold zd3 at h
   refine rg y<|u<|ld ti y y<|u<|sto ti y y y<|zb ?_
   refine zg ?_
   obtain rfl:=sm h
   exact ⟨_,y,zB []⟩
 ·
  rintro r' rfl env st hp
  obtain rfl:=sm h
  exact hp
def zfu(j:List Int)(l:List Int)(m:Int)(n:Int)(e:Bool)(f:Bool):Option (Bool):=
  (zij).bind fun o=>cond (!o) (some false) ((zga j m e).bind fun c=>(zga l n f).bind fun d=>(ziA 152 ([(zc.mk [109,97,105,110] [] [86] true false 0 0 ([(zn.mk 46 0 [] [])]) [] [])]) [c]).bind fun g=>(ziA 152 ([(zc.mk [103,111] [] [86] true false 0 0 ([(zn.mk 46 0 [] [])]) [] [])]) [d]).bind fun h=>(zdt ([(za.mk [66,98] [65,97] false [] ([(zh.mk [120] [73] false)]) h),(za.mk [65,97] [79,98,106,101,99,116] false [] ([(zh.mk [120] [73] false)]) g)]) (zeS.mk [65,97] [109,97,105,110])).bind fun a=>(cond (((!e)&&(!f))&&(c.Ret == d.Ret)) ((zgu c.Params d.Params).bind fun i=>some i) (some false)).bind fun b=>some (((a.2 == (0:Int)) == b)&&(b||(a.2 == (1:Int)))))
theorem zjN(v:List Int)(A:List Int)(B:Int)(C:Int)(n:Bool)(o:Bool){r:Bool}(h:zfu v A B C n o=some r):zu Tryz.prog 17 [.isl 1 (map (rI .i64) v),.isl 1 (map (rI .i64) A),iA B,iA C,bA n,bA o] (bA r):=by
 refine zl Tryz.func17 y kz y y ?_
 unfold zfu at h
 refine rg y<|u<|asg y<|zb ?_
 obtain ⟨N,H,h⟩:=bs h
 refine rg y<|u<|pc (zmw H) y y y<|u<|asg y<|zb ?_
 refine zj ?_
 refine rg y<|u<|mv y<|u<|nt y<|zb ?_
 refine zf y (fun q=>?_) (fun q=>?_)
 ·
  replace h:=bT q h
  refine rg y<|u<|asg y<|zb ?_
  refine zg ?_
  obtain rfl:=sm h
  exact ⟨_,y,zB []⟩
 ·
  replace h:=bF q h
  refine zi ?_
  refine rg y<|u<|sx [] (zjO [65,97] y)<|u<|sx [] (zjO [66,98] y)<|u<|al 6 ti y<|u<|al 7 ti y<|u<|sto ti y y y<|u<|sto ti y y y<|zb ?_
  refine rg y<|u<|fa ti y y y<|u<|sto ti y y y<|zb ?_
  refine rg y<|u<|fa ti y y y<|u<|ld ti y y<|u<|ixX ti y ti y y y<|u<|fa ti y y y<|u<|sto ti y y y<|zb ?_
  obtain ⟨i,I,h⟩:=bs h
  obtain ⟨l,J,h⟩:=bs h
  refine rg y<|u<|mv y<|u<|mv y<|u<|mv y<|u<|pc (zka v B n I) y y y<|u<|mv y<|u<|mv y<|u<|mv y<|u<|pc (zka A C o J) y y y<|u<|al 8 ti y<|u<|al 9 ti y<|u<|sto ti y y y<|u<|sto ti y y y<|zb ?_
  refine zk4 (env0:=[(4,bA n),(5,bA o),(14,.mpt 0 0 0),(15,.mpt 3 0 0),(16,.mpt 7 0 0),(17,.mpt 8 0 0)]) (st0:=[some (6,[[sA [65,97],sA [79,98,106,101,99,116],bA false,.lit (.slice none 0 0),.msl 1 0 (length ([(zh.mk [120] [73] false)])),.msl 2 0 (length ([(zc.mk [109,97,105,110] [] [86] true false 0 0 ([(zn.mk 46 0 [] [])]) [] [])]))]]),some (3,map zN ([(zh.mk [120] [73] false)])),some (10,map ze ([(zc.mk [109,97,105,110] [] [86] true false 0 0 ([(zn.mk 46 0 [] [])]) [] [])])),some (6,[[sA [66,98],sA [65,97],bA false,.lit (.slice none 0 0),.msl 4 0 (length ([(zh.mk [120] [73] false)])),.msl 5 0 1]]),some (3,map zN ([(zh.mk [120] [73] false)])),some (10,[[sA [103,111],.lit (.slice none 0 0),sA [86],bA true,bA false,iA 0,iA 0,.msl 6 0 (length ([(zn.mk 46 0 [] [])])),.lit (.slice none 0 0),.lit (.slice none 0 0)]]),some (4,map zx ([(zn.mk 46 0 [] [])])),some (10,[(ze i)]),some (10,[(ze l)])]) (zq [.old 6,.old 0,.old 1,.old 7,.old 3,.old 4,.old 5,.old 8,.old 9]) ?_
  refine zk4 (env0:=[(4,bA n),(5,bA o),(14,.mpt 0 0 0),(15,.mpt 3 0 0),(16,.mpt 6 0 0),(17,.mpt 7 0 0)]) (st0:=[some (6,[[sA [65,97],sA [79,98,106,101,99,116],bA false,.lit (.slice none 0 0),.msl 1 0 (length ([(zh.mk [120] [73] false)])),.msl 2 0 (length ([(zc.mk [109,97,105,110] [] [86] true false 0 0 ([(zn.mk 46 0 [] [])]) [] [])]))]]),some (3,map zN ([(zh.mk [120] [73] false)])),some (10,map ze ([(zc.mk [109,97,105,110] [] [86] true false 0 0 ([(zn.mk 46 0 [] [])]) [] [])])),some (6,[[sA [66,98],sA [65,97],bA false,.lit (.slice none 0 0),.msl 4 0 (length ([(zh.mk [120] [73] false)])),.msl 5 0 (length ([(zc.mk [103,111] [] [86] true false 0 0 ([(zn.mk 46 0 [] [])]) [] [])]))]]),some (3,map zN ([(zh.mk [120] [73] false)])),some (10,map ze ([(zc.mk [103,111] [] [86] true false 0 0 ([(zn.mk 46 0 [] [])]) [] [])])),some (10,[(ze i)]),some (10,[(ze l)])]) (zq [.old 0,.old 1,.old 2,.old 3,.old 4,.old 5,.old 7,.old 8]) ?_
  obtain ⟨a,D,h⟩:=bs h
  obtain ⟨b,E,h⟩:=bs h
  refine rdA [(4,bA n),(5,bA o),(14,.mpt 0 0 0),(15,.mpt 3 0 0),(16,.mpt 6 0 0),(17,.mpt 7 0 0)] [some (6,[[sA [65,97],sA [79,98,106,101,99,116],bA false,.lit (.slice none 0 0),.msl 1 0 (length ([(zh.mk [120] [73] false)])),.msl 2 0 (length a)]]),some (3,map zN ([(zh.mk [120] [73] false)])),some (10,map ze a),some (6,[[sA [66,98],sA [65,97],bA false,.lit (.slice none 0 0),.msl 4 0 (length ([(zh.mk [120] [73] false)])),.msl 5 0 (length b)]]),some (3,map zN ([(zh.mk [120] [73] false)])),some (10,map ze b),some (10,[(ze i)]),some (10,[(ze l)])] [3,4,8,9,11,13] [7,6,5,2,1,0] [(46,.agg (ze l)),(45,.msl 5 0 (length ([(zc.mk [103,111] [] [86] true false 0 0 ([(zn.mk 46 0 [] [])]) [] [])]))),(44,.mpt 3 0 5),(41,.agg (ze i)),(40,.msl 2 0 (length ([(zc.mk [109,97,105,110] [] [86] true false 0 0 ([(zn.mk 46 0 [] [])]) [] [])]))),(39,.mpt 0 0 5)] 6 (zkD ⟨(fun _ _=>⟨_,y,y,bl 8 ti y ti y (by decide) (by decide) y y y<|⟨(.msl 8 0 1),[],[(42,.msl 8 0 1)],y,y,kz,y,zkD ⟨nv,(fun _ _=>⟨_,y,y,apM 9 ti y ti y y (by decide) ti y y y y (roX (f:=ze) (z:=[i]) y y) (fun _=>y) y D<|⟨(.msl 9 0 (length a)),[10],[(49,.mpt 0 0 5),(43,.msl 9 0 (length a))],y,y,kz,y,zkD ⟨nv,nv,(fun _ _=>⟨_,y,y,bl 10 ti y ti y (by decide) (by decide) y y y<|⟨(.msl 10 0 1),[],[(47,.msl 10 0 1)],y,y,kz,y,zkD ⟨nv,nv,nv,(fun _ _=>⟨_,y,y,apM 11 ti y ti y y (by decide) ti y y y y (roX (f:=ze) (z:=[l]) y y) (fun _=>y) y E<|⟨(.msl 11 0 (length b)),[],[(48,.msl 11 0 (length b))],y,y,kz,y,zkD ⟨nv,nv,nv,nv,(fun _ _=>⟨_,y,y,sto ti y y y<|⟨.any,[12],[(50,.mpt 3 0 5)],y,y,kz,t,zkD ⟨nv,nv,nv,nv,nv,(fun _ _=>⟨_,y,y,sto ti y y y<|⟨.any,[],[],y,y,kz,t,zlb (zq [.old 0,.old 1,.old 9,.old 3,.old 4,.old 11,.old 6,.old 7])⟩⟩),t⟩⟩⟩),nw,t⟩⟩⟩),nw,nw,t⟩⟩⟩),nw,nw,nw,t⟩⟩⟩),(fun _ _=>⟨_,y,y,bl 9 ti y ti y (by decide) (by decide) y y y<|⟨(.msl 9 0 1),[],[(47,.msl 9 0 1)],y,y,kz,y,zkD ⟨nv,(fun _ _=>⟨_,y,y,apM 10 ti y ti y y (by decide) ti y y y y (roX (f:=ze) (z:=[i]) y y) (fun _=>y) y D<|⟨(.msl 10 0 (length a)),[10],[(49,.mpt 0 0 5),(43,.msl 10 0 (length a))],y,y,kz,y,zkD ⟨nv,nv,nv,(fun _ _=>⟨_,y,y,apM 11 ti y ti y y (by decide) ti y y y y (roX (f:=ze) (z:=[l]) y y) (fun _=>y) y E<|⟨(.msl 11 0 (length b)),[],[(48,.msl 11 0 (length b))],y,y,kz,y,zkD ⟨nv,nv,nv,nv,(fun _ _=>⟨_,y,y,sto ti y y y<|⟨.any,[12],[(50,.mpt 3 0 5)],y,y,kz,t,zkD ⟨nv,nv,nv,nv,nv,(fun _ _=>⟨_,y,y,sto ti y y y<|⟨.any,[],[],y,y,kz,t,zlb (zq [.old 0,.old 1,.old 10,.old 3,.old 4,.old 11,.old 6,.old 7])⟩⟩),t⟩⟩⟩),nw,t⟩⟩⟩),nw,nw,t⟩⟩⟩),nv,nw,nw,nw,t⟩⟩⟩),nw,nw,nw,t⟩⟩⟩),nw,(fun _ _=>⟨_,y,y,bl 8 ti y ti y (by decide) (by decide) y y y<|⟨(.msl 8 0 1),[],[(47,.msl 8 0 1)],y,y,kz,y,zkD ⟨(fun _ _=>⟨_,y,y,bl 9 ti y ti y (by decide) (by decide) y y y<|⟨(.msl 9 0 1),[],[(42,.msl 9 0 1)],y,y,kz,y,zkD ⟨nv,(fun _ _=>⟨_,y,y,apM 10 ti y ti y y (by decide) ti y y y y (roX (f:=ze) (z:=[i]) y y) (fun _=>y) y D<|⟨(.msl 10 0 (length a)),[10],[(49,.mpt 0 0 5),(43,.msl 10 0 (length a))],y,y,kz,y,zkD ⟨nv,nv,nv,(fun _ _=>⟨_,y,y,apM 11 ti y ti y y (by decide) ti y y y y (roX (f:=ze) (z:=[l]) y y) (fun _=>y) y E<|⟨(.msl 11 0 (length b)),[],[(48,.msl 11 0 (length b))],y,y,kz,y,zkD ⟨nv,nv,nv,nv,(fun _ _=>⟨_,y,y,sto ti y y y<|⟨.any,[12],[(50,.mpt 3 0 5)],y,y,kz,t,zkD ⟨nv,nv,nv,nv,nv,(fun _ _=>⟨_,y,y,sto ti y y y<|⟨.any,[],[],y,y,kz,t,zlb (zq [.old 0,.old 1,.old 10,.old 3,.old 4,.old 11,.old 6,.old 7])⟩⟩),t⟩⟩⟩),nw,t⟩⟩⟩),nw,nw,t⟩⟩⟩),nv,nw,nw,nw,t⟩⟩⟩),nw,nv,nw,nw,nw,t⟩⟩⟩),nw,nw,nw,t⟩) ?_
  obtain ⟨L,K,h⟩:=bs h
  refine rg y<|u<|ld ti y y<|u<|ld ti y y<|u<|bl 8 ti y ti y (by decide) (by decide) y y y<|u<|bd ti y y y<|zK (env0:=[(4,bA n),(5,bA o),(16,.mpt 0 0 0),(17,.mpt 1 0 0),(54,.isl 6 (map zd ([(za.mk [66,98] [65,97] false [] ([(zh.mk [120] [73] false)]) b),(za.mk [65,97] [79,98,106,101,99,116] false [] ([(zh.mk [120] [73] false)]) a)]))),(55,.agg [sA [65,97],sA [109,97,105,110]])]) (st0:=[some (10,[(ze i)]),some (10,[(ze l)])]) (zq [.old 6,.old 7])<|u<|pc (zfO ([(za.mk [66,98] [65,97] false [] ([(zh.mk [120] [73] false)]) b),(za.mk [65,97] [79,98,106,101,99,116] false [] ([(zh.mk [120] [73] false)]) a)]) (zeS.mk [65,97] [109,97,105,110]) K) y y y<|u<|mv y<|u<|ex y y<|u<|ex y y<|u<|asg y<|u<|asg y<|zb ?_
  obtain ⟨F,e,h⟩:=bs h
  refine rg y<|u<|mv y<|u<|nt y<|u<|mv y<|zbq (j:=2) 2 y y y y y gpn (fun s=>g y s<|mv y<|g y s<|nt y<|zb (egA [62,63] 2 s y y y y)) zhn<|u<|mv y<|zbq (j:=6) 5 y y y y y gpn (fun c=>g y c<|fa ti y y y<|g y c<|ld ti y y<|g y c<|fa ti y y y<|g y c<|ld ti y y<|g y c<|seq ti y y<|zb (egA [66,67,68,69,70] 5 c y y y y)) zhn<|u<|mv y<|zbq (x:=F) (j:=13) 5 y y y y y gpn (fun d=>by replace e:=bT d e;obtain ⟨M,G,e⟩:=bs e;obtain rfl:=sm e;exact g y d<|fa ti y y y<|g y d<|ld ti y y<|g y d<|fa ti y y y<|g y d<|ld ti y y<|g y d<|pc (zl5 i.Params l.Params G) y y y<|zb (eg [73,74,75,76,77] 5 y y y y)) (fun hb=>(sm (bF hb e)).symm)<|u<|asg y<|zb ?_
  refine rg y<|u<|mv y<|u<|eql ti y y<|u<|mv y<|u<|beq ti y y y<|u<|mv y<|zbq (j:=4) 5 y y y y y gpn (fun m=>g y m<|mv y<|g y m<|mv y<|ze6 (j:=6) 2 y y y y y (gps y y m) (fun p=>g y p<|mv y<|g y p<|eql ti y y<|zb (egO [86,87] 2 p y y y y)) orT<|zb (egA [84,85,86,87,88] 3 m y y y y)) zhn<|u<|asg y<|zb ?_
  refine zg ?_
  obtain rfl:=sm h
  exact ⟨_,y,zB []⟩
theorem zT{α:Type}(l:List α)(i:Nat):idx l (i:Int)=l[i]?:=by
 unfold idx
 rw [if_pos (by omega),Int.toNat_natCast]
theorem znr{α:Type}(l:List α):idx l 0=l[0]?:=zT l 0
theorem zlh{n:Int}(h1:-9223372036854775808≤n)(h2:n≤9223372036854775807):IntKind.i64.wrap n=n:=IntWalk.i64_in n ⟨h1,h2⟩
theorem zbW{i:Nat}(h:i<9223372036854775807):IntKind.i64.wrap ((i:Int)+1)=((i+1:Nat):Int):=by
 rw [zlh (by omega) (by omega)];omega
theorem zof{α:Type}{l:List α}{a b:Int}(h0:0≤a)(h1:a≤b)(h2:b≤l.length):zj3 l a b=some ((l.drop a.toNat).take (b.toNat-a.toNat)):=by
 unfold zj3;rw [if_pos ⟨h0,h1,h2⟩]
theorem znk{α:Type}{l:List α}{b:Nat}(h:b≤l.length):zj3 l 0 (b:Int)=some (l.take b):=by
 rw [zof (by omega) (by omega) (by omega)];simp
theorem zlI{α:Type}{l:List α}{a:Nat}(h:a≤l.length):zj3 l (a:Int) (l.length:Int)=some (l.drop a):=by
 rw [zof (by omega) (by omega) (by omega)]
 simp only [Int.toNat_natCast]
 rw [List.take_of_length_le (by simp)]
theorem zgR{α:Type}{w:Nat}{l x:List α}(h:(l.length+x.length)*w≤140737488355328)(h2:l.length+x.length≤9223372036854775807):ziA w l x=some (l++x):=by
 unfold ziA;rw [if_pos ⟨h,h2⟩]
def zo5{R U:Type}(u:U):Option R→Sum U R
 |some r=>.inr r
 |none=>.inl u
def zuE{R U:Type}(i:Nat):Option R→Sum Int (Sum U R)
 |some r=>.inr (.inr r)
 |none=>.inl ((i+1:Nat):Int)
theorem zrR{α R U:Type}{body:Int→Option (Sum Int (Sum U R))}{l:List α}{g:α→Option R}{u:U}{k:Nat}
  (hb:∀(i:Nat) x,k≤i→l[i]?=some x→body (i:Int)=some (zuE i (g x)))
  (he:body (l.length:Int)=some (.inr (.inl u))) (hk:k≤l.length):zz body (k:Int)=some (zo5 u ((l.drop k).findSome? g)):=by
 have key:∀d i,l.length-i=d→k≤i→i≤l.length→zz body (i:Int)=some (zo5 u ((l.drop i).findSome? g)):=by
  intro d
  induction d with
  |zero =>
   intro i hd hki hi
   have:i=l.length:=by omega
   subst this
   rw [zan,he,List.drop_length]
   rfl
  |succ d ih =>
   intro i hd hki hi
   have hlt:i<l.length:=by omega
   rw [zan,hb i l[i] hki (List.getElem?_eq_getElem hlt),List.drop_eq_getElem_cons hlt,List.findSome?_cons]
   cases g l[i] with
   |some r=>rfl
   |none =>
    show zz body ((i+1:Nat):Int)=_
    exact ih (i+1) (by omega) (by omega) (by omega)
 exact key _ k rfl (Nat.le_refl _) hk
theorem zfe{α R U:Type}{body:Int→Option (Sum Int (Sum U R))}{l:List α}{g:α→Option R}{u:U}
  (hb:∀(i:Nat) x,l[i]?=some x→body (i:Int)=some (zuE i (g x)))
  (he:body (l.length:Int)=some (.inr (.inl u))):zz body 0=some (zo5 u (l.findSome? g)):=
 zrR (k:=0) (fun i x _=>hb i x) he (Nat.zero_le _)
theorem zqB{R U:Type}{body:Int→Option (Sum Int (Sum U R))}{n:Nat}{g:Nat→Option R}{u:U}
  (hb:∀i,i<n→body (i:Int)=some (zuE i (g i)))
  (he:body (n:Int)=some (.inr (.inl u))):zz body 0=some (zo5 u ((List.range n).findSome? g)):=by
 have h:=zfe (body:=body) (l:=List.range n) (g:=g) (u:=u) (fun i x hx=>by
  have hi:i<n:=by
   have:=(List.getElem?_eq_some_iff.1 hx).1
   simpa using this
  have hx':x=i:=by
   have:=(List.getElem?_eq_some_iff.1 hx).2
   simpa using this.symm
  subst hx'
  exact hb x hi) (by rw [List.length_range];exact he)
 exact h
theorem zdY{α R:Type}(l:List α)(p:α→Bool)(r:R):l.findSome? (fun x=>cond (p x) (some r) none)=cond (l.any p) (some r) none:=by
 induction l with
 |nil=>rfl
 |cons x l ih =>
  rw [List.findSome?_cons,List.any_cons]
  cases p x with
  |true=>rfl
  |false=>simpa using ih
def zig(n:Int):Nat:=if n<0 then (-2*n-1).toNat else (2*n).toNat
def zxF:Nat→Nat→List UInt8
 | 0,_=>[]
 |k+1,u=>if 127<u then UInt8.ofNat (u % 128+128)::zxF k (u / 128) else [UInt8.ofNat u]
def put(n:Int):List UInt8:=zxF 10 (zig n)
def okC(x:UInt8):Bool:=zf9 x||zfF x||zhN x
def zv6(p:UInt8→Bool):List UInt8→Bool
 | []=>false
 |x :: _=>p x
def zoR(s:List UInt8):Bool:=s.all okC&&(!(s == [])&&decide ((s.length:Int)≤8))
def zda(s:List UInt8):Bool:=zoR s&&decide (1<(s.length:Int))&&zv6 zfF s
def zpk(s:List UInt8):Bool:=(s == [36,105,110,105,116])||(zoR s&&zv6 zf9 s)
def zgh:List UInt8→List UInt8
 | []=>[]
 |x ::r=>if x=91 then r else x ::r
def zhX(s:List UInt8):Bool:=(zgh (zgh s) == [73])||zda (zgh (zgh s))
def zvr(s:List UInt8):Bool:=!(s == [73])&&zhX s
def zul(s:List UInt8):Bool:=(s == [86])||zhX s
abbrev Len(s:List UInt8):Prop:=s.length≤9223372036854775807
theorem zvh{α:Type}(l:List α)(p:α→Bool):l.any (fun x=>!p x)=!l.all p:=by
 induction l with
 |nil=>rfl
 |cons x l ih=>rw [List.any_cons,List.all_cons,ih];cases p x <;> rfl
theorem zk0{s:List UInt8}(h:Len s):zhO s=some (zoR s):=by
 have hl:zz (fun z=>zdZ s z) 0=_:=zfe (l:=s) (g:=fun x=>cond (!okC x) (some false) none) (u:=()) (fun i x hx=>by
  have hi:=(List.getElem?_eq_some_iff.1 hx).1
  show zdZ s (i:Int)=_
  unfold zdZ
  rw [zT,hx,decide_eq_true (by omega),zbW (by unfold Len at h;omega)]
  unfold okC
  cases h1:zf9 x <;> cases h2:zfF x <;> cases h3:zhN x <;> simp [h1,h2,h3,zuE]) (by
  show zdZ s (s.length:Int)=_
  unfold zdZ
  rw [decide_eq_false (by omega)]
  rfl)
 unfold zhO
 rw [hl,zdY,zvh]
 unfold zoR
 cases s.all okC <;> rfl
theorem zqh{s:List UInt8}(h:zoR s=true):∃x r,s=x ::r:=by
 cases s with
 |nil=>exact absurd h (by decide)
 |cons x r=>exact ⟨x,r,rfl⟩
theorem zeV{s:List UInt8}(h:Len s):zeh s=some (zda s):=by
 unfold zeh
 rw [zk0 h,znr]
 unfold zda
 cases hw:zoR s with
 |false=>rfl
 |true =>
  obtain ⟨x,r,rfl⟩:=zqh hw
  simp only [Option.bind_some,Bool.true_and,List.getElem?_cons_zero]
  cases decide (1<((x ::r).length:Int)) <;> rfl
theorem ziV{s:List UInt8}(h:Len s):zg4 s=some (zpk s):=by
 unfold zg4
 rw [zk0 h,znr]
 unfold zpk
 cases s == [36,105,110,105,116] with
 |true=>rfl
 |false =>
  cases hw:zoR s with
  |false=>rfl
  |true =>
   obtain ⟨x,r,rfl⟩:=zqh hw
   rfl
theorem zjg(x:UInt8)(r:List UInt8):zgh (x ::r)=if x=91 then r else x ::r:=rfl
theorem zoQ(s:List UInt8):(zgh s).length≤s.length:=by
 cases s with
 |nil=>exact Nat.le_refl _
 |cons x r=>rw [zjg];split <;> simp
theorem zsP{s:List UInt8}(h:Len s):zcZ s [91]=some (zgh s):=by
 unfold zcZ zb8 zcc
 cases s with
 |nil=>rfl
 |cons x r =>
  have e1:decide ((List.length [(91:UInt8)]:Int)≤(List.length (x ::r):Int))=true:=decide_eq_true (by simp only [List.length_cons,List.length_nil];omega)
  have e2:zj3 (x ::r) 0 (List.length [(91:UInt8)]:Int)=some [x]:=by
   have:=znk (l:=x ::r) (b:=1) (by simp)
   simpa using this
  have e3:zj3 (x ::r) (List.length [(91:UInt8)]:Int) (List.length (x ::r):Int)=some r:=by
   have:=zlI (l:=x ::r) (a:=1) (by simp)
   simpa using this
  rw [e1,e2,e3,zjg]
  by_cases hx:x=91
  ·subst hx;rfl
  ·rw [if_neg hx]
   have:([x] == [(91:UInt8)])=false:=by simp [hx]
   simp [this]
theorem zg3{s:List UInt8}(h:Len s):zfW s=some (zhX s):=by
 have h1:=zoQ s
 have h2:=zoQ (zgh s)
 unfold zfW
 rw [zsP h,Option.bind_some,zsP (by unfold Len at *;omega),Option.bind_some,zeV (by unfold Len at *;omega)]
 unfold zhX
 cases zgh (zgh s) == [73] <;> rfl
theorem zlU{s:List UInt8}(h:Len s):zhr s=some (zvr s):=by
 unfold zhr
 rw [zg3 h]
 unfold zvr
 cases s == [73] <;> rfl
theorem zpc{s:List UInt8}(h:Len s):zj6 s=some (zul s):=by
 unfold zj6
 rw [zg3 h]
 unfold zul
 cases s == [86] <;> rfl
def zrU(o:Int)(s:List UInt8):Bool:=cond (zip o) (zvr s) (cond (zvL o) (zda s) (s == []))
def zva(o:Int)(s:List UInt8):Bool:=cond (zvM o) (zpk s&&!(s == [36,105,110,105,116])) (s == [])
def zkc(x:zn):Bool:=(zkf x.Op&&zkP x.Op x.A)&&zrU x.Op x.C&&zva x.Op x.M
theorem zqI{o:Int}{s:List UInt8}(h:Len s):zl0 o s=some (zrU o s):=by
 unfold zl0 zrU
 rw [zlU h,zeV h]
 cases zip o <;> cases zvL o <;> rfl
theorem zqK{o:Int}{s:List UInt8}(h:Len s):zl1 o s=some (zva o s):=by
 unfold zl1 zva
 rw [ziV h]
 cases zvM o <;> rfl
theorem zsa{x:zn}(hC:Len x.C)(hM:Len x.M):zoE x=some (zkc x):=by
 unfold zoE zkc
 rw [zqI hC,zqK hM]
 cases (zkf x.Op&&zkP x.Op x.A) <;> cases zrU x.Op x.C <;> rfl
def ixF{α:Type}(p:α→Bool):Nat→List α→Int
 |_,[]=>-1
 |k,x ::r=>cond (p x) (k:Int) (ixF p (k+1) r)
theorem zdN{α:Type}(p:α→Bool):∀(k:Nat) (l:List α),decide (0≤ixF p k l)=l.any p
 |_,[]=>rfl
 |k,x ::r=>by
  unfold ixF
  rw [List.any_cons]
  cases p x with
  |true=>exact decide_eq_true (show (0:Int)≤(k:Int) by omega)
  |false=>exact zdN p (k+1) r
theorem zbG{α:Type}{body:Int→Option (Sum Int (Sum Unit Int))}{l:List α}{p:α→Bool}(hl:l.length≤9223372036854775807)
  (hb:∀(i:Nat) x,l[i]?=some x→body (i:Int)=cond (p x) (some (.inr (.inr (i:Int)))) (some (.inl (IntKind.i64.wrap ((i:Int)+1)))))
  (he:body (l.length:Int)=some (.inr (.inl ()))):
  (zz body 0).bind (fun o=>zaq o (fun _=>some (-1:Int)) some)=some (ixF p 0 l):=by
 have key:∀(r pre:List α),l=pre++r→(zz body (pre.length:Int)).bind (fun o=>zaq o (fun _=>some (-1:Int)) some)=some (ixF p pre.length r):=by
  intro r
  induction r with
  |nil =>
   intro pre h
   rw [List.append_nil] at h
   subst h
   rw [zan,he]
   rfl
  |cons x r ih =>
   intro pre h
   have hlen:l.length=pre.length+(r.length+1):=by rw [h];simp
   have hx:l[pre.length]?=some x:=by rw [h];simp
   rw [zan,hb _ x hx]
   unfold ixF
   cases p x with
   |true=>rfl
   |false =>
    rw [zbW (by omega)]
    have:=ih (pre++[x]) (by rw [h];simp)
    rw [show (pre++[x]).length=pre.length+1 by simp] at this
    exact this
 exact key l [] rfl
def uB{α:Type}(ok:α→Bool)(nm:α→List UInt8):List α→List α→Bool
 |_,[]=>false
 |pre,x ::r=>(!ok x||pre.any (fun y=>nm x == nm y))||uB ok nm (pre++[x]) r
theorem zme{α:Type}{body:Int→Option (Sum Int (Sum Unit Bool))}{l:List α}{ok:α→Bool}{nm:α→List UInt8}(hl:l.length≤9223372036854775807)
  (hb:∀(i:Nat) x,l[i]?=some x→body (i:Int)=cond (!ok x||(l.take i).any (fun y=>nm x == nm y)) (some (.inr (.inr false))) (some (.inl (IntKind.i64.wrap ((i:Int)+1)))))
  (he:body (l.length:Int)=some (.inr (.inl ()))) {k:Option Bool}:
  (zz body 0).bind (fun o=>zaq o (fun _=>k) some)=cond (uB ok nm [] l) (some false) k:=by
 have key:∀(r pre:List α),l=pre++r→(zz body (pre.length:Int)).bind (fun o=>zaq o (fun _=>k) some)=cond (uB ok nm pre r) (some false) k:=by
  intro r
  induction r with
  |nil =>
   intro pre h
   rw [List.append_nil] at h
   subst h
   rw [zan,he]
   rfl
  |cons x r ih =>
   intro pre h
   have hlen:l.length=pre.length+(r.length+1):=by rw [h];simp
   have hx:l[pre.length]?=some x:=by rw [h];simp
   have ht:l.take pre.length=pre:=by rw [h];simp
   rw [zan,hb _ x hx,ht]
   unfold uB
   cases !ok x||pre.any (fun y=>nm x == nm y) with
   |true=>rfl
   |false =>
    rw [zbW (by omega)]
    have:=ih (pre++[x]) (by rw [h];simp)
    rw [show (pre++[x]).length=pre.length+1 by simp] at this
    exact this
 exact key l [] rfl
abbrev ziI{α:Type}(l:List α):Prop:=l.length≤9223372036854775807
theorem zgK{α:Type}{l:List α}{i:Nat}{x:α}(h:l[i]?=some x):decide ((i:Int)<(l.length:Int))=true:=
 decide_eq_true (by have:=(List.getElem?_eq_some_iff.1 h).1;omega)
theorem zhE{α:Type}(l:List α):decide ((l.length:Int)<(l.length:Int))=false:=decide_eq_false (by omega)
theorem zth{l:List zh}(hl:ziI l)(n t:List UInt8)(s:Bool):zar l n t s=some (l.any fun y=>n == y.Name):=by
 unfold zar zbi
 rw [show ((zz (fun z=>zW l n t s z) 0).bind fun o=>zaq o (fun b=>za0) some)=_ from zbG (p:=fun y:zh=>n == y.Name) hl
  (fun i x hx=>by unfold zW;rw [zgK hx,zT,hx];rfl) (by unfold zW;rw [zhE];rfl)]
 exact congrArg some (zdN _ 0 l)
theorem zrE{l:List zc}(hl:ziI l)(n:List UInt8)(a b c d e f g h i):zaf l n a b c d e f g h i=some (l.any fun y=>n == y.Name):=by
 unfold zaf za6
 rw [show ((zz (fun z=>zR l n a b c d e f g h i z) 0).bind fun o=>zaq o (fun b=>zaQ) some)=_ from zbG (p:=fun y:zc=>n == y.Name) hl
  (fun i x hx=>by unfold zR;rw [zgK hx,zT,hx];rfl) (by unfold zR;rw [zhE];rfl)]
 exact congrArg some (zdN _ 0 l)
theorem zu0{l:List (List UInt8)}(hl:ziI l)(n:List UInt8):zaB l n=some (l.any fun y=>n == y):=by
 unfold zaB zbP
 rw [show ((zz (fun z=>z8 l n z) 0).bind fun o=>zaq o (fun b=>zbk) some)=_ from zbG (p:=fun y:List UInt8=>n == y) hl
  (fun i x hx=>by unfold z8;rw [zgK hx,zT,hx];rfl) (by unfold z8;rw [zhE];rfl)]
 exact congrArg some (zdN _ 0 l)
theorem zlz{c:za}(hl:ziI c.Methods)(n:List UInt8):zdp c n=some (ixF (fun y=>y.Name == n) 0 c.Methods):=by
 unfold zdp zaR
 rw [show ((zz (fun z=>zH c.Methods n z) 0).bind fun o=>zaq o (fun b=>zav) some)=_ from zbG (p:=fun y:zc=>y.Name == n) hl
  (fun i x hx=>by unfold zH;rw [zgK hx,zT,hx];rfl) (by unfold zH;rw [zhE];rfl)]
 rfl
theorem zmk{c:za}(hl:ziI c.Fields)(n:List UInt8):zgS c n=some (ixF (fun y=>y.Name == n) 0 c.Fields):=by
 unfold zgS za1
 rw [show ((zz (fun z=>zO c.Fields n z) 0).bind fun o=>zaq o (fun b=>zaI) some)=_ from zbG (p:=fun y:zh=>y.Name == n) hl
  (fun i x hx=>by unfold zO;rw [zgK hx,zT,hx];rfl) (by unfold zO;rw [zhE];rfl)]
 rfl
def zkY(f:zh):Bool:=(zpk f.Name&&!(f.Name == [36,105,110,105,116]))&&zhX f.Type_
theorem zmm{f:zh}(h1:Len f.Name)(h2:Len f.Type_):zgT f=some (zkY f):=by
 unfold zgT zkY
 rw [ziV h1,zg3 h2,Option.bind_some]
 cases (zpk f.Name&&!(f.Name == [36,105,110,105,116])) <;> rfl
theorem zq6{l:List zh}(hl:ziI l)(h:∀f∈l,Len f.Name∧Len f.Type_)(n:Int):zde l n=cond (uB zkY (·.Name) [] l) (some false) (some (decide ((l.length:Int)≤n))):=by
 unfold zde
 refine zme (ok:=zkY) (nm:=(·.Name)) hl (fun i x hx=>?_) ?_
 ·have hm:=h x (List.mem_of_getElem? hx)
  have hi:=(List.getElem?_eq_some_iff.1 hx).1
  unfold zcB
  rw [zgK hx,zT,hx]
  simp only [Option.bind_some,cond_true]
  rw [zmm hm.1 hm.2,Option.bind_some,znk (by omega),Option.bind_some,zth (by unfold ziI at *;rw [List.length_take];omega)]
  cases zkY x <;> rfl
 ·unfold zcB
  rw [zhE];rfl
theorem zs5{l:List (List UInt8)}(hl:ziI l)(h:∀s∈l,Len s)(n:Int):zd6 l n=cond (uB zda id [] l) (some false) (some (decide ((l.length:Int)≤n))):=by
 unfold zd6
 refine zme (ok:=zda) (nm:=id) hl (fun i x hx=>?_) ?_
 ·have hm:=h x (List.mem_of_getElem? hx)
  have hi:=(List.getElem?_eq_some_iff.1 hx).1
  unfold zdf
  rw [zgK hx,zT,hx]
  simp only [Option.bind_some,cond_true]
  rw [zeV hm,Option.bind_some,znk (by omega),Option.bind_some,zu0 (by unfold ziI at *;rw [List.length_take];omega)]
  cases zda x <;> rfl
 ·unfold zdf
  rw [zhE];rfl
def zm9(l:List (List UInt8)):Bool:=!(l.any fun s=>!zhX s)
theorem zms{l:List (List UInt8)}(hl:ziI l)(h:∀s∈l,Len s):zgV l=some (zm9 l):=by
 unfold zgV zbM zcd
 rw [show ((zz (fun z=>zat l z) 0).bind fun o=>zaq o (fun b=>zbN) some)=_ from zbG (p:=fun s=>!zhX s) hl
  (fun i x hx=>by
   unfold zat zgH
   rw [zgK hx,zT,hx]
   simp only [Option.bind_some,cond_true]
   rw [zg3 (h x (List.mem_of_getElem? hx))]
   rfl) (by unfold zat;rw [zhE];rfl)]
 rw [Option.bind_some,zdN]
 rfl
def zu2(n:Int)(x:zn):Bool:=(!zkc x)||(zhs x.Op&&decide (n≤x.A))
def instrN(c:List zn):Bool:=zk (c.length:Int) 1 100&&(c.getLast?.elim false (fun y=>zi4 y.Op)&&!(c.any (zu2 (c.length:Int))))
theorem ziO{m:zc}(hl:ziI m.Code)(h:∀x∈m.Code,Len x.C∧Len x.M):zdq m=some (instrN m.Code):=by
 have hc:zaM m.Code (m.Code.length:Int)=some (m.Code.any (zu2 (m.Code.length:Int))):=by
  unfold zaM zbX
  rw [show ((zz (fun z=>zaj m.Code (m.Code.length:Int) z) 0).bind fun o=>zaq o (fun b=>zby) some)=_ from zbG (p:=zu2 (m.Code.length:Int)) hl
   (fun i x hx=>by
    have hm:=h x (List.mem_of_getElem? hx)
    unfold zaj zdH
    rw [zgK hx,zT,hx]
    simp only [Option.bind_some,cond_true]
    rw [zsa hm.1 hm.2]
    rfl) (by unfold zaj;rw [zhE];rfl)]
  exact congrArg some (zdN _ 0 _)
 unfold zdq instrN
 rw [hc]
 cases hb:zk (m.Code.length:Int) 1 100 with
 |false=>rfl
 |true =>
  have hb':(decide (1≤(m.Code.length:Int))&&decide ((m.Code.length:Int)≤100))=true:=hb
  simp only [Bool.and_eq_true,decide_eq_true_eq] at hb'
  have e:IntKind.i64.wrap ((m.Code.length:Int)-1)=((m.Code.length-1:Nat):Int):=by
   rw [zlh (by omega) (by omega)];omega
  rw [e,zT,←List.getLast?_eq_getElem?]
  cases hg:m.Code.getLast? with
  |none =>
   rw [List.getLast?_eq_none_iff] at hg
   rw [hg] at hb'
   simp at hb'
  |some y =>
   simp only [Option.bind_some,Bool.not_true,cond_false,Option.elim_some,Bool.true_and]
   cases zi4 y.Op <;> rfl
def ztU(n:Int)(y:zV):Bool:=(((decide (y.From<0)||decide (y.To≤y.From))||decide (n<y.To))||!(zk y.At 0 (IntKind.i64.wrap (n-1))))||(!(y.C == [])&&!zda y.C)
def zm8(m:zc):Bool:=!(m.Traps.any (ztU (m.Code.length:Int)))&&decide ((m.Traps.length:Int)≤6)
theorem zmq{m:zc}(hl:ziI m.Traps)(h:∀x∈m.Traps,Len x.C):zgU m=some (zm8 m):=by
 unfold zgU zbb zbF
 rw [show ((zz (fun z=>z1 m.Traps m.Name m.Params m.Ret m.Static m.Abstract m.Locals m.Stack m.Code m.Maps m.Traps z) 0).bind fun o=>zaq o (fun b=>zbc) some)=_ from zbG (p:=ztU (m.Code.length:Int)) hl
  (fun i x hx=>by
   have hm:=h x (List.mem_of_getElem? hx)
   unfold z1 zgG ztU
   rw [zgK hx,zT,hx]
   simp only [Option.bind_some,cond_true]
   rw [zeV hm]
   cases (((decide (x.From<0)||decide (x.To≤x.From))||decide ((m.Code.length:Int)<x.To))||!(zk x.At 0 (IntKind.i64.wrap ((m.Code.length:Int)-1)))) with
   |true=>rfl
   |false=>cases (x.C == []) <;> rfl) (by unfold z1;rw [zhE];rfl)]
 rw [Option.bind_some,zdN]
 rfl
def gB{α:Type}(bad:List α→α→Bool):List α→List α→Bool
 |_,[]=>false
 |pre,x ::r=>bad pre x||gB bad (pre++[x]) r
theorem ztf{α:Type}{body:Int→Option (Sum Int (Sum Unit Bool))}{l:List α}{bad:List α→α→Bool}(hl:l.length≤9223372036854775807)
  (hb:∀(i:Nat) x,l[i]?=some x→body (i:Int)=cond (bad (l.take i) x) (some (.inr (.inr false))) (some (.inl (IntKind.i64.wrap ((i:Int)+1)))))
  (he:body (l.length:Int)=some (.inr (.inl ()))):zz body 0=some (cond (gB bad [] l) (.inr false) (.inl ())):=by
 have key:∀(r pre:List α),l=pre++r→zz body (pre.length:Int)=some (cond (gB bad pre r) (.inr false) (.inl ())):=by
  intro r
  induction r with
  |nil =>
   intro pre h
   rw [List.append_nil] at h
   subst h
   rw [zan,he]
   rfl
  |cons x r ih =>
   intro pre h
   have hlen:l.length=pre.length+(r.length+1):=by rw [h];simp
   have hx:l[pre.length]?=some x:=by rw [h];simp
   have ht:l.take pre.length=pre:=by rw [h];simp
   rw [zan,hb _ x hx,ht]
   unfold gB
   cases bad pre x with
   |true=>rfl
   |false =>
    rw [zbW (by omega)]
    have:=ih (pre++[x]) (by rw [h];simp)
    rw [show (pre++[x]).length=pre.length+1 by simp] at this
    exact this
 exact key l [] rfl
def znN(v:List UInt8):Bool:=(((v == [73])||(v == [78]))||(v == [84]))||zvr v
theorem znh{s:List UInt8}(h:Len s):zhH s=some (znN s):=by
 unfold zhH znN
 rw [zlU h]
 cases (((s == [73])||(s == [78]))||(s == [84])) <;> rfl
def zkj(l:List (List UInt8)):Bool:=!(l.any fun s=>!znN s)
theorem zhI{l:List (List UInt8)}(hl:ziI l)(h:∀s∈l,Len s):zef l=some (zkj l):=by
 unfold zef zbf zbO
 rw [show ((zz (fun z=>z7 l z) 0).bind fun o=>zaq o (fun b=>zbj) some)=_ from zbG (p:=fun s=>!znN s) hl
  (fun i x hx=>by
   unfold z7 zfo
   rw [zgK hx,zT,hx]
   simp only [Option.bind_some,cond_true]
   rw [znh (h x (List.mem_of_getElem? hx))]
   rfl) (by unfold z7;rw [zhE];rfl)]
 rw [Option.bind_some,zdN]
 rfl
theorem zrF{l:List (List UInt8)}(hl:ziI l)(n:List UInt8):zA l n=some (l.any fun y=>n == y):=by
 unfold zA zcA
 rw [show ((zz (fun z=>zaY l n z) 0).bind fun o=>zaq o (fun b=>zch) some)=_ from zbG (p:=fun y:List UInt8=>n == y) hl
  (fun i x hx=>by unfold zaY;rw [zgK hx,zT,hx];rfl) (by unfold zaY;rw [zhE];rfl)]
 exact congrArg some (zdN _ 0 l)
def zv9(m:zc)(pre:List zaA)(x:zaA):Bool:=
 ((!(decide (0≤x.At)&&decide (x.At<(m.Code.length:Int))))||(pre.getLast?.elim false (fun y=>decide (x.At≤y.At)))) ||
 (((!((x.Locals.length:Int) == m.Locals))||decide (m.Stack<(x.Stack.length:Int)))||((!zkj x.Locals||!zkj x.Stack)||x.Stack.any (fun y=>[84] == y)))
def zpf(m:zc):Bool:=!(gB (zv9 m) [] m.Maps)&&decide ((m.Maps.length:Int)≤100)
structure zt0(m:zc):Prop where
 len:ziI m.Maps
 code:ziI m.Code
 all:∀x∈m.Maps,(ziI x.Locals∧∀s∈x.Locals,Len s)∧(ziI x.Stack∧∀s∈x.Stack,Len s)
theorem zsI{α:Type}{l:List α}{i:Nat}(h:i<l.length)(h0:0<i):(l.take i).getLast?=l[i-1]?:=by
 rw [List.getLast?_eq_getElem?,List.getElem?_take_of_lt (by simp;omega)]
 congr 1
 simp;omega
theorem zng{m:zc}(h:zt0 m):zhG m=some (zpf m):=by
 have j2:∀(i:Nat) (x:zaA) (b:Bool),x∈m.Maps→zdr m (i:Int) x b=cond (b||(((!((x.Locals.length:Int) == m.Locals))||decide (m.Stack<(x.Stack.length:Int)))||((!zkj x.Locals||!zkj x.Stack)||x.Stack.any (fun y=>[84] == y)))) (some (.inr (.inr false))) (some (.inl (IntKind.i64.wrap ((i:Int)+1)))):=fun i x b hx=>by
  obtain ⟨⟨h1,h2⟩,h3,h4⟩:=h.all x hx
  unfold zdr
  rw [zhI h1 h2,zhI h3 h4,zrF h3]
  cases b with
  |true=>rfl
  |false =>
   cases ((!((x.Locals.length:Int) == m.Locals))||decide (m.Stack<(x.Stack.length:Int))) with
   |true=>rfl
   |false =>
    cases zkj x.Locals with
    |false=>rfl
    |true=>cases zkj x.Stack <;> rfl
 have hl:zz (fun z=>zds m z) 0=_:=ztf (bad:=zv9 m) h.len (fun i x hx=>by
  have hm:=List.mem_of_getElem? hx
  have hi:=(List.getElem?_eq_some_iff.1 hx).1
  have hlen:=h.len
  have hcode:=h.code
  unfold ziI at hlen hcode
  show zds m (i:Int)=_
  unfold zds zv9
  rw [zgK hx,zT,hx]
  simp only [Option.bind_some,cond_true]
  have hb:zk x.At 0 (IntKind.i64.wrap ((m.Code.length:Int)-1))=(decide (0≤x.At)&&decide (x.At<(m.Code.length:Int))):=by
   show (decide (0≤x.At)&&decide (x.At≤IntKind.i64.wrap ((m.Code.length:Int)-1)))=_
   rw [zlh (by omega) (by omega)]
   congr 1
   exact decide_eq_decide.2 (by omega)
  rw [hb]
  cases (decide (0≤x.At)&&decide (x.At<(m.Code.length:Int))) with
  |false=>exact j2 i x true hm
  |true =>
   rcases Nat.eq_zero_or_pos i with h0 |h0
   ·subst h0
    exact j2 0 x false hm
   ·rw [decide_eq_true (show (0:Int)<(i:Int) by omega),zsI hi h0]
    have e:IntKind.i64.wrap ((i:Int)-1)=((i-1:Nat):Int):=by
     rw [zlh (by omega) (by omega)];omega
    rw [e,zT,List.getElem?_eq_getElem (show i-1<m.Maps.length by omega)]
    exact j2 i x _ hm) (by show zds m (m.Maps.length:Int)=_;unfold zds;rw [zhE];rfl)
 unfold zhG zpf
 rw [hl]
 cases gB (zv9 m) [] m.Maps <;> rfl
structure zvO(m:zc):Prop where
 code:ziI m.Code∧∀x∈m.Code,Len x.C∧Len x.M
 traps:ziI m.Traps∧∀x∈m.Traps,Len x.C
structure GIn(m:zc):Prop where
 name:Len m.Name
 params:m.Params.length≤1000000000000∧∀s∈m.Params,Len s
 ret:Len m.Ret
 maps:zt0 m
 body:zvO m
 small:m.Code.length≤1000000000000∧m.Maps.length≤1000000000000∧m.Traps.length≤1000000000000
def zdO(m:zc):Bool:=
 ((!((!zpk m.Name)||decide (6<(m.Params.length:Int)))&&zm9 m.Params)&&zul m.Ret)&&cond m.Abstract (zh2 m)
  (!((m.Name == [36,105,110,105,116])&&(((!m.Static)||decide (0<(m.Params.length:Int)))||(!(m.Ret == [86]))))&&(zk m.Locals (zL m) 16&&(zk m.Stack 0 16&&((instrN m.Code&&zm8 m)&&zpf m))))
theorem zxO{m:zc}(h:GIn m):ziI m.Params:=by have:=h.params.1;unfold ziI;omega
theorem zk8{m:zc}(h:GIn m):zgk m=some (zdO m):=by
 unfold zgk zdO
 rw [ziV h.name,Option.bind_some,zms (zxO h) h.params.2,zpc h.ret,ziO h.body.code.1 h.body.code.2,zng h.maps,zmq h.body.traps.1 h.body.traps.2]
 cases ((!zpk m.Name)||decide (6<(m.Params.length:Int))) with
 |true=>rfl
 |false =>
  cases zm9 m.Params with
  |false=>rfl
  |true =>
   cases zul m.Ret with
   |false=>rfl
   |true =>
    cases m.Abstract with
    |true=>rfl
    |false =>
     cases ((m.Name == [36,105,110,105,116])&&(((!m.Static)||decide (0<(m.Params.length:Int)))||(!(m.Ret == [86])))) with
     |true=>rfl
     |false =>
      cases zk m.Locals (zL m) 16 with
      |false=>rfl
      |true =>
       cases zk m.Stack 0 16 with
       |false=>rfl
       |true=>cases instrN m.Code <;> cases zpf m <;> cases zm8 m <;> rfl
theorem zo3{l:List zc}(hl:ziI l)(h:∀m∈l,GIn m)(n:Int)(a b:List UInt8)(i:Bool)(c:List (List UInt8))(d:List zh)(e:List zc):
  zc6 l n a b i c d e=cond (uB (fun m=>(m.Abstract == i)&&zdO m) (·.Name) [] l) (some false) (some (decide ((l.length:Int)≤n))):=by
 unfold zc6
 refine zme (ok:=fun m=>(m.Abstract == i)&&zdO m) (nm:=(·.Name)) hl (fun j x hx=>?_) ?_
 ·have hm:=h x (List.mem_of_getElem? hx)
  have hi:=(List.getElem?_eq_some_iff.1 hx).1
  unfold zcr zh0
  rw [zgK hx,zT,hx]
  simp only [Option.bind_some,cond_true]
  rw [zk8 hm,znk (by omega)]
  simp only [Option.bind_some]
  rw [zrE (by unfold ziI at *;rw [List.length_take];omega)]
  cases (x.Abstract == i) with
  |false=>rfl
  |true=>cases zdO x <;> rfl
 ·unfold zcr
  rw [zhE];rfl
structure zvP(c:za):Prop where
 name:Len c.Name
 super:Len c.Super
 impl:ziI c.Impl∧∀s∈c.Impl,Len s
 fields:ziI c.Fields∧∀f∈c.Fields,Len f.Name∧Len f.Type_
 methods:ziI c.Methods∧∀m∈c.Methods,GIn m
def zmC(c:za):Bool:=
 !(c.Interface&&((!(c.Super == [79,98,106,101,99,116]))||decide (0<(c.Fields.length:Int)))) &&
 (((((zda c.Name&&zda c.Super)&&(!(uB zda id [] c.Impl)&&decide ((c.Impl.length:Int)≤4)))&&(!(uB zkY (·.Name) [] c.Fields)&&decide ((c.Fields.length:Int)≤8)))) &&
  (!(uB (fun m=>(m.Abstract == c.Interface)&&zdO m) (·.Name) [] c.Methods)&&decide ((c.Methods.length:Int)≤8)))
theorem znf{c:za}(h:zvP c):ziM c=some (zmC c):=by
 have e:∀(b d:Bool),cond b (some false) (some d)=some (!b&&d):=fun b d=>by cases b <;> rfl
 unfold ziM zmC
 rw [zq6 h.fields.1 h.fields.2,zo3 h.methods.1 h.methods.2,zeV h.name,zeV h.super,zs5 h.impl.1 h.impl.2,e,e,e]
 cases (c.Interface&&((!(c.Super == [79,98,106,101,99,116]))||decide (0<(c.Fields.length:Int)))) with
 |true=>rfl
 |false =>
  cases zda c.Name with
  |false=>rfl
  |true=>cases zda c.Super <;> rfl
theorem zoL{body:Int→Option (Sum Int (Sum Unit Bool))}{a b:List (List UInt8)}(hl:a.length≤1000000)(hn:a.length=b.length)
  (hb:∀(i:Nat) x y,a[i]?=some x→b[i]?=some y→body (i:Int)=cond (!(x == y)) (some (.inr (.inr false))) (some (.inl (IntKind.i64.wrap ((i:Int)+1)))))
  (he:body (a.length:Int)=some (.inr (.inl ()))):zz body 0=some (cond (a == b) (.inl ()) (.inr false)):=by
 have key:∀(r s pre pre':List (List UInt8)),pre.length=pre'.length→a=pre++r→b=pre'++s→zz body (pre.length:Int)=some (cond (r == s) (.inl ()) (.inr false)):=by
  intro r
  induction r with
  |nil =>
   intro s pre pre' hp h1 h2
   have:s=[]:=by
    have:a.length=pre.length:=by rw [h1];simp
    have:b.length=pre'.length+s.length:=by rw [h2];simp
    exact List.eq_nil_of_length_eq_zero (by omega)
   subst this
   rw [List.append_nil] at h1
   subst h1
   rw [zan,he]
   rfl
  |cons x r ih =>
   intro s pre pre' hp h1 h2
   have hlen:a.length=pre.length+(r.length+1):=by rw [h1];simp
   have hlen2:b.length=pre'.length+s.length:=by rw [h2];simp
   cases s with
   |nil=>simp at hlen2;omega
   |cons y s =>
    have hx:a[pre.length]?=some x:=by rw [h1];simp
    have hy:b[pre.length]?=some y:=by rw [h2,hp];simp
    rw [zan,hb _ x y hx hy]
    rw [show ((x ::r) == (y ::s))=((x == y)&&(r == s)) from rfl]
    cases x == y with
    |false=>rfl
    |true =>
     rw [zbW (by omega)]
     have:=ih s (pre++[x]) (pre'++[y]) (by simp [hp]) (by rw [h1];simp) (by rw [h2];simp)
     rw [show (pre++[x]).length=pre.length+1 by simp] at this
     exact this
 exact key a b [] [] rfl rfl rfl
theorem zv7{α:Type}{l:List α}{i:Nat}{x:α}(h:l[i]?=some x):decide ((i:Int)<(l.length:Int))=true:=
 decide_eq_true (by have:=(List.getElem?_eq_some_iff.1 h).1;omega)
theorem zwu{α:Type}{l:List α}:decide ((l.length:Int)<(l.length:Int))=false:=decide_eq_false (by omega)
theorem zuf{a b:List (List UInt8)}(h:a.length≠b.length):(a == b)=false:=by
 refine beq_eq_false_iff_ne.2 fun e=>h (by rw [e])
theorem zmb{a b:List (List UInt8)}(h:a.length≤1000000):zca a b=some (a == b):=by
 unfold zca
 by_cases hl:a.length=b.length
 ·have e:((a.length:Int) == (b.length:Int))=true:=by rw [hl];exact beq_self_eq_true _
  rw [e,show zz (fun z=>zaX a b z) 0=_ from zoL h hl (fun i x y hx hy=>by
   unfold zaX
   rw [zv7 hx,zT,hx,zT,hy];rfl) (by unfold zaX;rw [zwu];rfl)]
  cases a == b <;> rfl
 ·have e:((a.length:Int) == (b.length:Int))=false:=beq_eq_false_iff_ne.2 (by omega)
  rw [e,zuf hl];rfl
theorem zle{a b:List (List UInt8)}(h:a.length≤1000000):zgu a b=some (a == b):=by
 unfold zgu
 by_cases hl:a.length=b.length
 ·have e:((a.length:Int) == (b.length:Int))=true:=by rw [hl];exact beq_self_eq_true _
  rw [e,show zz (fun z=>zdP a b z) 0=_ from zoL h hl (fun i x y hx hy=>by
   unfold zdP
   rw [zv7 hx,zT,hx,zT,hy];rfl) (by unfold zdP;rw [zwu];rfl)]
  cases a == b <;> rfl
 ·have e:((a.length:Int) == (b.length:Int))=false:=beq_eq_false_iff_ne.2 (by omega)
  rw [e,zuf hl];rfl
abbrev Tx:=List UInt8
def cl(L:List za)(n:Tx):Option za:=L.find? (fun c=>c.Name == n)
def atN(L:List za)(n:Tx):Int:=ixF (fun c=>c.Name == n) 0 L
def zet(L:List za)(n:Tx):Bool:=L.any (fun c=>c.Name == n)
def isF(L:List za)(n:Tx):Bool:=match cl L n with |some c=>c.Interface |none=>false
theorem zns{α:Type}(p:α→Bool):∀(l:List α) (k:Nat),(∃j x,ixF p k l=((k+j:Nat):Int)∧l[j]?=some x∧p x=true∧l.find? p=some x)∨(ixF p k l=-1∧l.find? p=none)
 | [],k=>.inr ⟨rfl,rfl⟩
 |y ::r,k=>by
  unfold ixF
  cases h:p y with
  |true=>exact .inl ⟨0,y,rfl,rfl,h,by simp [List.find?,h]⟩
  |false =>
   rcases zns p r (k+1) with ⟨j,x,h1,h2,h3,h4⟩ |⟨h1,h2⟩
   ·exact .inl ⟨j+1,x,by show ixF p (k+1) r=_;rw [h1];congr 1;omega,by simpa using h2,h3,by simp [List.find?,h,h4]⟩
   ·exact .inr ⟨h1,by simp [List.find?,h,h2]⟩
theorem zmV{α:Type}(p:α→Bool):∀(l r:List α) (k:Nat),ixF p k (l++r)=cond (l.any p) (ixF p k l) (ixF p (k+l.length) r)
 | [],r,k=>rfl
 |y ::l,r,k=>by
  show ixF p k (y ::(l++r))=_
  rw [show ixF p k (y ::(l++r))=cond (p y) (k:Int) (ixF p (k+1) (l++r)) from rfl,show ixF p k (y ::l)=cond (p y) (k:Int) (ixF p (k+1) l) from rfl,List.any_cons]
  cases h:p y with
  |true=>rfl
  |false =>
   rw [Bool.false_or,cond_false,cond_false,zmV p l r (k+1),show k+1+l.length=k+(y ::l).length by simp;omega]
theorem zua(L:List za)(n:Tx):idx L (atN L n)=cl L n:=by
 unfold atN cl
 rcases zns (fun c:za=>c.Name == n) L 0 with ⟨j,x,h1,h2,h3,h4⟩ |⟨h1,h2⟩
 ·rw [h1,h4,zT,Nat.zero_add,h2]
 ·rw [h1,h2];rfl
theorem zoc(L:List za)(n:Tx):(cl L n).isSome=zet L n:=by
 unfold cl zet
 rw [Bool.eq_iff_iff,List.any_eq_true]
 exact List.find?_isSome
theorem zdL{L:List za}{n:Tx}{c:za}(h:cl L n=some c):c∈L∧c.Name=n:=by
 unfold cl at h
 exact ⟨List.mem_of_find?_eq_some h,eq_of_beq (List.find?_some (p:=fun c:za=>c.Name == n) h)⟩
theorem zhK{L:List za}{n:Tx}(h:zet L n=true):∃c,cl L n=some c:=by
 rw [←zoc] at h
 exact Option.isSome_iff_exists.1 h
theorem zhL{L:List za}{n:Tx}{c:za}(h:cl L n=some c):zet L n=true:=by rw [←zoc,h];rfl
theorem zrH{L:List za}{n:Tx}(h:cl L n=none):zet L n=false:=by rw [←zoc,h];rfl
theorem zhB{L:List za}{n:Tx}:zet L n=true↔n∈L.map (·.Name):=by
 unfold zet
 rw [List.any_eq_true,List.mem_map]
 constructor
 ·rintro ⟨c,h1,h2⟩;exact ⟨c,h1,eq_of_beq h2⟩
 ·rintro ⟨c,h1,h2⟩;exact ⟨c,h1,beq_iff_eq.2 h2⟩
def Nd(L:List za):Prop:=∀(i j:Nat) (c d:za),L[i]?=some c→L[j]?=some d→c.Name=d.Name→i=j
theorem Nd.at{L:List za}(h:Nd L){i:Nat}{c:za}(hi:L[i]?=some c):atN L c.Name=(i:Int):=by
 unfold atN
 rcases zns (fun d:za=>d.Name == c.Name) L 0 with ⟨j,x,h1,h2,h3,h4⟩ |⟨h1,h2⟩
 ·rw [h1,Nat.zero_add,h j i x c h2 hi (eq_of_beq h3)]
 ·have:=List.find?_eq_none.1 h2 c (List.mem_of_getElem? hi)
  simp at this
theorem Nd.cl{L:List za}(h:Nd L){c:za}(hc:c∈L):cl L c.Name=some c:=by
 obtain ⟨i,hi,e⟩:=List.getElem_of_mem hc
 have hi':L[i]?=some c:=by rw [List.getElem?_eq_getElem hi,e]
 rw [←zua,h.at hi',zT,hi']
theorem Nd.snoc{L:List za}(h:Nd L){c:za}(hc:zet L c.Name=false):Nd (L++[c]):=by
 have no:∀(i:Nat) d,L[i]?=some d→d.Name≠c.Name:=fun i d hi e=>by
  have:zet L c.Name=true:=zhB.2 (List.mem_map.2 ⟨d,List.mem_of_getElem? hi,e⟩)
  rw [hc] at this;cases this
 have get:∀(i:Nat) d,(L++[c])[i]?=some d→(L[i]?=some d)∨(i=L.length∧d=c):=fun i d hi=>by
  rw [List.getElem?_append] at hi
  split at hi
  ·exact .inl hi
  ·rename_i hlt
   right
   have h1:=(List.getElem?_eq_some_iff.1 hi).1
   simp at h1
   have h2:i=L.length:=by omega
   subst h2
   simp at hi
   exact ⟨rfl,hi.symm⟩
 intro i j d e hi hj hn
 rcases get i d hi with h1 |⟨h1,h1'⟩ <;> rcases get j e hj with h2 |⟨h2,h2'⟩
 ·exact h i j d e h1 h2 hn
 ·subst h2';exact absurd hn (no i d h1)
 ·subst h1';exact absurd hn.symm (no j e h2)
 ·rw [h1,h2]
theorem zti(L:List za)(c:za)(n:Tx):zet (L++[c]) n=(zet L n||(c.Name == n)):=by
 unfold zet;simp
theorem zmY{α:Type}(k k':Tx)(x:α):∀(m:List (Tx×α)),zcj k (zff k' x m)=if k=k' then some x else zcj k m
 | []=>by
  unfold zff zcj zcj
  by_cases h:k=k'
  ·rw [if_pos h,decide_eq_true h];rfl
  ·rw [if_neg h,decide_eq_false h];rfl
 |(a,y)::r=>by
  unfold zff
  by_cases h':k'=a
  ·subst h'
   rw [decide_eq_true rfl]
   show zcj k ((k',x)::r)=_
   unfold zcj
   by_cases h:k=k'
   ·rw [if_pos h,decide_eq_true h];rfl
   ·rw [if_neg h,decide_eq_false h];rfl
  ·rw [decide_eq_false h']
   show zcj k ((a,y)::zff k' x r)=_
   unfold zcj
   rw [zmY k k' x r]
   by_cases h:k=k'
   ·subst h
    rw [if_pos rfl,decide_eq_false h',if_pos rfl];rfl
   ·rw [if_neg h,if_neg h]
def zbZ(L:List za)(m:List (Tx×Int)):Prop:=∀n,zcj n m=cond (zet L n) (some (atN L n)) none
theorem zbZ.snoc{L:List za}{m:List (Tx×Int)}(h:zbZ L m){c:za}(hc:zet L c.Name=false):zbZ (L++[c]) (zff c.Name (L.length:Int) m):=by
 intro n
 rw [zmY,zti,h n]
 unfold atN
 rw [zmV]
 show _=cond _ (some (cond (zet L n) _ _)) none
 by_cases e:n=c.Name
 ·subst e
  rw [if_pos rfl,hc,beq_self_eq_true]
  simp [ixF]
 ·rw [if_neg e,beq_eq_false_iff_ne.2 (Ne.symm e)]
  cases zet L n <;> rfl
theorem zbZ.has{L:List za}{m:List (Tx×Int)}(h:zbZ L m)(n:Tx):(zcj n m).isSome=zet L n:=by
 rw [h n];cases zet L n <;> rfl
theorem zbZ.idx{L:List za}{m:List (Tx×Int)}(h:zbZ L m){n:Tx}(hn:zet L n=true):idx L ((zcj n m).getD 0)=cl L n:=by
 rw [h n,hn];exact zua L n
inductive Rc(nx:Tx→List Tx):Tx→Tx→Prop
 |one {a b}:b∈nx a→Rc nx a b
 |more {a b c}:b∈nx a→Rc nx b c→Rc nx a c
theorem Rc.snoc{nx:Tx→List Tx}{a b c:Tx}(h:Rc nx a b)(hc:c∈nx b):Rc nx a c:=by
 induction h with
 |one h=>exact .more h (.one hc)
 |more h _ ih=>exact .more h (ih hc)
theorem Rc.into{nx:Tx→List Tx}{F:Tx→Prop}(hF:∀x,F x→∀y∈nx x,F y){a b:Tx}(h:Rc nx a b):(∀y∈nx a,F y)→F b:=by
 induction h with
 |one h=>exact fun ha=>ha _ h
 |more h _ ih=>exact fun ha=>ih (hF _ (ha _ h))
theorem zsj:∀{a b:List Tx},a.Nodup→(∀x∈a,x∈b)→a.length≤b.length
 | [],b,_,_=>by simp
 |x ::r,b,h,hs=>by
  rw [List.nodup_cons] at h
  have hx:=hs x (by simp)
  have h1:=zsj (a:=r) (b:=b.erase x) h.2 (fun y hy=>(List.mem_erase_of_ne (fun e=>h.1 (by rw [←e];exact hy))).2 (hs y (by simp [hy])))
  have h2:=List.length_erase_of_mem hx
  have h3:=List.length_pos_of_mem hx
  simp only [List.length_cons]
  omega
def push(z2:List Tx):List Tx→List Tx
 | []=>z2
 |s ::r=>push (cond (z2.any fun y=>s == y) z2 (z2++[s])) r
theorem zq9{s:Tx}{l:List Tx}:(l.any fun y=>s == y)=true↔s∈l:=by
 rw [List.any_eq_true]
 constructor
 ·rintro ⟨y,h1,h2⟩;rw [eq_of_beq h2];exact h1
 ·intro h;exact ⟨s,h,beq_self_eq_true _⟩
theorem zht:∀(l z2:List Tx),∃t,push z2 l=z2++t∧t.Nodup∧(∀x∈t,x ∉ z2∧x∈l)∧∀x∈l,x∈z2++t
 | [],z2=>⟨[],by simp [push],by simp,fun x h=>(by cases h),fun x h=>(by cases h)⟩
 |s ::r,z2=>by
  unfold push
  cases h:(z2.any fun y=>s == y) with
  |true =>
   obtain ⟨t,h1,h2,h3,h4⟩:=zht r z2
   refine ⟨t,h1,h2,fun x hx=>⟨(h3 x hx).1,List.mem_cons_of_mem _ (h3 x hx).2⟩,fun x hx=>?_⟩
   rcases List.mem_cons.1 hx with e |e
   ·rw [e];exact List.mem_append_left _ (zq9.1 h)
   ·exact h4 x e
  |false =>
   have hs:s ∉ z2:=fun hm=>by rw [zq9.2 hm] at h;cases h
   obtain ⟨t,h1,h2,h3,h4⟩:=zht r (z2++[s])
   refine ⟨s ::t,by show push (z2++[s]) r=_;rw [h1];simp,List.nodup_cons.2 ⟨fun hm=>(h3 s hm).1 (by simp),h2⟩,fun x hx=>?_,fun x hx=>?_⟩
   ·rcases List.mem_cons.1 hx with e |e
    ·rw [e];exact ⟨hs,by simp⟩
    ·exact ⟨fun hm=>(h3 x e).1 (List.mem_append_left _ hm),List.mem_cons_of_mem _ (h3 x e).2⟩
   ·rcases List.mem_cons.1 hx with e |e
    ·rw [e];simp
    ·have:=h4 x e
     simpa using this
def bfs(nx:Tx→List Tx):Nat→Nat→List Tx→List Tx
 | 0,_,z2=>z2
 |d+1,i,z2=>match z2[i]? with |none=>z2 |some x=>bfs nx d (i+1) (push z2 (nx x))
def fin(nx:Tx→List Tx):Nat→Nat→List Tx→Bool
 | 0,i,z2=>decide (z2.length≤i)
 |d+1,i,z2=>match z2[i]? with |none=>true |some x=>fin nx d (i+1) (push z2 (nx x))
def Inv(U s0 z2:List Tx):Prop:=∃T,z2=s0++T∧T.Nodup∧(∀x∈T,x∈U) 
theorem Inv.push{U s0 z2 l:List Tx}(h:Inv U s0 z2)(hU:∀y∈l,y∈U):Inv U s0 (push z2 l):=by
 obtain ⟨T,h1,h2,h3⟩:=h
 obtain ⟨t,k1,k2,k3,k4⟩:=zht l z2
 refine ⟨T++t,by rw [k1,h1];simp,List.nodup_append.2 ⟨h2,k2,fun a ha b hb e=>(k3 b hb).1 (by rw [h1,←e];exact List.mem_append_right _ ha)⟩,fun x hx=>?_⟩
 rcases List.mem_append.1 hx with e |e
 ·exact h3 x e
 ·exact hU x (k3 x e).2
theorem Inv.len{U s0 z2:List Tx}(h:Inv U s0 z2):z2.length≤s0.length+U.length:=by
 obtain ⟨T,h1,h2,h3⟩:=h
 have:=zsj h2 h3
 rw [h1,List.length_append];omega
theorem Inv.mem{U s0 z2:List Tx}(h:Inv U s0 z2)(h0:∀x∈s0,x∈U):∀x∈z2,x∈U:=by
 obtain ⟨T,h1,h2,h3⟩:=h
 intro x hx
 rw [h1] at hx
 rcases List.mem_append.1 hx with e |e
 ·exact h0 x e
 ·exact h3 x e
theorem Inv.start{U s0:List Tx}:Inv U s0 s0:=⟨[],by simp,by simp,fun x h=>(by cases h)⟩
theorem zrw{nx:Tx→List Tx}{U s0:List Tx}(hU:∀x y,y∈nx x→y∈U):∀(d i:Nat) (z2:List Tx),Inv U s0 z2→s0.length+U.length≤d+i→fin nx d i z2=true
 | 0,i,z2,h,hd=>by
  have:=h.len
  exact decide_eq_true (by omega)
 |d+1,i,z2,h,hd=>by
  unfold fin
  cases z2[i]? with
  |none=>rfl
  |some x=>exact zrw hU d (i+1) _ (h.push (hU x)) (by omega)
theorem zlj{nx:Tx→List Tx}:∀(d i:Nat) (z2:List Tx),∃t,bfs nx d i z2=z2++t
 | 0,i,z2=>⟨[],by simp [bfs]⟩
 |d+1,i,z2=>by
  unfold bfs
  cases z2[i]? with
  |none=>exact ⟨[],by simp⟩
  |some x =>
   obtain ⟨t,h⟩:=zlj (nx:=nx) d (i+1) (push z2 (nx x))
   obtain ⟨u,k,_⟩:=zht (nx x) z2
   exact ⟨u++t,by show bfs nx d (i+1) _=_;rw [h,k];simp⟩
theorem zrf{nx:Tx→List Tx}{U s0:List Tx}(hU:∀x y,y∈nx x→y∈U):∀(d i:Nat) (z2:List Tx),Inv U s0 z2→Inv U s0 (bfs nx d i z2)
 | 0,i,z2,h=>h
 |d+1,i,z2,h=>by
  unfold bfs
  cases z2[i]? with
  |none=>exact h
  |some x=>exact zrf hU d (i+1) _ (h.push (hU x))
theorem zoa{nx:Tx→List Tx}{Q:Tx→Prop}(hQ:∀x,Q x→∀y∈nx x,Q y):∀(d i:Nat) (z2:List Tx),(∀x∈z2,Q x)→∀x∈bfs nx d i z2,Q x
 | 0,i,z2,h=>h
 |d+1,i,z2,h=>by
  unfold bfs
  cases hi:z2[i]? with
  |none=>exact h
  |some x =>
   refine zoa hQ d (i+1) _ fun y hy=>?_
   obtain ⟨u,k1,_,k3,_⟩:=zht (nx x) z2
   rw [k1] at hy
   rcases List.mem_append.1 hy with e |e
   ·exact h y e
   ·exact hQ x (h x (List.mem_of_getElem? hi)) y (k3 y e).2
theorem zmN{nx:Tx→List Tx}:∀(d i:Nat) (z2:List Tx),fin nx d i z2=true→(∀j x,j<i→z2[j]?=some x→∀y∈nx x,y∈z2)→∀x∈bfs nx d i z2,∀y∈nx x,y∈bfs nx d i z2
 | 0,i,z2,hf,h=>fun x hx y hy=>by
  have hl:z2.length≤i:=of_decide_eq_true hf
  obtain ⟨j,hj,e⟩:=List.getElem_of_mem (show x∈z2 from hx)
  exact h j x (by omega) (by rw [List.getElem?_eq_getElem hj,e]) y hy
 |d+1,i,z2,hf,h=>by
  unfold fin at hf
  unfold bfs
  cases hi:z2[i]? with
  |none =>
   intro x hx y hy
   have hl:z2.length≤i:=List.getElem?_eq_none_iff.1 hi
   obtain ⟨j,hj,e⟩:=List.getElem_of_mem (show x∈z2 from hx)
   exact h j x (by omega) (by rw [List.getElem?_eq_getElem hj,e]) y hy
  |some z =>
   rw [hi] at hf
   obtain ⟨u,k1,_,k3,k4⟩:=zht (nx z) z2
   have hlt:i<z2.length:=(List.getElem?_eq_some_iff.1 hi).1
   refine zmN d (i+1) _ hf fun j x hj hx y hy=>?_
   rw [k1] at hx ⊢
   rw [List.getElem?_append_left (by omega)] at hx
   by_cases e:j=i
   ·subst e
    rw [hi] at hx
    cases hx
    exact k4 y hy
   ·exact List.mem_append_left _ (h j x (by omega) hx y hy)
theorem zvV{nx:Tx→List Tx}{d:Nat}{a b:Tx}(hf:fin nx d 0 (nx a)=true):b∈bfs nx d 0 (nx a)↔Rc nx a b:=by
 constructor
 ·exact zoa (Q:=fun x=>Rc nx a x) (fun x hx y hy=>hx.snoc hy) d 0 _ (fun x hx=>.one hx) b
 ·intro h
  refine h.into (F:=fun x=>x∈bfs nx d 0 (nx a)) (zmN d 0 _ hf (fun j x hj=>by omega)) fun y hy=>?_
  obtain ⟨t,e⟩:=zlj (nx:=nx) d 0 (nx a)
  rw [e];exact List.mem_append_left _ hy
theorem zoS{R:Type}{I:List Tx→Prop}{nx:Tx→List Tx}{stop:Tx→Option R}{body:List Tx×Int→Option (Sum (List Tx×Int) (Sum Unit R))}
  (hb:∀(i:Nat) z2 x,I z2→z2[i]?=some x→body (z2,(i:Int))=match stop x with |some r=>some (.inr (.inr r)) |none=>some (.inl (push z2 (nx x),((i+1:Nat):Int))))
  (he:∀(i:Nat) z2,I z2→z2.length≤i→body (z2,(i:Int))=some (.inr (.inl ())))
  (hp:∀z2 x,I z2→x∈z2→I (push z2 (nx x))):∀(d i:Nat) (z2:List Tx),I z2→fin nx d i z2=true →
  zz body (z2,(i:Int))=some (match ((bfs nx d i z2).drop i).findSome? stop with |some r=>(Sum.inr r:Sum Unit R) |none=>Sum.inl ())
 | 0,i,z2,hI,hf=>by
  have hl:z2.length≤i:=of_decide_eq_true hf
  rw [zan,he i z2 hI hl]
  show _=some (match (z2.drop i).findSome? stop with |some r=>(Sum.inr r:Sum Unit R) |none=>Sum.inl ())
  rw [List.drop_eq_nil_of_le hl]
  rfl
 |d+1,i,z2,hI,hf=>by
  unfold fin at hf
  unfold bfs
  cases hi:z2[i]? with
  |none =>
   have hl:z2.length≤i:=List.getElem?_eq_none_iff.1 hi
   rw [zan,he i z2 hI hl]
   show _=some (match (z2.drop i).findSome? stop with |some r=>(Sum.inr r:Sum Unit R) |none=>Sum.inl ())
   rw [List.drop_eq_nil_of_le hl]
   rfl
  |some x =>
   rw [hi] at hf
   obtain ⟨t,ht⟩:=zlj (nx:=nx) d (i+1) (push z2 (nx x))
   obtain ⟨u,hu,_⟩:=zht (nx x) z2
   have hx:(bfs nx d (i+1) (push z2 (nx x)))[i]?=some x:=by
    rw [ht,hu,List.append_assoc,List.getElem?_append_left (List.getElem?_eq_some_iff.1 hi).1,hi]
   obtain ⟨hlt,hge⟩:=List.getElem?_eq_some_iff.1 hx
   rw [zan,hb i z2 x hI hi]
   show _=some (match ((bfs nx d (i+1) (push z2 (nx x))).drop i).findSome? stop with |some r=>(Sum.inr r:Sum Unit R) |none=>Sum.inl ())
   rw [List.drop_eq_getElem_cons hlt,List.findSome?_cons,hge]
   cases stop x with
   |some r=>rfl
   |none=>exact zoS hb he hp d (i+1) _ (hp _ _ hI (List.mem_of_getElem? hi)) hf
def nxA(L:List za)(n:Tx):List Tx:=match cl L n with |none=>[] |some c=>(c.Super ::c.Impl).filter (fun s=>!(s == []))
def nxI(L:List za)(n:Tx):List Tx:=match cl L n with |none=>[] |some c=>c.Impl
structure zuw(L:List za):Prop where
 nd:Nd L
 noE:zet L []=false
 closed:∀c∈L,∀s∈c.Super ::c.Impl,s≠[]→zet L s=true
 implE:∀c∈L,[] ∉ c.Impl
structure Wf(L:List za):Prop extends zuw L where
 acyc:∀n,¬Rc (nxA L) n n
 superF:∀c∈L,isF L c.Super=false
 implF:∀c∈L,∀s∈c.Impl,isF L s=true
theorem zuw.nxA_in{L:List za}(h:zuw L)(x y:Tx)(hy:y∈nxA L x):y∈L.map (·.Name):=by
 unfold nxA at hy
 split at hy
 ·cases hy
 ·rename_i c hc
  rw [List.mem_filter] at hy
  exact zhB.1 (h.closed c (zdL hc).1 y hy.1 (by have:=hy.2;simpa using this))
theorem zuw.nxI_in{L:List za}(h:zuw L)(x y:Tx)(hy:y∈nxI L x):y∈L.map (·.Name):=by
 unfold nxI at hy
 split at hy
 ·cases hy
 ·rename_i c hc
  exact zhB.1 (h.closed c (zdL hc).1 y (List.mem_cons_of_mem _ hy) (fun e=>h.implE c (zdL hc).1 (by rw [←e];exact hy)))
def sup(L:List za):Nat→Tx→List Tx
 | 0,_=>[]
 |d+1,n=>match cl L n with |none=>[] |some c=>n ::sup L d c.Super
def ztL(L:List za):Nat→Tx→Bool
 | 0,n=>!zet L n
 |d+1,n=>match cl L n with |none=>true |some c=>ztL L d c.Super
theorem zp8{L:List za}(h:Wf L):∀(d:Nat) (n:Tx),ztL L d n=false→zet L n=true∧∃r,sup L (d+1) n=n ::r∧r.length=d∧(n ::r).Nodup∧(∀x∈r,x∈L.map (·.Name)∧Rc (nxA L) n x)
 | 0,n,hf=>by
  have hn:zet L n=true:=by simpa [ztL] using hf
  obtain ⟨c,hc⟩:=zhK hn
  exact ⟨hn,[],by simp [sup,hc],rfl,by simp,fun x h=>(by cases h)⟩
 |d+1,n,hf=>by
  unfold ztL at hf
  split at hf
  ·cases hf
  ·rename_i c hc
   obtain ⟨h0,r,h1,h2,h3,h4⟩:=zp8 h d c.Super hf
   have hs:c.Super∈nxA L n:=by
    unfold nxA
    rw [hc]
    refine List.mem_filter.2 ⟨by simp,?_⟩
    have:c.Super≠[]:=fun e=>by rw [e,h.noE] at h0;cases h0
    simpa using this
   have h5:∀x∈c.Super ::r,x∈L.map (·.Name)∧Rc (nxA L) n x:=fun x hx=>by
    rcases List.mem_cons.1 hx with e |e
    ·rw [e];exact ⟨zhB.1 h0,.one hs⟩
    ·exact ⟨(h4 x e).1,.more hs (h4 x e).2⟩
   refine ⟨zhL hc,c.Super ::r,?_,by simp [h2],List.nodup_cons.2 ⟨fun hm=>h.acyc n (h5 n hm).2,h3⟩,h5⟩
   show (match cl L n with |none=>[] |some c=>n ::sup L (d+1) c.Super)=_
   rw [hc]
   show n ::sup L (d+1) c.Super=_
   rw [h1]
theorem ztM{L:List za}(h:Wf L)(n:Tx):ztL L L.length n=true:=by
 cases hf:ztL L L.length n with
 |true=>rfl
 |false =>
  obtain ⟨h0,r,h1,h2,h3,h4⟩:=zp8 h _ n hf
  have:=zsj h3 (b:=L.map (·.Name)) (fun x hx=>by
   rcases List.mem_cons.1 hx with e |e
   ·rw [e];exact zhB.1 h0
   ·exact (h4 x e).1)
  simp at this
  omega
def zsG:Tx:=[79,98,106,101,99,116]
def ztN:Tx:=[84,104,114,111,119,110]
def gC(n s:Tx):za:=za.mk n s false [] [] []
def giv:List za:=[gC zsG [],gC ztN zsG,gC [78,117,108,108,69,114,114] ztN,gC [82,97,110,103,101,69,114,114] ztN,gC [77,97,116,104,69,114,114] ztN,gC [67,97,115,116,69,114,114] ztN,
 gC [83,105,122,101,69,114,114] ztN,gC [83,116,111,114,101,69,114,114] ztN,gC [73,110,105,116,69,114,114] ztN,gC [67,108,97,115,115,69,114,114] ztN]
theorem znp:zje=some giv:=by kernel_rfl
def zoy(k:Nat)(m:List (Tx×Int)):List za→List (Tx×Int)
 | []=>m
 |c ::r=>zoy (k+1) (zff c.Name (k:Int) m) r
def fresh(pre:List za):List za→Bool
 | []=>true
 |c ::r=>!zet pre c.Name&&fresh (pre++[c]) r
theorem zpU:∀(r pre:List za) (m:List (Tx×Int)),zbZ pre m→fresh pre r=true→zbZ (pre++r) (zoy pre.length m r)
 | [],pre,m,h,_=>by simpa [zoy] using h
 |c ::r,pre,m,h,hf=>by
  simp only [fresh,Bool.and_eq_true,Bool.not_eq_true'] at hf
  have:=zpU r (pre++[c]) _ (h.snoc hf.1) hf.2
  simpa [zoy] using this
theorem zpL:∀(r pre:List za),Nd pre→fresh pre r=true→Nd (pre++r)
 | [],pre,h,_=>by simpa using h
 |c ::r,pre,h,hf=>by
  simp only [fresh,Bool.and_eq_true,Bool.not_eq_true'] at hf
  have:=zpL r (pre++[c]) (h.snoc hf.1) hf.2
  simpa using this
theorem zuX:zz (fun z=>zib giv z.1 z.2) ([],0)=some (.inl (zoy 0 [] giv)):=by kernel_rfl
theorem zrC:zbZ giv (zoy 0 [] giv):=zpU giv [] [] (fun n=>rfl) (by decide +kernel)
theorem zmU:Nd giv:=zpL giv [] (fun i j c d h=>by simp at h) (by decide +kernel)
def lay:List za→List za→Option (List za)
 |L,[]=>some L
 |L,c ::r=>cond (zet L c.Name||!zmC c) none (lay (L++[c]) r)
theorem zmW:∀(r L L':List za),Nd L→lay L r=some L'→L'=L++r∧Nd L'∧∀c∈r,zmC c=true
 | [],L,L',h,e=>by
  unfold lay at e
  cases e
  exact ⟨by simp,h,fun c hc=>by cases hc⟩
 |c ::r,L,L',h,e=>by
  unfold lay at e
  cases h1:zet L c.Name with
  |true=>rw [h1] at e;cases e
  |false =>
   cases h2:zmC c with
   |false=>rw [h1,h2] at e;cases e
   |true =>
    rw [h1,h2] at e
    obtain ⟨k1,k2,k3⟩:=zmW r (L++[c]) L' (h.snoc h1) e
    refine ⟨by rw [k1];simp,k2,fun d hd=>?_⟩
    rcases List.mem_cons.1 hd with e |e
    ·rw [e];exact h2
    ·exact k3 d e
theorem zxL{w:Nat}{L:List za}{c:za}(h:L.length≤1000)(hw:w≤1000):ziA w L [c]=some (L++[c]):=by
 refine zgR ?_ (by simp;omega)
 have:(L.length+[c].length)*w≤1001*1000:=Nat.mul_le_mul (by simp;omega) hw
 omega
theorem zpQ{l:List za}(hl:l.length≤16)(hc:∀c∈l,zvP c):∀(r pre L:List za) (m:List (Tx×Int)),l=pre++r→zbZ L m→L.length=10+pre.length →
  (lay L r=none→zz (fun z=>zcI l z.1 z.2.1 z.2.2) (L,m,(pre.length:Int))=some (.inr (none,1))) ∧
  (∀L',lay L r=some L'→∃m',zbZ L' m'∧zz (fun z=>zcI l z.1 z.2.1 z.2.2) (L,m,(pre.length:Int))=some (.inl (L',m')))
 | [],pre,L,m,e,hm,hL=>by
  rw [List.append_nil] at e
  subst e
  unfold lay
  refine ⟨fun h=>(by cases h),fun L' h=>?_⟩
  cases h
  refine ⟨m,hm,?_⟩
  rw [zan]
  show (zcI l L m (l.length:Int)).bind _=_
  unfold zcI
  rw [zhE];rfl
 |c ::r,pre,L,m,e,hm,hL=>by
  have hlen:l.length=pre.length+(r.length+1):=by rw [e];simp
  have hx:l[pre.length]?=some c:=by rw [e];simp
  have hcm:c∈l:=List.mem_of_getElem? hx
  have step:zz (fun z=>zcI l z.1 z.2.1 z.2.2) (L,m,(pre.length:Int))=(cond (zet L c.Name||!zmC c) (some (.inr (.inr (none,1)))) (some (.inl (L++[c],zff c.Name (L.length:Int) m,((pre.length+1:Nat):Int))))).bind (Sum.elim (zz (fun z=>zcI l z.1 z.2.1 z.2.2)) some):=by
   rw [zan]
   show (zcI l L m (pre.length:Int)).bind _=_
   congr 1
   unfold zcI
   rw [zgK hx,zT,hx]
   simp only [cond_true,Option.bind_some]
   rw [hm.has,znf (hc c hcm),zxL (by omega) (by omega),zbW (by omega)]
   cases zet L c.Name <;> cases zmC c <;> rfl
  rw [step]
  unfold lay
  cases h1:(zet L c.Name||!zmC c) with
  |true=>exact ⟨fun _=>rfl,fun L' h=>by cases h⟩
  |false =>
   rw [Bool.or_eq_false_iff] at h1
   have:=zpQ hl hc r (pre++[c]) (L++[c]) _ (by rw [e];simp) (hm.snoc h1.1) (by simp;omega)
   rw [show (pre++[c]).length=pre.length+1 by simp] at this
   exact this
structure Okc(c:za):Prop where
 name:c.Name≠[]
 impl:c.Impl.length≤4
 implE:∀s∈c.Impl,s≠[]
theorem zjZ{s:Tx}(h:zda s=true):s≠[]:=by
 intro e
 subst e
 unfold zda at h
 simp at h
theorem zut{α:Type}{ok:α→Bool}{nm:α→List UInt8}:∀{l pre:List α},uB ok nm pre l=false→∀x∈l,ok x=true
 | [],_,_,x,hx=>by cases hx
 |y ::r,pre,h,x,hx=>by
  unfold uB at h
  simp only [Bool.or_eq_false_iff,Bool.not_eq_false'] at h
  rcases List.mem_cons.1 hx with e |e
  ·rw [e];exact h.1.1
  ·exact zut h.2 x e
theorem zvb{c:za}(h:zmC c=true):Okc c:=by
 unfold zmC at h
 simp only [Bool.and_eq_true,Bool.not_eq_true',decide_eq_true_eq] at h
 obtain ⟨_,⟨⟨⟨⟨h1,h2⟩,h3,h4⟩,h5⟩,h6⟩⟩:=h
 exact ⟨zjZ h1,by omega,fun s hs=>zjZ (zut h3 s hs)⟩
theorem zuY:∀c∈giv,Okc c:=by
 intro c hc
 have h:giv.all (fun c=>!(c.Name == [])&&(c.Impl == []))=true:=by decide +kernel
 have:=List.all_eq_true.1 h c hc
 simp only [Bool.and_eq_true,Bool.not_eq_true',beq_eq_false_iff_ne,beq_iff_eq] at this
 exact ⟨this.1,by rw [this.2];simp,fun s hs=>by rw [this.2] at hs;cases hs⟩
theorem zpe{l L:List za}(h:lay giv l=some L):∀c∈L,Okc c:=by
 obtain ⟨h1,h2,h3⟩:=zmW l giv L zmU h
 intro c hc
 rw [h1] at hc
 rcases List.mem_append.1 hc with e |e
 ·exact zuY c e
 ·exact zvb (h3 c e)
theorem zs3{c:za}(h:c.Impl.length≤4):ziA 16 [c.Super] c.Impl=some (c.Super ::c.Impl):=zgR (by simp;omega) (by simp;omega)
theorem zid{c:za}(h:c.Impl.length≤4):zf7 c=some (c.Super ::c.Impl):=by
 unfold zf7;rw [zs3 h];rfl
theorem zrm{l:List Tx}{L:List za}{m:List (Tx×Int)}(hm:zbZ L m)(hl:l.length≤1000):zaC l L m=some (l.any fun s=>!zet L s):=by
 unfold zaC zbQ
 rw [show ((zz (fun z=>zaa l L m z) 0).bind fun o=>zaq o (fun b=>zbl) some)=_ from zbG (l:=l) (p:=fun s=>!zet L s) (by omega)
  (fun i x hx=>by unfold zaa zjd zbL;rw [zgK hx,zT,hx];simp only [cond_true,Option.bind_some];rw [hm.has]) (by unfold zaa;rw [zhE];rfl)]
 exact congrArg some (zdN _ 0 l)
theorem zmT{L:List za}{m:List (Tx×Int)}(hm:zbZ L m){n:Tx}(hn:zet L n=true):zct L m n=cl L n:=by
 unfold zct
 rw [hm.idx hn]
 cases cl L n <;> rfl
theorem zrn{l:List Tx}{L:List za}{m:List (Tx×Int)}(hm:zbZ L m)(hl:l.length≤1000)(hh:∀s∈l,zet L s=true):zaD l L m=some (l.any fun s=>!isF L s):=by
 unfold zaD zbR
 rw [show ((zz (fun z=>zab l L m z) 0).bind fun o=>zaq o (fun b=>zbm) some)=_ from zbG (l:=l) (p:=fun s=>!isF L s) (by omega)
  (fun i x hx=>by
   obtain ⟨c,hc⟩:=zhK (hh x (List.mem_of_getElem? hx))
   unfold zab zfr isF
   rw [zgK hx,zT,hx];simp only [cond_true,Option.bind_some];rw [zmT hm (zhL hc),hc];rfl) (by unfold zab;rw [zhE];rfl)]
 exact congrArg some (zdN _ 0 l)
def cyc(L:List za)(n:Tx):Bool:=@decide (Rc (nxA L) n n) (Classical.propDecidable _)
theorem zlJ{L:List za}{n:Tx}:cyc L n=true↔Rc (nxA L) n n:=by unfold cyc;exact @decide_eq_true_iff _ (Classical.propDecidable _)
def zoU(L:List za)(c:za):Bool:=isF L c.Super||(c.Impl.any (fun s=>!isF L s)||cyc L c.Name)
theorem zl4{R:Type}{body:List Tx×Int→Option (Sum (List Tx×Int) (Sum (List Tx) R))}{l:List Tx}{p:Tx→Bool}(hl:l.length≤100)
  (hb:∀(i:Nat) x z2,z2.length≤1000→l[i]?=some x→body (z2,(i:Int))=some (.inl (cond (p x&&!(z2.any fun y=>x == y)) (z2++[x]) z2,IntKind.i64.wrap ((i:Int)+1))))
  (he:∀z2,body (z2,(l.length:Int))=some (.inr (.inl z2))):∀(r pre z2:List Tx),l=pre++r→z2.length+r.length≤1000→zz body (z2,(pre.length:Int))=some (.inl (push z2 (r.filter p)))
 | [],pre,z2,e,hs=>by
  rw [List.append_nil] at e
  subst e
  rw [zan,he];rfl
 |x ::r,pre,z2,e,hs=>by
  have hlen:l.length=pre.length+(r.length+1):=by rw [e];simp
  have hx:l[pre.length]?=some x:=by rw [e];simp
  simp only [List.length_cons] at hs
  rw [zan,hb _ x z2 (by omega) hx,zbW (by omega)]
  have ih:=fun s h=>zl4 hl hb he r (pre++[x]) s (by rw [e];simp) h
  rw [show (pre++[x]).length=pre.length+1 by simp] at ih
  cases h1:p x with
  |false =>
   rw [List.filter_cons_of_neg (by rw [h1];exact Bool.false_ne_true)]
   exact ih z2 (by omega)
  |true =>
   rw [List.filter_cons_of_pos h1]
   unfold push
   cases h2:(z2.any fun y=>x == y) with
   |true=>exact ih z2 (by omega)
   |false=>exact ih (z2++[x]) (by simp;omega)
theorem znm{l:List Tx}(hl:l.length≤1000)(n:Tx):zA l n=some (l.any fun y=>n == y):=zrF (by unfold ziI;omega) n
theorem zrx{l z2:List Tx}(hl:l.length≤100)(hs:z2.length+l.length≤1000):zz (fun z=>zcm l z.1 z.2) (z2,0)=some (.inl (push z2 (l.filter (fun s=>!(s == []))))):=by
 refine zl4 (l:=l) (p:=fun s=>!(s == [])) hl (fun i x s h hx=>?_) (fun s=>?_) l [] z2 rfl hs
 ·show zcm l s (i:Int)=_
  unfold zcm zdc
  rw [zgK hx,zT,hx]
  simp only [cond_true,Option.bind_some]
  rw [znm h,zgR (w:=16) (l:=s) (x:=[x]) (by simp;omega) (by simp;omega)]
  cases (x == []) <;> cases (s.any fun y=>x == y) <;> rfl
 ·show zcm l s (l.length:Int)=_
  unfold zcm
  rw [zhE];rfl
theorem zr5{L:List za}{n:Tx}{c:za}(h:cl L n=some c):nxA L n=(c.Super ::c.Impl).filter (fun s=>!(s == [])):=by unfold nxA;rw [h]
theorem zug{L:List za}(hL:∀c∈L,Okc c)(n:Tx):(nxA L n).length≤5:=by
 unfold nxA
 split
 ·simp
 ·rename_i c hc
  have:=(hL c (zdL hc).1).impl
  exact Nat.le_trans (List.length_filter_le _ _) (by simp;omega)
theorem ztD(l z2:List Tx):(push z2 l).length≤z2.length+l.length:=by
 induction l generalizing z2 with
 |nil=>simp [push]
 |cons x r ih =>
  unfold push
  cases (z2.any fun y=>x == y) with
  |true=>have:=ih z2;simp only [cond_true,List.length_cons];omega
  |false=>have:=ih (z2++[x]);simp only [cond_false,List.length_cons];simp at this;omega
theorem zuS{L:List za}{m:List (Tx×Int)}(hm:zbZ L m)(h:zuw L)(hO:∀c∈L,Okc c)(hlen:L.length≤100){c:za}(hc:c∈L)(hs:c.Super≠[]):zeg L m c=some (!zoU L c):=by
 have hcs:=h.closed c hc
 have hsup:zet L c.Super=true:=hcs c.Super (by simp) hs
 obtain ⟨x,hx⟩:=zhK hsup
 have himp:∀s∈c.Impl,zet L s=true:=fun s hm=>hcs s (by simp [hm]) ((hO c hc).implE s hm)
 have hi4:=(hO c hc).impl
 have e0:(c.Super ::c.Impl)=nxA L c.Name:=by
  rw [zr5 (h.nd.cl hc),List.filter_eq_self.2]
  intro s hsm
  rcases List.mem_cons.1 hsm with e |e
  ·rw [e];simpa using hs
  ·simpa using (hO c hc).implE s e
 unfold zeg
 rw [zmT hm hsup,hx,zrn hm (by omega) himp,zid hi4]
 simp only [Option.bind_some]
 have eF:isF L c.Super=x.Interface:=by unfold isF;rw [hx]
 unfold zoU
 rw [eF]
 cases x.Interface with
 |true=>rfl
 |false =>
  cases c.Impl.any (fun s=>!isF L s) with
  |true=>rfl
  |false =>
   have hfin:fin (nxA L) (5+L.length) 0 (nxA L c.Name)=true:=zrw (U:=L.map (·.Name)) (s0:=nxA L c.Name) h.nxA_in _ _ _ .start (by have:=zug hO c.Name;simp;omega)
   have hw:=zoS (R:=Bool) (I:=fun s=>Inv (List.map (fun c:za=>c.Name) L) (nxA L c.Name) s) (nx:=nxA L) (stop:=fun y=>cond (y == c.Name) (some false) none) (body:=fun z=>zb7 L m c z.1 z.2)
    (fun i z2 y hI hy=>by
     have hsl:=hI.len
     have h5:=zug hO c.Name
     have hym:zet L y=true:=zhB.2 (hI.mem (fun z hz=>h.nxA_in _ z hz) y (List.mem_of_getElem? hy))
     obtain ⟨d,hd⟩:=zhK hym
     have hd4:=(hO d (zdL hd).1).impl
     have hpl:=ztD (nxA L y) z2
     simp only [List.length_map] at hsl
     show zb7 L m c z2 (i:Int)=_
     unfold zb7 zeU
     rw [zgK hy,zT,hy]
     simp only [cond_true,Option.bind_some]
     have hilt:=(List.getElem?_eq_some_iff.1 hy).1
     rw [zmT hm hym,hd]
     simp only [Option.bind_some]
     rw [zid hd4]
     simp only [Option.bind_some]
     rw [zrx (by simp;omega) (by simp;omega),←zr5 hd,zbW (by omega)]
     cases y == c.Name <;> rfl)
    (fun i z2 hI hle=>by
     show zb7 L m c z2 (i:Int)=_
     unfold zb7
     rw [decide_eq_false (by omega)];rfl)
    (fun z2 y hI hy=>hI.push (h.nxA_in y)) (5+L.length) 0 (nxA L c.Name) .start hfin
   rw [e0]
   rw [show zz (fun z=>zb7 L m c z.1 z.2) (nxA L c.Name,0)=_ from hw,List.drop_zero,zdY]
   have:(bfs (nxA L) (5+L.length) 0 (nxA L c.Name)).any (fun y=>y == c.Name)=cyc L c.Name:=by
    rw [Bool.eq_iff_iff,zlJ,←zvV hfin,List.any_eq_true]
    constructor
    ·rintro ⟨y,h1,h2⟩;obtain rfl:=eq_of_beq h2;exact h1
    ·intro h1;exact ⟨_,h1,beq_self_eq_true _⟩
   rw [this]
   cases cyc L c.Name <;> rfl
def onB(inn:List Bool)(n:Nat):Bool:=inn.getD n false
def zxR(L:List za)(inn:List Bool)(s:Tx):Bool:=zet L s&&!onB inn (atN L s).toNat
def mk1(L:List za)(inn:List Bool)(s:Tx):List Bool:=cond (zxR L inn s) (inn.set (atN L s).toNat true) inn
section
variable {L : List za} {nx : za → List Tx} {act : Nat → Bool}
def cnt(inn:List Bool):Nat:=inn.count true
end
def mis(L:List za)(c:za):Bool:=(c.Super ::c.Impl).any (fun s=>!zet L s)
def zoW(l:List za):Option (List za)×Int:=
 cond (decide (16<(l.length:Int))) (none,3) (match lay giv l with
  |none=>(none,1)
  |some L=>cond (l.any (mis L)) (none,4) (cond (l.any (zoU L)) (none,1) (some L,0)))
theorem zrL{l L:List za}(h:lay giv l=some L)(hm:l.any (mis L)=false):zuw L∧∀c∈l,c.Super≠[]:=by
 obtain ⟨h1,h2,h3⟩:=zmW l giv L zmU h
 have hO:=zpe h
 have noE:zet L []=false:=by
  cases hh:zet L [] with
  |false=>rfl
  |true =>
   obtain ⟨c,hc⟩:=zhK hh
   exact absurd (zdL hc).2 (hO c (zdL hc).1).name
 have hl:∀c∈l,∀s∈c.Super ::c.Impl,zet L s=true:=fun c hc s hs=>by
  have:=List.any_eq_false.1 hm c hc
  unfold mis at this
  rw [Bool.not_eq_true,List.any_eq_false] at this
  simpa using this s hs
 refine ⟨⟨h2,noE,fun c hc s hs hne=>?_,fun c hc hm=>(hO c hc).implE [] hm rfl⟩,fun c hc e=>?_⟩
 ·rw [h1] at hc
  rcases List.mem_append.1 hc with e |e
  ·have hg:giv.all (fun c=>(c.Super ::c.Impl).all (fun s=>s == []||zet giv s))=true:=by decide +kernel
   have:=List.all_eq_true.1 (List.all_eq_true.1 hg c e) s hs
   rw [Bool.or_eq_true,beq_iff_eq] at this
   rcases this with e |e
   ·exact absurd e hne
   ·rw [zhB] at e ⊢
    rw [h1,List.map_append]
    exact List.mem_append_left _ e
  ·exact hl c e s hs
 ·have:=hl c hc c.Super (by simp)
  rw [e,noE] at this;cases this
theorem zwh{l L:List za}{m:List (Tx×Int)}(hl:l.length≤16)(hm:zbZ L m)(hO:∀c∈l,c.Impl.length≤4):
  zz (fun z=>zeD l L m z) 0=some (zo5 () (cond (l.any (mis L)) (some (none,4)) none)):=by
 rw [←zdY]
 refine zfe (fun i c hc=>?_) ?_
 ·show zeD l L m (i:Int)=_
  have:=hO c (List.mem_of_getElem? hc)
  have hi:=(List.getElem?_eq_some_iff.1 hc).1
  unfold zeD
  rw [zgK hc,zT,hc]
  simp only [cond_true,Option.bind_some]
  rw [zid this]
  simp only [Option.bind_some]
  rw [zrm hm (by simp;omega),zbW (by omega)]
  simp only [Option.bind_some]
  show _=some (zuE i (cond (mis L c) _ _))
  unfold mis
  cases ((c.Super ::c.Impl).any fun s=>!zet L s) <;> rfl
 ·show zeD l L m (l.length:Int)=_
  unfold zeD
  rw [zhE];rfl
theorem zwi{l L:List za}{m:List (Tx×Int)}(hl:l.length≤16)(hf:∀c∈l,zeg L m c=some (!zoU L c)):
  zz (fun z=>zeE l L m z) 0=some (zo5 () (cond (l.any (zoU L)) (some (none,1)) none)):=by
 rw [←zdY]
 refine zfe (fun i c hc=>?_) ?_
 ·show zeE l L m (i:Int)=_
  have hi:=(List.getElem?_eq_some_iff.1 hc).1
  unfold zeE
  rw [zgK hc,zT,hc]
  simp only [cond_true,Option.bind_some]
  rw [hf c (List.mem_of_getElem? hc),zbW (by omega)]
  simp only [Option.bind_some]
  cases zoU L c <;> rfl
 ·show zeE l L m (l.length:Int)=_
  unfold zeE
  rw [zhE];rfl
theorem zh7{l:List za}(hc:∀c∈l,zvP c):∃m,(∀L,(zoW l).1=some L→zbZ L m)∧zft l=some ((zoW l).1.map (fun L=>zy.mk L m),(zoW l).2):=by
 unfold zft zoW
 cases hl:decide (16<(l.length:Int)) with
 |true=>exact ⟨[],fun L h=>(by cases h),rfl⟩
 |false =>
  have hl:=of_decide_eq_false hl
  rw [znp]
  simp only [cond_false,Option.bind_some]
  rw [zuX]
  simp only [Option.bind_some,zaq]
  have hl16:l.length≤16:=by omega
  obtain ⟨h1,h2⟩:=zpQ hl16 hc l [] giv _ rfl zrC rfl
  unfold zh8
  cases hy:lay giv l with
  |none =>
   rw [show zz (fun z=>zcI l z.1 z.2.1 z.2.2) (giv,zoy 0 [] giv,0)=_ from h1 hy]
   exact ⟨[],fun L h=>(by cases h),rfl⟩
  |some L =>
   obtain ⟨m,hm,e⟩:=h2 L hy
   rw [show zz (fun z=>zcI l z.1 z.2.1 z.2.2) (giv,zoy 0 [] giv,0)=_ from e]
   obtain ⟨k1,k2,k3⟩:=zmW l giv L zmU hy
   have hO:=zpe hy
   have hlL:∀c∈l,c∈L:=fun c hc=>by rw [k1];exact List.mem_append_right _ hc
   have hlen:L.length≤100:=by rw [k1,List.length_append];have:giv.length=10:=rfl;omega
   simp only [Option.bind_some,zaq]
   unfold zh9
   rw [zwh hl16 hm (fun c hc=>(hO c (hlL c hc)).impl)]
   cases hmis:l.any (mis L) with
   |true=>exact ⟨[],fun L h=>(by cases h),rfl⟩
   |false =>
    obtain ⟨hL,hS⟩:=zrL hy hmis
    simp only [cond_false,Option.bind_some,zaq,zo5]
    unfold zia
    rw [zwi hl16 (fun c hc=>zuS hm hL hO hlen (hlL c hc) (hS c hc))]
    cases hb:l.any (zoU L) with
    |true=>exact ⟨[],fun L h=>(by cases h),rfl⟩
    |false=>exact ⟨m,fun L' h=>(by cases h;exact hm),rfl⟩
theorem zt6{L l:List za}(h:L=giv++l){n:Tx}{c:za}(hc:cl giv n=some c):cl L n=some c:=by
 rw [h]
 unfold cl at hc ⊢
 rw [List.find?_append,hc];rfl
theorem zvW{L l:List za}(h:L=giv++l){n:Tx}(hn:zet giv n=true):cl L n=cl giv n:=by
 obtain ⟨c,hc⟩:=zhK hn
 rw [hc,zt6 h hc]
theorem ztg:giv.all (fun c=>(nxA giv c.Name).all (fun s=>decide (atN giv s<atN giv c.Name)&&zet giv s))=true:=by decide +kernel
theorem zv4{L l:List za}(h:L=giv++l){a b:Tx}(hr:Rc (nxA L) a b):zet giv a=true→atN giv b<atN giv a∧zet giv b=true:=by
 have one:∀{a b:Tx},b∈nxA L a→zet giv a=true→atN giv b<atN giv a∧zet giv b=true:=fun {a b} hb ha=>by
  have e:nxA L a=nxA giv a:=by unfold nxA;rw [zvW h ha]
  rw [e] at hb
  obtain ⟨c,hc⟩:=zhK ha
  have h1:=List.all_eq_true.1 ztg c (zdL hc).1
  rw [(zdL hc).2] at h1
  have h2:=List.all_eq_true.1 h1 b hb
  rw [Bool.and_eq_true,decide_eq_true_eq] at h2
  exact h2
 induction hr with
 |one hb=>exact one hb
 |more hb _ ih =>
  intro ha
  have h1:=one hb ha
  have h2:=ih h1.2
  exact ⟨by omega,h2.2⟩
theorem zuV{L l:List za}(h:L=giv++l){c:za}(hc:c∈giv):cyc L c.Name=false:=by
 cases hh:cyc L c.Name with
 |false=>rfl
 |true =>
  have:=(zv4 h (zlJ.1 hh) (zhL (zmU.cl hc))).1
  omega
theorem zrB:giv.all (fun c=>(c.Impl == [])&&!c.Interface&&(c.Super == []||zet giv c.Super))=true:=by decide +kernel
theorem zuU{c:za}(hc:c∈giv):c.Impl=[]∧c.Interface=false∧(c.Super=[]∨zet giv c.Super=true):=by
 have:=List.all_eq_true.1 zrB c hc
 simp only [Bool.and_eq_true,beq_iff_eq,Bool.not_eq_true',Bool.or_eq_true] at this
 exact ⟨this.1.1,this.1.2,this.2⟩
theorem zuW{L l:List za}(h:L=giv++l){n:Tx}(hn:zet giv n=true):isF L n=false:=by
 obtain ⟨c,hc⟩:=zhK hn
 unfold isF
 rw [zt6 h hc]
 exact (zuU (zdL hc).1).2.1
theorem zuT{L l:List za}(h:L=giv++l)(hE:zet L []=false){c:za}(hc:c∈giv):zoU L c=false:=by
 obtain ⟨h1,h2,h3⟩:=zuU hc
 unfold zoU
 rw [zuV h hc,h1]
 rcases h3 with e |e
 ·rw [e]
  have:isF L []=false:=by
   unfold isF
   cases hcl:cl L [] with
   |none=>rfl
   |some d=>rw [zhL hcl] at hE;cases hE
  rw [this];rfl
 ·rw [zuW h e];rfl
structure ze5(l L:List za):Prop extends Wf L where
 app:L=giv++l
 few:l.length≤16
 okc:∀c∈L,Okc c
 may:∀c∈l,zmC c=true
theorem ze5.len{l L:List za}(h:ze5 l L):L.length≤26:=by
 rw [h.app,List.length_append];have:giv.length=10:=rfl;have:=h.few;omega
theorem zoA{l L:List za}(h:(zoW l).1=some L):ze5 l L∧(zoW l).2=0:=by
 unfold zoW at h ⊢
 cases hl:decide (16<(l.length:Int)) with
 |true=>rw [hl] at h;cases h
 |false =>
  rw [hl] at h
  have hl:=of_decide_eq_false hl
  simp only [cond_false] at h ⊢
  cases hy:lay giv l with
  |none=>rw [hy] at h;cases h
  |some L' =>
   rw [hy] at h
   simp only at h ⊢
   cases hmis:l.any (mis L') with
   |true=>rw [hmis] at h;cases h
   |false =>
    cases hb:l.any (zoU L') with
    |true=>rw [hmis,hb] at h;cases h
    |false =>
     rw [hmis,hb] at h
     have e:L'=L:=by
      have h:some L'=some L:=h
      cases h;rfl
     subst e
     obtain ⟨hL,hS⟩:=zrL hy hmis
     obtain ⟨k1,k2,k3⟩:=zmW l giv L' zmU hy
     have bad:∀c∈L',zoU L' c=false:=fun c hc=>by
      rw [k1] at hc
      rcases List.mem_append.1 hc with e |e
      ·exact zuT k1 hL.noE e
      ·simpa using List.any_eq_false.1 hb c e
     have bad':∀c∈L',isF L' c.Super=false∧(c.Impl.any (fun s=>!isF L' s)=false∧cyc L' c.Name=false):=fun c hc=>by
      have:=bad c hc
      unfold zoU at this
      rw [Bool.or_eq_false_iff,Bool.or_eq_false_iff] at this
      exact this
     refine ⟨⟨⟨hL,fun n hr=>?_,fun c hc=>(bad' c hc).1,fun c hc s hs=>?_⟩,k1,by omega,zpe hy,k3⟩,rfl⟩
     ·cases hn:cl L' n with
      |none =>
       have:nxA L' n=[]:=by unfold nxA;rw [hn]
       cases hr with
       |one h=>rw [this] at h;cases h
       |more h _=>rw [this] at h;cases h
      |some c =>
       have h1:=(bad' c (zdL hn).1).2.2
       rw [(zdL hn).2] at h1
       rw [zlJ.2 hr] at h1;cases h1
     ·have:=List.any_eq_false.1 (bad' c hc).2.1 s hs
      simpa using this
section
variable {l L : List za} {m : List (Tx × Int)}
theorem zmc(h:ze5 l L)(hm:zbZ L m):∀(d:Nat) (n:Tx) (acc:List Tx),ztL L d n=true→acc.length+d≤200→zz (fun z=>zaP L m z.1 z.2) (n,acc)=some (.inl (acc++sup L d n))
 | 0,n,acc,hf,hd=>by
  rw [zan]
  show (zaP L m n acc).bind _=_
  unfold zaP zbL
  rw [hm.has]
  have:zet L n=false:=by simpa [ztL] using hf
  rw [this]
  simp [sup]
 |d+1,n,acc,hf,hd=>by
  rw [zan]
  show (zaP L m n acc).bind _=_
  unfold zaP zbL
  rw [hm.has]
  unfold ztL at hf
  unfold sup
  cases hc:cl L n with
  |none=>rw [zrH hc];simp
  |some c =>
   rw [hc] at hf
   rw [zhL hc,zmT hm (zhL hc),hc,zgR (by simp;omega) (by simp;omega)]
   show zz (fun z=>zaP L m z.1 z.2) (c.Super,acc++[n])=_
   rw [zmc h hm d c.Super (acc++[n]) hf (by simp;omega)]
   simp
def ziD(L:List za)(n:Tx):List Tx:=sup L L.length n
theorem zhT(h:ze5 l L)(hm:zbZ L m)(n:Tx):zai L m n=some (ziD L n):=by
 unfold zai
 rw [zmc h hm L.length n [] (ztM h.toWf n) (by have:=h.len;simp;omega)]
 rfl
theorem zsE:∀(d:Nat) (n:Tx),(sup L d n).length≤d
 | 0,n=>by simp [sup]
 |d+1,n=>by
  unfold sup
  cases cl L n with
  |none=>simp
  |some c=>have:=zsE d c.Super;simpa using this
theorem zhu(h:ze5 l L)(n:Tx):(ziD L n).length≤26:=Nat.le_trans (zsE _ n) h.len
theorem zvx(h:ze5 l L):∀d,sup L d []=[]
 | 0=>rfl
 |d+1=>by
  unfold sup
  cases hE:cl L [] with
  |none=>rfl
  |some c=>have:=zhL hE;rw [h.noE] at this;cases this
theorem znO(h:ze5 l L):∀(d:Nat) (n x:Tx),x∈sup L d n→zet L x=true∧(x=n∨Rc (nxA L) n x)∧(x=n∨∃c∈L,x=c.Super)
 | 0,n,x,hx=>by simp [sup] at hx
 |d+1,n,x,hx=>by
  unfold sup at hx
  cases hc:cl L n with
  |none=>rw [hc] at hx;cases hx
  |some c =>
   rw [hc] at hx
   rcases List.mem_cons.1 hx with e |e
   ·subst e;exact ⟨zhL hc,.inl rfl,.inl rfl⟩
   ·obtain ⟨h1,h2,h3⟩:=znO h d c.Super x e
    have hne:c.Super≠[]:=fun e2=>by rw [e2,zvx h] at e;cases e
    have h6:c.Super∈nxA L n:=by rw [zr5 hc];exact List.mem_filter.2 ⟨by simp,by simpa using hne⟩
    refine ⟨h1,.inr ?_,.inr ?_⟩
    ·rcases h2 with e2 |e2
     ·rw [e2];exact .one h6
     ·exact .more h6 e2
    ·rcases h3 with e2 |e2
     ·exact ⟨c,(zdL hc).1,e2⟩
     ·exact e2
theorem zsC(h:ze5 l L){n x:Tx}(hx:x∈ziD L n):x∈L.map (·.Name):=zhB.1 (znO h _ n x hx).1
theorem zsD{n:Tx}(hn:zet L n=false):ziD L n=[]:=by
 unfold ziD
 cases L.length with
 |zero=>rfl
 |succ d =>
  unfold sup
  cases hc:cl L n with
  |none=>rfl
  |some c=>rw [zhL hc] at hn;cases hn
end
theorem zlP{R:Type}{I:List Tx→Prop}{nx:Tx→List Tx}{p:Tx→Bool}{body:List Tx×List Tx×Int→Option (Sum (List Tx×List Tx×Int) (Sum (List Tx) R))}
  (hb:∀(i:Nat) acc z2 x,I z2→acc.length≤i→z2[i]?=some x→body (acc,z2,(i:Int))=some (.inl (cond (p x) (acc++[x]) acc,push z2 (nx x),((i+1:Nat):Int))))
  (he:∀(i:Nat) acc z2,I z2→z2.length≤i→body (acc,z2,(i:Int))=some (.inr (.inl acc)))
  (hp:∀z2 x,I z2→x∈z2→I (push z2 (nx x))):∀(d i:Nat) (acc z2:List Tx),I z2→acc.length≤i→fin nx d i z2=true →
  zz body (acc,z2,(i:Int))=some (.inl (acc++((bfs nx d i z2).drop i).filter p))
 | 0,i,acc,z2,hI,ha,hf=>by
  have hl:z2.length≤i:=of_decide_eq_true hf
  rw [zan,he i acc z2 hI hl]
  show some (Sum.inl acc:Sum (List Tx) R)=some (Sum.inl (acc++((z2.drop i).filter p)))
  rw [List.drop_eq_nil_of_le hl]
  simp
 |d+1,i,acc,z2,hI,ha,hf=>by
  unfold fin at hf
  unfold bfs
  cases hi:z2[i]? with
  |none =>
   have hl:z2.length≤i:=List.getElem?_eq_none_iff.1 hi
   rw [zan,he i acc z2 hI hl]
   show some (Sum.inl acc:Sum (List Tx) R)=some (Sum.inl (acc++((z2.drop i).filter p)))
   rw [List.drop_eq_nil_of_le hl]
   simp
  |some x =>
   rw [hi] at hf
   obtain ⟨t,ht⟩:=zlj (nx:=nx) d (i+1) (push z2 (nx x))
   obtain ⟨u,hu,_⟩:=zht (nx x) z2
   have hx:(bfs nx d (i+1) (push z2 (nx x)))[i]?=some x:=by
    rw [ht,hu,List.append_assoc,List.getElem?_append_left (List.getElem?_eq_some_iff.1 hi).1,hi]
   obtain ⟨hlt,hge⟩:=List.getElem?_eq_some_iff.1 hx
   have ih:=fun a ha=>zlP hb he hp d (i+1) a _ (hp _ _ hI (List.mem_of_getElem? hi)) ha hf
   rw [zan,hb i acc z2 x hI ha hi]
   show zz body (cond (p x) (acc++[x]) acc,push z2 (nx x),((i+1:Nat):Int))=some (.inl (acc++((bfs nx d (i+1) (push z2 (nx x))).drop i).filter p))
   rw [ih _ (by cases p x <;> simp <;> omega),List.drop_eq_getElem_cons hlt,hge]
   cases hpx:p x with
   |true=>rw [List.filter_cons_of_pos hpx];simp
   |false=>rw [List.filter_cons_of_neg (by rw [hpx];exact Bool.false_ne_true)];rfl
def zpv(L:List za)(n:Tx):List Tx:=bfs (nxI L) 100 0 (ziD L n)
def zgZ(L:List za)(n:Tx):List Tx:=zkZ ((zpv L n).filter (isF L))
section
variable {l L : List za} {m : List (Tx × Int)}
theorem ztQ(h:ze5 l L)(n:Tx):fin (nxI L) 100 0 (ziD L n)=true:=
 zrw (U:=List.map (fun c:za=>c.Name) L) (s0:=ziD L n) h.nxI_in _ _ _ .start (by have:=zhu h n;have:=h.len;simp;omega)
theorem zqb(h:ze5 l L)(n:Tx):Inv (List.map (fun c:za=>c.Name) L) (ziD L n) (zpv L n):=zrf h.nxI_in _ _ _ .start
theorem zqc(h:ze5 l L)(n:Tx):(zpv L n).length≤52:=by
 have h1:=(zqb h n).len
 have h2:=zhu h n
 have h3:=h.len
 simp only [List.length_map] at h1
 omega
theorem zvC(h:ze5 l L){n x:Tx}(hx:x∈zpv L n):zet L x=true:=zhB.2 ((zqb h n).mem (fun y hy=>zsC h hy) x hx)
theorem zwk{n:Tx}{c:za}(hc:cl L n=some c):nxI L n=c.Impl:=by unfold nxI;rw [hc]
theorem zqs{R:Type}{body:List Tx×Int→Option (Sum (List Tx×Int) (Sum (List Tx) R))}{l:List Tx}(hl:l.length≤100)
  (hb:∀(i:Nat) x z2,z2.length≤1000→l[i]?=some x→body (z2,(i:Int))=some (.inl (cond (!(z2.any fun y=>x == y)) (z2++[x]) z2,IntKind.i64.wrap ((i:Int)+1))))
  (he:∀z2,body (z2,(l.length:Int))=some (.inr (.inl z2))) (z2:List Tx) (hs:z2.length≤800):zz body (z2,0)=some (.inl (push z2 l)):=by
 have:=zl4 (p:=fun _=>true) hl (fun i x s h hx=>by rw [hb i x s h hx];rfl) he l [] z2 rfl (by omega)
 rw [List.filter_eq_self.2 (fun _ _=>rfl)] at this
 exact this
theorem zlL(h:ze5 l L)(hm:zbZ L m)(n:Tx):zcs L m n=some (zgZ L n):=by
 unfold zcs zbL
 rw [hm.has]
 cases hn:zet L n with
 |false =>
  unfold zgZ zpv
  rw [zsD hn]
  rfl
 |true =>
  rw [zhT h hm]
  simp only [Bool.not_true,cond_false,Option.bind_some]
  have h26:=h.len
  have hs26:=zhu h n
  have hl:=zlP (R:=List Tx) (I:=fun s=>Inv (List.map (fun c:za=>c.Name) L) (ziD L n) s) (nx:=nxI L) (p:=isF L) (body:=fun z=>zaO L m z.1 z.2.1 z.2.2)
   (fun i acc z2 x hI ha hx=>by
    have hsl:=hI.len
    simp only [List.length_map] at hsl
    have hxm:zet L x=true:=zhB.2 (hI.mem (fun y hy=>zsC h hy) x (List.mem_of_getElem? hx))
    obtain ⟨c,hc⟩:=zhK hxm
    have h4:=(h.okc c (zdL hc).1).impl
    have hilt:=(List.getElem?_eq_some_iff.1 hx).1
    have hp:∀acc',zb2 z2 (i:Int) c acc'=some (.inl (acc',push z2 c.Impl,((i+1:Nat):Int))):=fun acc'=>by
     unfold zb2
     rw [zqs (l:=c.Impl) (by omega) (fun j y s hs hy=>by
      show zb3 c s (j:Int)=_
      unfold zb3 zcl
      rw [zgK hy,zT,hy]
      simp only [cond_true,Option.bind_some]
      rw [znm hs,zgR (w:=16) (l:=s) (x:=[y]) (by simp;omega) (by simp;omega)]
      cases (s.any fun z=>y == z) <;> rfl) (fun s=>by
      show zb3 c s (c.Impl.length:Int)=_
      unfold zb3
      rw [zhE];rfl) z2 (by omega)]
     simp only [Option.bind_some,zaq]
     unfold zdh
     rw [zbW (by omega)]
    show zaO L m acc z2 (i:Int)=_
    unfold zaO
    rw [zgK hx,zT,hx]
    simp only [cond_true,Option.bind_some]
    rw [zmT hm hxm,hc]
    simp only [Option.bind_some]
    rw [hp,zgR (w:=16) (l:=acc) (x:=[c.Name]) (by simp;omega) (by simp;omega)]
    simp only [Option.bind_some]
    rw [hp,zwk hc,(zdL hc).2]
    have e:isF L x=c.Interface:=by unfold isF;rw [hc]
    rw [e]
    cases c.Interface <;> rfl)
   (fun i acc z2 hI hle=>by
    show zaO L m acc z2 (i:Int)=_
    unfold zaO
    rw [decide_eq_false (by omega)];rfl)
   (fun z2 y hI hy=>hI.push (h.nxI_in y)) 100 0 [] (ziD L n) .start (by simp) (ztQ h n)
  rw [show zz (fun z=>zaO L m z.1 z.2.1 z.2.2) ([],ziD L n,0)=_ from hl]
  simp only [Option.bind_some,zaq,List.drop_zero,List.nil_append]
  unfold zdi zqT
  have h1:((bfs (nxI L) 100 0 (ziD L n)).filter (isF L)).length≤52:=Nat.le_trans (List.length_filter_le _ _) (zqc h n)
  rw [if_pos (by omega)]
  rfl
theorem zru{n x:Tx}:x∈zgZ L n↔x∈zpv L n∧isF L x=true:=by
 unfold zgZ
 rw [(zf8 _).mem_iff,List.mem_filter]
end
def brk:Tx→Bool
 | []=>false
 |x :: _=>x == 91
def ess(s:Tx):Tx:=zgh (zgh s)
theorem zkn{s:Tx}(h:brk s=false):zgh s=s:=by
 cases s with
 |nil=>rfl
 |cons x r =>
  rw [zjg,if_neg]
  intro e
  subst e
  cases h
theorem znS{s:Tx}(h:brk s=true):zgh s=s.drop 1∧s=91 ::s.drop 1:=by
 cases s with
 |nil=>cases h
 |cons x r =>
  have:x=91:=by simpa [brk] using h
  subst this
  exact ⟨rfl,rfl⟩
theorem zkv{s:Tx}(h:zda s=true):brk s=false:=by
 cases s with
 |nil=>rfl
 |cons x r =>
  cases hb:(x == 91) with
  |false=>exact hb
  |true =>
   have:x=91:=by simpa using hb
   subst this
   unfold zda at h
   rw [Bool.and_eq_true] at h
   have h2:zfF 91=true:=h.2
   exact absurd h2 (by decide +kernel)
theorem zmP{s:Tx}(h:zda s=true):zhX s=true:=by
 unfold zhX
 rw [zkn (zkv h),zkn (zkv h),h,Bool.or_true]
theorem zuN{s:Tx}(h:zhX s=true):brk (ess s)=false:=by
 unfold zhX at h
 rw [Bool.or_eq_true] at h
 rcases h with h |h
 ·unfold ess;rw [eq_of_beq h];rfl
 ·exact zkv h
theorem zto{s:Tx}(h:zhX s=true)(hb:brk s=true):zhX (s.drop 1)=true∧ess (s.drop 1)=ess s:=by
 obtain ⟨h1,h2⟩:=znS hb
 have h3:=zuN h
 have e:zgh (zgh (s.drop 1))=zgh (zgh s):=by
  rw [h1]
  exact zkn (show brk (zgh (s.drop 1))=false from by rw [←h1];exact h3)
 exact ⟨by unfold zhX at h ⊢;rw [e];exact h,e⟩
theorem zuO{s:Tx}(hb:brk s=false):ess s=s:=by unfold ess;rw [zkn hb,zkn hb]
theorem zrA:giv.all (fun c=>zda c.Name)=true:=by decide +kernel
def zup(L:List za)(t:Tx):Bool:=(ess t == [73])||zet L (ess t)
def thN(L:List za)(t:Tx):Bool:=zhX t&&zup L t
section
variable {l L : List za} {m : List (Tx × Int)}
theorem zqF(h:ze5 l L){n:Tx}(hn:zet L n=true):zda n=true:=by
 obtain ⟨c,hc⟩:=zhK hn
 obtain ⟨h1,h2⟩:=zdL hc
 rw [←h2]
 rw [h.app] at h1
 rcases List.mem_append.1 h1 with e |e
 ·exact List.all_eq_true.1 zrA c e
 ·have:=h.may c e
  unfold zmC at this
  simp only [Bool.and_eq_true] at this
  exact this.2.1.1.1.1
def zji(s:Tx):Tx×Bool:=cond (zhX s&&brk s) (s.drop 1,true) ([],false)
theorem zhq{s:Tx}(h:Len s):zeG s=some (zji s):=by
 unfold zeG zji
 rw [zg3 h]
 cases hm:zhX s with
 |false=>rfl
 |true =>
  cases s with
  |nil =>
   exfalso
   unfold zhX at hm
   rw [show zgh (zgh [])=[] from rfl] at hm
   simp at hm
   exact zjZ hm rfl
  |cons x r =>
   simp only [Option.bind_some,Bool.not_true,cond_false,Bool.true_and]
   rw [znr]
   have e:((x.toNat:Int) == (91:Int))=(x == 91):=by
    rw [Bool.eq_iff_iff,beq_iff_eq,beq_iff_eq]
    constructor
    ·intro h;exact UInt8.toNat_inj.1 (by simpa using (Int.ofNat_inj.1 h))
    ·intro h;rw [h];rfl
   simp only [List.getElem?_cons_zero,Option.bind_some,e]
   rw [show (1:Int)=((1:Nat):Int) from rfl,zlI (by simp)]
   show cond (!(x == 91)) _ _=some (cond (x == 91) _ _)
   cases x == 91 <;> rfl
theorem zm6{s:Tx}:∀(d:Nat) (t:Tx),t.length≤d→Len t→zz (fun z=>zb4 z.1 z.2.1 z.2.2) (t,(zji t).1,(zji t).2)=some (.inl (cond (zhX t) (ess t) t))
 |d,t,hd,hl=>by
  rw [zan]
  show (zb4 t (zji t).1 (zji t).2).bind _=_
  unfold zb4
  cases hm:zhX t with
  |false =>
   have:zji t=([],false):=by unfold zji;rw [hm];rfl
   rw [this];rfl
  |true =>
   cases hb:brk t with
   |false =>
    have:zji t=([],false):=by unfold zji;rw [hm,hb];rfl
    rw [this,zuO hb];rfl
   |true =>
    have:zji t=(t.drop 1,true):=by unfold zji;rw [hm,hb];rfl
    obtain ⟨k1,k2⟩:=zto hm hb
    have hlen:(t.drop 1).length=t.length-1:=by simp
    have hpos:0<t.length:=by rw [(znS hb).2];simp
    have hl2:Len (t.drop 1):=by unfold Len at *;omega
    rw [this]
    show ((zeG (t.drop 1)).bind _).bind _=_
    rw [zhq hl2]
    show zz (fun z=>zb4 z.1 z.2.1 z.2.2) (t.drop 1,(zji (t.drop 1)).1,(zji (t.drop 1)).2)=_
    cases d with
    |zero=>omega
    |succ d =>
     rw [zm6 (s:=s) d (t.drop 1) (by omega) hl2,k1,k2];rfl
theorem zp9(h:ze5 l L)(hm:zbZ L m){t:Tx}(hl:Len t):zcY L m t=some (thN L t):=by
 unfold zcY
 rw [zhq hl]
 simp only [Option.bind_some]
 rw [zm6 (s:=t) t.length t (Nat.le_refl _) hl]
 simp only [Option.bind_some,zaq]
 unfold zdv zbL
 rw [hm.has]
 unfold thN zup
 cases hmay:zhX t with
 |true=>rfl
 |false =>
  simp only [cond_false,Bool.false_and]
  congr 1
  rw [Bool.or_eq_false_iff]
  constructor
  ·cases hI:(t == [73]) with
   |false=>rfl
   |true =>
    have:t=[73]:=by simpa using hI
    rw [this] at hmay
    exact absurd hmay (by decide +kernel)
  ·cases hh:zet L t with
   |false=>rfl
   |true=>rw [zmP (zqF h hh)] at hmay;cases hmay
end
def zsY(L:List za):Tx→Tx→Bool
 | [],b=>thN L []&&(thN L b&&(([]:Tx) == b))
 |x ::r,b=>thN L (x ::r)&&(thN L b&&(((x ::r) == b)||cond (x == 91) (cond (brk b) ((!(r == [73]))&&((!(b.drop 1 == [73]))&&zsY L r (b.drop 1))) (b == zsG)) ((ziD L (x ::r)).any (fun y=>b == y)||(zgZ L (x ::r)).any (fun y=>b == y))))
theorem zsB(L:List za)(a b:Tx):zsY L a b=(thN L a&&(thN L b&&((a == b)||cond (brk a) (cond (brk b) ((!(a.drop 1 == [73]))&&((!(b.drop 1 == [73]))&&zsY L (a.drop 1) (b.drop 1))) (b == zsG)) ((ziD L a).any (fun y=>b == y)||(zgZ L a).any (fun y=>b == y))))):=by
 cases a with
 |nil =>
  have:thN L []=false:=by
   unfold thN
   have:zhX []=false:=by
    cases h:zhX [] with
    |false=>rfl
    |true =>
     unfold zhX at h
     rw [show zgh (zgh [])=[] from rfl] at h
     simp at h
     exact absurd rfl (zjZ h)
   rw [this];rfl
  rw [this]
  show (thN L []&&_)=_
  rw [this];rfl
 |cons x r=>rfl
section
variable {l L : List za} {m : List (Tx × Int)}
theorem zlG{l:List Tx}(hl:l.length≤1000)(n:Tx):zA l n=some (l.any fun y=>n == y):=znm hl n
theorem zog(h:ze5 l L)(n:Tx):(zgZ L n).length≤52:=by
 unfold zgZ
 rw [(zf8 _).length_eq]
 exact Nat.le_trans (List.length_filter_le _ _) (zqc h n)
theorem zwI{t:Tx}(h:thN L t=true):zhX t=true:=by
 unfold thN at h;rw [Bool.and_eq_true] at h;exact h.1
theorem zrq{t:Tx}(h:thN L t=true):zji t=cond (brk t) (t.drop 1,true) ([],false):=by
 unfold zji
 rw [zwI h,Bool.true_and]
theorem ztK(h:ze5 l L)(hm:zbZ L m){v0:(List za)×(List (Tx×Int))×Tx×Tx→Option Bool}{a b:Tx}(ha:Len a)(hb:Len b)
  (hv:brk a=true→brk b=true→v0 (L,m,a.drop 1,b.drop 1)=some (zsY L (a.drop 1) (b.drop 1))):zbK v0 L m a b=some (zsY L a b):=by
 have h1:=zhu h a
 have h2:=zog h a
 unfold zbK
 rw [zp9 h hm ha,zp9 h hm hb,zsB]
 cases ta:thN L a with
 |false=>rfl
 |true =>
  cases tb:thN L b with
  |false=>rfl
  |true =>
   simp only [Option.bind_some,Bool.not_true,cond_false,Bool.true_and]
   rw [zhq ha,zhq hb,zrq ta,zrq tb]
   simp only [Option.bind_some]
   cases hab:(a == b) with
   |true=>rfl
   |false =>
    cases ba:brk a with
    |true =>
     cases bb:brk b with
     |true =>
      simp only [cond_true,cond_false,Bool.and_self,Bool.false_or]
      rw [hv ba bb]
      cases (a.drop 1 == [73]) <;> cases (b.drop 1 == [73]) <;> rfl
     |false=>rfl
    |false =>
     simp only [cond_true,cond_false,Bool.false_and,Bool.false_or]
     rw [zhT h hm,zlL h hm]
     simp only [Option.bind_some]
     rw [zlG (by omega),zlG (by omega)]
     simp only [Option.bind_some]
     cases ((ziD L a).any fun y=>b == y) <;> rfl
theorem zuo(h:ze5 l L)(hm:zbZ L m):∀(d k:Nat) (a b:Tx),a.length≤d→d<k→Len a→Len b→zvo (fun v0 z=>zbK v0 z.1 z.2.1 z.2.2.1 z.2.2.2) k (L,m,a,b)=some (zsY L a b)
 |d,0,a,b,hd,hk,ha,hb=>by omega
 |d,k+1,a,b,hd,hk,ha,hb=>by
  show zbK (zvo (fun v0 z=>zbK v0 z.1 z.2.1 z.2.2.1 z.2.2.2) k) L m a b=_
  refine ztK h hm ha hb fun b1 b2=>?_
  have hlen:(a.drop 1).length=a.length-1:=by simp
  have hlen2:(b.drop 1).length=b.length-1:=by simp
  have hpos:0<a.length:=by rw [(znS b1).2];simp
  cases d with
  |zero=>omega
  |succ d=>exact zuo h hm d k _ _ (by omega) (by omega) (by unfold Len at *;omega) (by unfold Len at *;omega)
theorem zkS(h:ze5 l L)(hm:zbZ L m){a b:Tx}(ha:a.length≤25)(hb:Len b):zcg L m a b=some (zsY L a b):=by
 unfold zcg zwB
 rw [zuo h hm 25 30 a b ha (by omega) (by unfold Len;omega) hb]
theorem zrt(h:ze5 l L){n x:Tx}(hx:x∈zgZ L n):zet L x=true:=zvC h (zru.1 hx).1
end
abbrev I64(n:Int):Prop:=-9223372036854775808≤n∧n≤9223372036854775807
abbrev FS(s:List UInt8):Prop:=s.length≤10000
structure FL{α:Type}(Q:α→Prop)(l:List α):Prop where
 len:l.length≤10000
 all:∀x∈l,Q x
structure ztZ(f:zh):Prop where
 name:FS f.Name
 type:FS f.Type_
structure zxx(x:zn):Prop where
 op:I64 x.Op
 a:I64 x.A
 c:FS x.C
 m:FS x.M
structure zxy(x:zaA):Prop where
 pl:I64 x.At
 locals:FL FS x.Locals
 stack:FL FS x.Stack
structure zvS(x:zV):Prop where
 lo:I64 x.From
 hi:I64 x.To
 pl:I64 x.At
 c:FS x.C
structure zvR(m:zc):Prop where
 name:FS m.Name
 params:FL FS m.Params
 ret:FS m.Ret
 locals:I64 m.Locals
 stack:I64 m.Stack
 code:FL zxx m.Code
 maps:FL zxy m.Maps
 traps:FL zvS m.Traps
structure zjU(c:za):Prop where
 name:FS c.Name
 super:FS c.Super
 impl:FL FS c.Impl
 fields:FL ztZ c.Fields
 methods:FL zvR c.Methods
theorem FL.le{α:Type}{Q:α→Prop}{l:List α}(h:FL Q l):ziI l:=by have:=h.len;unfold ziI;omega
theorem FS.le{s:List UInt8}(h:FS s):Len s:=by unfold FS at h;unfold Len;omega
theorem zjU.cg{c:za}(h:zjU c):zvP c where
 name:=h.name.le
 super:=h.super.le
 impl:=⟨h.impl.le,fun s hs=>(h.impl.all s hs).le⟩
 fields:=⟨h.fields.le,fun f hf=>⟨(h.fields.all f hf).name.le,(h.fields.all f hf).type.le⟩⟩
 methods:=⟨h.methods.le,fun m hm=>by
  have g:=h.methods.all m hm
  have g1:=g.params.len
  have g2:=g.code.len
  have g3:=g.maps.len
  have g4:=g.traps.len
  exact ⟨g.name.le,⟨by omega,fun s hs=>(g.params.all s hs).le⟩,g.ret.le,
   ⟨g.maps.le,g.code.le,fun x hx=>⟨⟨(g.maps.all x hx).locals.le,fun s hs=>((g.maps.all x hx).locals.all s hs).le⟩,(g.maps.all x hx).stack.le,fun s hs=>((g.maps.all x hx).stack.all s hs).le⟩⟩,
   ⟨⟨g.code.le,fun x hx=>⟨(g.code.all x hx).c.le,(g.code.all x hx).m.le⟩⟩,⟨g.traps.le,fun x hx=>(g.traps.all x hx).c.le⟩⟩,⟨by omega,by omega,by omega⟩⟩⟩
theorem more{α:Type}{l:List α}{n i:Nat}{x:α}(h:l[i]?=some x)(hi:i<n):(decide ((i:Int)<(l.length:Int))&&decide ((i:Int)<(n:Int)))=true:=by
 rw [zgK h,decide_eq_true (by omega)];rfl
theorem FS.take(s:List UInt8){n:Nat}(hn:n≤100):FS (s.take n):=by unfold FS;rw [List.length_take];omega
theorem znd{α R:Type}{body:Int→Option (Sum Int (Sum Unit R))}{l:List α}
  (hb:∀(i:Nat) x,l[i]?=some x→body (i:Int)=some (.inl ((i+1:Nat):Int)))
  (he:body (l.length:Int)=some (.inr (.inl ()))):zz body 0=some (.inl ()):=by
 have:=zfe (body:=body) (l:=l) (g:=fun _=>none) (u:=()) (fun i x hx=>hb i x hx) he
 rw [this]
 have:l.findSome? (fun _=>(none:Option R))=none:=by
  induction l with
  |nil=>rfl
  |cons x l ih=>simp
 rw [this];rfl
section
variable {l L : List za} {m : List (Tx × Int)}
end
section
variable {l L : List za} {m : List (Tx × Int)}
theorem zv3:∀c∈giv,zjU c:=by
 intro c hc
 have hg:giv.all (fun c=>decide (c.Name.length≤10)&&decide (c.Super.length≤10)&&(c.Impl == [])&&decide (c.Fields.length=0)&&decide (c.Methods.length=0))=true:=by decide +kernel
 have:=List.all_eq_true.1 hg c hc
 simp only [Bool.and_eq_true,decide_eq_true_eq,beq_iff_eq] at this
 obtain ⟨⟨⟨⟨h1,h2⟩,h3⟩,h4⟩,h5⟩:=this
 refine ⟨by unfold FS;omega,by unfold FS;omega,⟨by rw [h3];simp,fun s hs=>by rw [h3] at hs;cases hs⟩,⟨by omega,fun s hs=>?_⟩,⟨by omega,fun s hs=>?_⟩⟩
 ·rw [List.eq_nil_of_length_eq_zero h4] at hs;cases hs
 ·rw [List.eq_nil_of_length_eq_zero h5] at hs;cases hs
theorem zu8(h:ze5 l L)(hs:∀c∈l,zjU c):∀c∈L,zjU c:=by
 intro c hc
 rw [h.app] at hc
 rcases List.mem_append.1 hc with e |e
 ·exact zv3 c e
 ·exact hs c e
def zC:za:=za.mk [] [] false [] [] []
theorem zpB(hm:zbZ L m)(n:Tx):zE L m n=some (match cl L n with |some c=>(c,true) |none=>(zC,false)):=by
 show cond (!(zbL L m n)) (some (zC,false)) ((zct L m n).bind fun v4=>some (v4,true))=_
 unfold zbL
 rw [hm.has]
 cases hc:cl L n with
 |none=>rw [zrH hc];rfl
 |some c=>rw [zhL hc,zmT hm (zhL hc),hc];rfl
end
section
variable {l L : List za} {m : List (Tx × Int)}
theorem Rc.trans{nx:Tx→List Tx}{a b c:Tx}(h:Rc nx a b)(k:Rc nx b c):Rc nx a c:=by
 induction h with
 |one h=>exact .more h k
 |more h _ ih=>exact .more h (ih k)
end
theorem zpb{α:Type}(p:α→Bool)(l:List α):idx l (ixF p 0 l)=l.find? p:=by
 rcases zns p l 0 with ⟨j,x,h1,h2,h3,h4⟩ |⟨h1,h2⟩
 ·rw [h1,h4,zT,Nat.zero_add,h2]
 ·rw [h1,h2];rfl
theorem znt{α:Type}(p:α→Bool)(l:List α):decide (0≤ixF p 0 l)=(l.find? p).isSome:=by
 rw [zdN,Bool.eq_iff_iff,List.any_eq_true,List.find?_isSome]
def zF:zh:=zh.mk [] [] false
def zM:zc:=zc.mk [] [] [] false false 0 0 [] [] []
abbrev FR:=List UInt8×zh×Bool
abbrev MR:=List UInt8×zc×Bool
def zwR(L:List za)(n s:Tx):Option FR:=match cl L s with |some x=>(match x.Fields.find? (fun y=>y.Name == n) with |some f=>some (s,f,true) |none=>none) |none=>none
def ztp(L:List za)(may:zc→Bool)(n s:Tx):Option MR:=match cl L s with |some x=>(match x.Methods.find? (fun y=>y.Name == n) with |some f=>cond (may f) (some (s,f,true)) none |none=>none) |none=>none
theorem zkK{R:Type}(o:Option R)(z:R):(some (zo5 () o):Option (Sum Unit R)).bind (fun o=>zaq o (fun _=>some z) some)=some (o.getD z):=by cases o <;> rfl
section
variable {l L : List za} {m : List (Tx × Int)}
theorem zfc(hm:zbZ L m)(n:Tx):zE L m n=some (match cl L n with |some c=>(c,true) |none=>(zC,false)):=zpB hm n
def zmh(L:List za):Prop:=∀c∈L,ziI c.Fields∧ziI c.Methods
theorem zu6(h:∀c∈L,zjU c):zmh L:=fun c hc=>⟨(h c hc).fields.le,(h c hc).methods.le⟩
theorem zta(h:ze5 l L)(hm:zbZ L m)(hL:zmh L)(c n:Tx):zeY L m c n=some (((ziD L c).findSome? (zwR L n)).getD ([],zF,false)):=by
 have h26:=zhu h c
 unfold zeY
 rw [zhT h hm]
 simp only [Option.bind_some]
 rw [show zz (fun z=>zcy L m n (ziD L c) z) 0=some (zo5 () ((ziD L c).findSome? (zwR L n))) from zfe (fun i s hs=>by
  have hi:=(List.getElem?_eq_some_iff.1 hs).1
  obtain ⟨x,hx⟩:=zhK (znO h _ c s (List.mem_of_getElem? hs)).1
  show zcy L m n (ziD L c) (i:Int)=_
  unfold zcy
  rw [zgK hs,zT,hs]
  simp only [cond_true,Option.bind_some]
  rw [zfc hm,hx]
  simp only [Option.bind_some]
  rw [zmk (hL x (zdL hx).1).1]
  simp only [Option.bind_some]
  rw [znt,zpb,zbW (by omega)]
  unfold zwR
  rw [hx]
  show _=some (zuE i (match x.Fields.find? (fun y=>y.Name == n) with |some f=>some (s,f,true) |none=>none))
  cases x.Fields.find? (fun y=>y.Name == n) <;> rfl) (by
  show zcy L m n (ziD L c) ((ziD L c).length:Int)=_
  unfold zcy
  rw [zhE];rfl)]
 exact zkK _ _
theorem zpS(h:ze5 l L)(hm:zbZ L m)(hL:zmh L){may:zc→Bool}{T:List Tx}(hT:T.length≤1000)(n:Tx){body:Int→Option (Sum Int (Sum Unit MR))}
  (hT2:∀s∈T,zet L s=true)
  (hb:∀(i:Nat) s x,T[i]?=some s→cl L s=some x→body (i:Int)=((zdp x n).bind fun v15=>(cond (decide (0≤v15)) ((idx x.Methods v15).bind fun v16=>some (may v16)) (some false)).bind fun v17=>cond v17 ((idx x.Methods v15).bind fun v18=>some (.inr (.inr (s,v18,true)))) (some (.inl (IntKind.i64.wrap ((i:Int)+1))))))
  (he:body (T.length:Int)=some (.inr (.inl ()))):zz body 0=some (zo5 () (T.findSome? (ztp L may n))):=by
 refine zfe (fun i s hs=>?_) he
 have hi:=(List.getElem?_eq_some_iff.1 hs).1
 obtain ⟨x,hx⟩:=zhK (hT2 s (List.mem_of_getElem? hs))
 rw [hb i s x hs hx,zlz (hL x (zdL hx).1).2]
 simp only [Option.bind_some]
 rw [znt,zpb,zbW (by omega)]
 unfold ztp
 rw [hx]
 show _=some (zuE i (match x.Methods.find? (fun y=>y.Name == n) with |some f=>cond (may f) (some (s,f,true)) none |none=>none))
 cases x.Methods.find? (fun y=>y.Name == n) with
 |none=>rfl
 |some f =>
  simp only [Option.isSome_some,cond_true,Option.bind_some]
  cases may f <;> rfl
theorem zpJ(h:ze5 l L)(hm:zbZ L m)(hL:zmh L){T:List Tx}(hT:T.length≤1000)(hT2:∀s∈T,zet L s=true)(n:Tx):zeH L m T n=some ((T.findSome? (ztp L zdx n)).getD ([],zM,false)):=by
 unfold zeH
 rw [show zz (fun z=>zcS L m T n z) 0=some (zo5 () (T.findSome? (ztp L zdx n))) from zpS h hm hL hT n hT2 (fun i s x hs hx=>by
  show zcS L m T n (i:Int)=_
  unfold zcS
  rw [zgK hs,zT,hs]
  simp only [cond_true,Option.bind_some]
  rw [zfc hm,hx];rfl) (by
  show zcS L m T n (T.length:Int)=_
  unfold zcS
  rw [zhE];rfl)]
 exact zkK _ _
theorem ztb(h:ze5 l L)(hm:zbZ L m)(hL:zmh L){T:List Tx}(hT:T.length≤1000)(hT2:∀s∈T,zet L s=true)(n:Tx):zgs L m T n=some ((T.findSome? (ztp L zgd n)).getD ([],zM,false)):=by
 unfold zgs
 rw [show zz (fun z=>zcT L m T n z) 0=some (zo5 () (T.findSome? (ztp L zgd n))) from zpS h hm hL hT n hT2 (fun i s x hs hx=>by
  show zcT L m T n (i:Int)=_
  unfold zcT
  rw [zgK hs,zT,hs]
  simp only [cond_true,Option.bind_some]
  rw [zfc hm,hx];rfl) (by
  show zcT L m T n (T.length:Int)=_
  unfold zcT
  rw [zhE];rfl)]
 exact zkK _ _
theorem zoO(h:ze5 l L)(c:Tx):∀s∈ziD L c,zet L s=true:=fun s hs=>(znO h _ c s hs).1
theorem zrZ(h:ze5 l L)(hm:zbZ L m)(hL:zmh L)(c n:Tx):zei L m c n=some (((ziD L c).findSome? (ztp L zdx n)).getD ([],zM,false)):=by
 have h26:=zhu h c
 unfold zei
 rw [zhT h hm]
 simp only [Option.bind_some]
 rw [zpJ h hm hL (by omega) (zoO h c)];rfl
def zuP(L:List za)(c n:Tx):MR:=cond (isF L c) (((c ::zgZ L c).findSome? (ztp L zgd n)).getD ([],zM,false)) ([],zM,false)
theorem zu4{c:Tx}(h:isF L c=true):zet L c=true:=by
 unfold isF at h
 cases hc:cl L c with
 |none=>rw [hc] at h;cases h
 |some x=>exact zhL hc
theorem zuQ(h:ze5 l L)(hm:zbZ L m)(hL:zmh L)(c n:Tx):zfG L m c n=some (zuP L c n):=by
 have h52:=zog h c
 unfold zfG zuP
 rw [zfc hm]
 have e:isF L c=(match cl L c with |some c=>(c,true) |none=>(zC,false)).1.Interface:=by
  unfold isF
  cases cl L c <;> rfl
 cases hF:isF L c with
 |false =>
  rw [hF] at e
  simp only [Option.bind_some]
  rw [←e];rfl
 |true =>
  rw [hF] at e
  simp only [Option.bind_some]
  rw [←e]
  simp only [Bool.not_true,cond_false]
  rw [zlL h hm]
  simp only [Option.bind_some]
  rw [zgR (by simp;omega) (by simp;omega)]
  simp only [Option.bind_some]
  rw [ztb h hm hL (by simp;omega) (fun s hs=>by
   rcases List.mem_cons.1 (show s∈c ::zgZ L c from hs) with e |e
   ·rw [e];exact zu4 hF
   ·exact zrt h e)]
  rfl
end
theorem zvl(x:Int){k:Int}(h1:1≤k)(h2:k≤1000):∃(i:Nat) (q:Int),(i:Int)<k∧zvt x k=some q∧zvt (IntKind.i64.wrap (q+k)) k=some (i:Int):=by
 have hb:=Int.tmod_lt_of_pos x (show (0:Int)<k by omega)
 have hb2:-k<x.tmod k:=by
  have:=Int.lt_tmod_of_pos x (show (0:Int)<k by omega)
  omega
 have hw:IntKind.i64.wrap (x.tmod k+k)=x.tmod k+k:=zlh (by omega) (by omega)
 have h3:=Int.tmod_nonneg k (show 0≤x.tmod k+k by omega)
 have h4:=Int.tmod_lt_of_pos (x.tmod k+k) (show (0:Int)<k by omega)
 refine ⟨((x.tmod k+k).tmod k).toNat,x.tmod k,by omega,?_,?_⟩
 ·unfold zvt
  rw [if_neg (by omega)]
 ·unfold zvt
  rw [hw,if_neg (by omega)]
  congr 1
  omega
section
variable {l L : List za} {m : List (Tx × Int)}
def zqX(L:List za)(t:Tx):Bool:=((t == [78])||(t == [84]))||thN L t
def zvs(L:List za)(t:Tx):Bool:=!(t == [73])&&thN L t
def zqu(L:List za)(a b:Tx):Bool:=
 (zqX L a&&zqX L b)&&cond ((b == [84])||(a == b)) true (cond (a == [78]) (zvs L b) ((zvs L a&&zvs L b)&&(isF L b||zsY L a b)))
theorem sub_self(t:Tx):zsY L t t=thN L t:=by
 rw [zsB]
 simp
theorem zw8:zhX [78]=false:=by decide +kernel
theorem zw9:zhX [84]=false:=by decide +kernel
theorem znQ(h:ze5 l L)(hm:zbZ L m){t:Tx}(ht:t.length≤25):zcp L m t=some (zqX L t):=by
 unfold zcp zqX
 rw [zkS h hm ht (by unfold Len;omega),sub_self]
 cases ((t == [78])||(t == [84])) <;> rfl
theorem zsp(h:ze5 l L)(hm:zbZ L m){t:Tx}(ht:t.length≤25):zeQ L m t=some (zvs L t):=by
 unfold zeQ zvs
 rw [zkS h hm ht (by unfold Len;omega),sub_self]
 cases (t == [73]) <;> rfl
theorem zol(b:Tx):isF L b=(match cl L b with |some c=>(c,true) |none=>(zC,false)).1.Interface:=by
 unfold isF
 cases cl L b <;> rfl
theorem zpK(h:ze5 l L)(hm:zbZ L m){a b:Tx}(ha:a.length≤25)(hb:b.length≤25):zdz L m a b=some (zqu L a b):=by
 unfold zdz zqu
 rw [znQ h hm ha,znQ h hm hb,zsp h hm ha,zsp h hm hb,zkS h hm ha (by unfold Len;omega)]
 have e:zE L m b=some (match cl L b with |some c=>(c,true) |none=>(zC,false)):=zpB hm b
 rw [e]
 simp only [Option.bind_some]
 rw [←zol]
 cases zqX L a <;> cases zqX L b <;> cases ((b == [84])||(a == b)) <;> cases (a == [78]) <;> cases zvs L a <;> cases zvs L b <;> cases isF L b <;> rfl
end
def ShL(l:List Tx):Prop:=l.length≤100∧∀t∈l,t.length≤25
theorem ShL.add{l:List Tx}{t:Tx}(h:l.length≤99∧∀t∈l,t.length≤25)(ht:t.length≤25):ShL (l++[t]):=
 ⟨by simp;omega,fun x hx=>by
  rcases List.mem_append.1 hx with h1 |h1
  ·exact h.2 x h1
  ·rw [List.mem_singleton.1 h1];exact ht⟩
theorem ShL.drop{l:List Tx}(h:ShL l):ShL l.dropLast:=⟨by rw [List.length_dropLast];have:=h.1;omega,fun x hx=>h.2 x (List.dropLast_subset l hx)⟩
def znT(e:Tx)(s:List Tx)(b:Bool):Tx×List Tx×Bool:=match s.getLast? with |some t=>(t,s.dropLast,b) |none=>(e,s,true)
theorem znJ(e:Tx)(s:List Tx)(t:Tx)(b:Bool):znT e (s++[t]) b=(t,s,b):=by simp [znT]
theorem zmZ(s:List Tx):s=[]∨∃r t,s=r++[t]:=by
 rcases List.eq_nil_or_concat s with h |⟨r,t,h⟩
 ·exact .inl h
 ·exact .inr ⟨r,t,by simpa using h⟩
theorem zvm{e:Tx}{s:List Tx}{b:Bool}(h:ShL s)(he:e.length≤25):(znT e s b).1.length≤25∧ShL (znT e s b).2.1:=by
 rcases zmZ s with rfl |⟨r,t,rfl⟩
 ·exact ⟨he,h⟩
 ·rw [znJ]
  refine ⟨h.2 t (by simp),⟨?_,fun x hx=>h.2 x (by simp [hx])⟩⟩
  have:=h.1;simp at this;show r.length≤100;omega
section
variable {l L : List za} {m : List (Tx × Int)} {c : Tx} {mt : zc} {loc stk : List Tx} {b : Bool}
theorem zuk(hs:stk.length≤1000):zah L m c mt loc stk b=some (znT [84] stk b):=by
 unfold zah
 rcases zmZ stk with rfl |⟨r,t,rfl⟩
 ·rfl
 ·have hl:((r++[t]).length:Int)=(r.length:Int)+1:=by simp
  have h0:(((r++[t]).length:Int) == 0)=false:=beq_eq_false_iff_ne.2 (by omega)
  have hw:IntKind.i64.wrap (((r++[t]).length:Int)-1)=(r.length:Int):=by
   rw [hl,zlh (by omega) (by simp at hs;omega)];omega
  rw [h0,hw,znJ,zT]
  have h1:(r++[t])[r.length]?=some t:=by simp
  have h2:zj3 (r++[t]) 0 (r.length:Int)=some r:=by
   unfold zj3
   rw [if_pos ⟨by omega,by omega,by omega⟩]
   simp
  rw [h1,h2]
  rfl
theorem zvn{t:Tx}(hs:stk.length≤1000):zt L m c mt loc stk b t=some (stk++[t]):=by
 unfold zt ziA
 rw [if_pos (by simp;omega)]
 rfl
theorem zpC{x:List Tx}(hs:x.length≤1000):zkW x=some x:=by
 unfold zkW ziA
 rw [if_pos (by simp;omega)]
 rfl
def zsH(L:List za)(e:Tx):List Tx→List Tx→Bool→List Tx×Bool
 | [],s,b=>(s,b)
 |w ::r,s,b=>zsH L e r (znT e s b).2.1 ((znT e s b).2.2||!zqu L (znT e s b).1 w)
theorem zvB(h:ze5 l L)(hm:zbZ L m){ts:List Tx}(ht:ShL ts):∀(k:Nat),k≤ts.length→∀(s:List Tx) (b:Bool),ShL s →
  zz (fun z=>zag L m c mt loc ts z.1 z.2.1 z.2.2) (s,b,(k:Int)-1)=some (.inl (zsH L [84] (ts.take k).reverse s b)):=by
 intro k
 induction k with
 |zero =>
  intro _ s b hs
  rw [zan]
  show (zag L m c mt loc ts s b (((0:Nat):Int)-1)).bind _=_
  unfold zag
  rw [decide_eq_false (by omega)]
  rfl
 |succ k ih =>
  intro hk s b hs
  rw [zan]
  show (zag L m c mt loc ts s b (((k+1:Nat):Int)-1)).bind _=_
  have e1:(((k+1:Nat):Int)-1)=(k:Int):=by omega
  have hlt:k<ts.length:=by omega
  obtain ⟨h1,h2⟩:=zvm (b:=b) hs (e:=[84]) (by decide)
  have hw:IntKind.i64.wrap ((k:Int)-1)=(k:Int)-1:=zlh (by omega) (by have:=ht.1;omega)
  have step:zag L m c mt loc ts s b (((k+1:Nat):Int)-1)=some (.inl ((znT [84] s b).2.1,(znT [84] s b).2.2||!zqu L (znT [84] s b).1 ts[k],(k:Int)-1)):=by
   unfold zag
   rw [e1,decide_eq_true (by omega),zT,List.getElem?_eq_getElem hlt,zuk (by have:=hs.1;omega)]
   simp only [cond_true,Option.bind_some]
   rw [zpK h hm h1 (ht.2 _ (List.getElem_mem hlt)),hw]
   rfl
  rw [step]
  simp only [Option.bind_some,Sum.elim_inl]
  rw [show zz (fun z=>zag L m c mt loc ts z.1 z.2.1 z.2.2) ((znT [84] s b).2.1,(znT [84] s b).2.2||!zqu L (znT [84] s b).1 ts[k],(k:Int)-1)=_ from ih (by omega) _ _ h2]
  have e2:(ts.take (k+1)).reverse=ts[k]::(ts.take k).reverse:=by
   rw [List.take_add_one,List.getElem?_eq_getElem hlt];simp
  rw [e2]
  rfl
theorem zvA(h:ze5 l L)(hm:zbZ L m){ts:List Tx}(ht:ShL ts)(hs:ShL stk):zv L m c mt loc stk b ts=some (zsH L [84] ts.reverse stk b):=by
 unfold zv
 have hw:IntKind.i64.wrap ((ts.length:Int)-1)=(ts.length:Int)-1:=zlh (by omega) (by have:=ht.1;omega)
 rw [hw,show zz (fun z=>zag L m c mt loc ts z.1 z.2.1 z.2.2) (stk,b,(ts.length:Int)-1)=_ from zvB h hm ht ts.length (Nat.le_refl _) stk b hs,List.take_length]
 rfl
end
theorem sh1{t:Tx}(h:t.length≤25):ShL [t]:=⟨by simp,fun x hx=>by rw [List.mem_singleton.1 hx];exact h⟩
theorem ShL.len{l:List Tx}(h:ShL l):l.length≤1000:=by have:=h.1;omega
theorem zwG{t:Tx}(h:t.length≤25):Len t:=by
 show t.length≤9223372036854775807
 omega
section
variable {l L : List za} {m : List (Tx × Int)} {c : Tx} {mt : zc} {loc stk : List Tx} {b : Bool}
end
section
variable {L : List za} {most : Int} {loc s : List Tx} {b : Bool}
end
def onS(t:Tx):Prop:=t=[78]∨zhX t=true
def zxz(t:Tx):Prop:=t.length≤25∧onS t
theorem ztc:zxz [73]:=⟨by decide,.inr (by decide +kernel)⟩
theorem zv2:zxz [78]:=⟨by decide,.inl rfl⟩
section
variable {L : List za} {loc stk s : List Tx} {b0 b : Bool}
end
theorem bt{n a b:Int}(h:a≤n∧n≤b):zaV n a b=true:=by
 unfold zaV;rw [decide_eq_true h.1,decide_eq_true h.2];rfl
theorem bf{n a b:Int}(h:¬(a≤n∧n≤b)):zaV n a b=false:=by
 unfold zaV
 rw [Bool.and_eq_false_iff,decide_eq_false_iff_not,decide_eq_false_iff_not];omega
theorem qt{n k:Int}(h:n=k):(n == k)=true:=by rw [h];exact beq_self_eq_true k
theorem qf{n k:Int}(h:n≠k):(n == k)=false:=beq_eq_false_iff_ne.2 h
structure zw0(l L:List za)(m:List (Tx×Int))(mt:zc)(loc stk:List Tx)(b:Bool):Prop where
 made:ze5 l L
 map:zbZ L m
 lens:zmh L
 shL:ShL loc
 shS:ShL stk
 on:∀t∈stk,onS t
 room:(stk.length:Int)≤mt.Stack
 onL:∀t∈loc,t=[84]∨onS t
section
variable {l L : List za} {m : List (Tx × Int)} {c : Tx} {mt : zc} {loc stk : List Tx} {b : Bool} {x : zn}
theorem zpX(h:1≤x.Op∧x.Op≤7):zaL L m c mt loc stk b x=(zcK L m c mt loc stk b x).bind fun v=>some (v.1,v.2.1,v.2.2):=by
 unfold zaL
 rw [bt h]
 rfl
end
section
variable {l L : List za} {m : List (Tx × Int)} {c : Tx} {mt : zc} {loc stk : List Tx} {b : Bool} {x : zn}
theorem zr8(h:46≤x.Op∧x.Op≤48):zaL L m c mt loc stk b x=(zc0 L m c mt loc stk b x.Op).bind fun v=>some (loc,v.1,v.2):=by
 unfold zaL
 rw [bf (by omega),qf (show x.Op≠13 by omega),bf (by omega),qf (show x.Op≠20 by omega),bf (by omega),bf (by omega),bf (by omega),bf (by omega),qf (show x.Op≠37 by omega),bf (by omega),bf (by omega),bt h]
 rfl
end
section
variable {l L : List za} {m : List (Tx × Int)} {c : Tx} {mt : zc} {loc stk : List Tx} {b : Bool} {x : zn}
theorem ztO{t:Tx}(ht:zhX t=true):zqX L t=thN L t:=by
 unfold zqX
 have e1:(t == [78])=false:=beq_eq_false_iff_ne.2 fun e=>by rw [e,zw8] at ht;cases ht
 have e2:(t == [84])=false:=beq_eq_false_iff_ne.2 fun e=>by rw [e,zw9] at ht;cases ht
 rw [e1,e2];rfl
end
theorem zsQ(t:Tx):t.length≤(zgh t).length+1:=by
 cases t with
 |nil=>exact Nat.zero_le _
 |cons x r=>rw [zjg];split <;> simp
theorem zlk{t:Tx}(h:zda t=true):t.length≤8:=by
 unfold zda zoR at h
 simp only [Bool.and_eq_true,decide_eq_true_eq] at h
 have:=h.1.1.2.2
 omega
theorem zue{t:Tx}(h:zhX t=true):t.length≤10:=by
 have h1:=zsQ t
 have h2:=zsQ (zgh t)
 unfold zhX at h
 rw [Bool.or_eq_true] at h
 rcases h with h |h
 ·have e:zgh (zgh t)=[73]:=by simpa using h
  rw [e] at h2
  simp at h2
  omega
 ·have:=zlk h
  omega
theorem zou{t:Tx}(h:zhX t=true):t.length≤25:=by have:=zue h;omega
theorem zum{t:Tx}(h:zul t=true):t.length≤25:=by
 unfold zul at h
 rw [Bool.or_eq_true] at h
 rcases h with h |h
 ·have e:t=[86]:=by simpa using h
  rw [e];decide
 ·exact zou h
theorem zwH{t:Tx}(h:znN t=true):t.length≤25∧(t=[84]∨onS t):=by
 unfold znN at h
 simp only [Bool.or_eq_true,beq_iff_eq] at h
 rcases h with ((h |h) |h) |h
 ·subst h;exact ⟨ztc.1,.inr ztc.2⟩
 ·subst h;exact ⟨zv2.1,.inr zv2.2⟩
 ·subst h;exact ⟨by decide,.inl rfl⟩
 ·unfold zvr at h
  rw [Bool.and_eq_true] at h
  exact ⟨zou h.2,.inr (.inr h.2)⟩
theorem zt9{α:Type}{bad:List α→α→Bool}:∀{l pre:List α},gB bad pre l=false→∀x∈l,∃q,bad q x=false
 | [],_,_,x,hx=>by cases hx
 |y ::r,pre,h,x,hx=>by
  unfold gB at h
  rw [Bool.or_eq_false_iff] at h
  rcases List.mem_cons.1 hx with e |e
  ·rw [e];exact ⟨pre,h.1⟩
  ·exact zt9 h.2 x e
structure zqZ(m:zc)(x:zaA):Prop where
 locs:(x.Locals.length:Int)=m.Locals
 stks:(x.Stack.length:Int)≤m.Stack
 locT:∀t∈x.Locals,znN t=true
 stkT:∀t∈x.Stack,znN t=true∧t≠[84]
structure zjc(m:zc):Prop where
 params:∀s∈m.Params,zhX s=true
 npar:m.Params.length≤6
 ret:zul m.Ret=true
 locs:zL m≤m.Locals∧m.Locals≤16
 stack:0≤m.Stack∧m.Stack≤16
 code:1≤m.Code.length∧m.Code.length≤100
 last:∃y,m.Code.getLast?=some y∧zi4 y.Op=true
 ins:∀x∈m.Code,zkc x=true
 traps:∀y∈m.Traps,y.C=[]∨zda y.C=true
 ntraps:m.Traps.length≤6
 maps:∀x∈m.Maps,zqZ m x
 nmaps:m.Maps.length≤100
theorem btw{n a b:Int}(h:zk n a b=true):a≤n∧n≤b:=by
 unfold zk at h
 simpa using h
theorem zoM{l:List Tx}(h:zkj l=true):∀t∈l,znN t=true:=fun t ht=>by
 unfold zkj at h
 rw [Bool.not_eq_true',List.any_eq_false] at h
 simpa using h t ht
theorem ztq{m:zc}(h:zdO m=true):(∀s∈m.Params,zhX s=true)∧m.Params.length≤6∧zul m.Ret=true:=by
 unfold zdO at h
 simp only [Bool.and_eq_true,Bool.not_eq_true',Bool.or_eq_false_iff,decide_eq_false_iff_not] at h
 obtain ⟨⟨⟨⟨h1,h2⟩,h3⟩,h4⟩,h5⟩:=h
 refine ⟨fun s hs=>?_,by omega,h4⟩
 unfold zm9 at h3
 rw [Bool.not_eq_true',List.any_eq_false] at h3
 simpa using h3 s hs
theorem ztr{m:zc}(h:zdO m=true)(ha:m.Abstract=false):zjc m:=by
 obtain ⟨p1,p2,p3⟩:=ztq h
 unfold zdO at h
 rw [ha] at h
 simp only [Bool.and_eq_true,cond_false] at h
 obtain ⟨_,_,hl,hs,⟨hi,ht⟩,hm⟩:=h
 have hl:=btw hl
 have hs:=btw hs
 unfold instrN at hi
 simp only [Bool.and_eq_true,Bool.not_eq_true'] at hi
 obtain ⟨i1,i2,i3⟩:=hi
 have i1:=btw i1
 unfold zm8 at ht
 simp only [Bool.and_eq_true,Bool.not_eq_true',decide_eq_true_eq] at ht
 obtain ⟨t1,t2⟩:=ht
 unfold zpf at hm
 simp only [Bool.and_eq_true,Bool.not_eq_true',decide_eq_true_eq] at hm
 obtain ⟨m1,m2⟩:=hm
 refine ⟨p1,p2,p3,hl,hs,by omega,?_,fun x hx=>?_,fun y hy=>?_,by omega,fun x hx=>?_,by omega⟩
 ·cases hg:m.Code.getLast? with
  |none=>rw [hg] at i2;cases i2
  |some y=>rw [hg] at i2;exact ⟨y,rfl,i2⟩
 ·have:=(List.any_eq_false.1 i3) x hx
  unfold zu2 at this
  simp only [Bool.or_eq_true,Bool.not_eq_true',not_or] at this
  simpa using this.1
 ·have:=(List.any_eq_false.1 t1) y hy
  unfold ztU at this
  simp only [Bool.or_eq_true,not_or,Bool.and_eq_true,Bool.not_eq_true',not_and,beq_eq_false_iff_ne] at this
  by_cases e:y.C=[]
  ·exact .inl e
  ·right
   have:=this.2 e
   simpa using this
 ·obtain ⟨q,hq⟩:=zt9 m1 x hx
  unfold zv9 at hq
  simp only [Bool.or_eq_false_iff,Bool.not_eq_false',beq_iff_eq,decide_eq_false_iff_not] at hq
  obtain ⟨_,⟨h1,h2⟩,⟨h3,h4⟩,h5⟩:=hq
  refine ⟨h1,by omega,zoM h3,fun t ht=>⟨zoM h4 t ht,fun e=>?_⟩⟩
  subst e
  have:=(List.any_eq_false.1 h5) [84] ht
  simp at this
theorem zw6{x:zn}(h:zkc x=true):x.C.length≤10:=by
 unfold zkc at h
 simp only [Bool.and_eq_true] at h
 have:=h.1.2
 unfold zrU at this
 cases h1:zip x.Op <;> rw [h1] at this
 ·cases h2:zvL x.Op <;> rw [h2] at this
  ·have e:x.C=[]:=by simpa using this
   rw [e];decide
  ·have:=zlk (show zda x.C=true from this);omega
 ·have:zvr x.C=true:=this
  unfold zvr at this
  rw [Bool.and_eq_true] at this
  exact zue this.2
def ztn(mt:zc)(n:Int):Option zaA:=mt.Maps.find? (fun x=>x.At == n)
def zsU(L:List za)(a b:List Tx):Bool:=((a.length:Int) == (b.length:Int))&&!(List.range a.length).any (fun i=>!zqu L ((a[i]?).getD []) ((b[i]?).getD []))
def zqx(L:List za)(mt:zc)(loc stk:List Tx)(n:Int):Bool:=match ztn mt n with |some x=>zsU L loc x.Locals&&zsU L stk x.Stack |none=>false
theorem zu5{α:Type}(p:α→Bool)(l:List α):decide (ixF p 0 l<0)=!(l.find? p).isSome:=by
 rw [←znt]
 by_cases h:ixF p 0 l<0
 ·rw [decide_eq_true h,decide_eq_false (by omega)];rfl
 ·rw [decide_eq_false h,decide_eq_true (by omega)];rfl
section
variable {l L : List za} {m : List (Tx × Int)} {c : Tx} {mt : zc} {loc stk : List Tx} {b : Bool}
theorem zs6{body:Int→Option (Sum Int (Sum Unit Bool))}{a b:List Tx}(ha:a.length≤1000)(hn:a.length=b.length)
  (hb:∀(i:Nat) x y,a[i]?=some x→b[i]?=some y→body (i:Int)=cond (!zqu L x y) (some (.inr (.inr false))) (some (.inl (IntKind.i64.wrap ((i:Int)+1)))))
  (he:body (a.length:Int)=some (.inr (.inl ()))):((zz body 0).bind fun o=>zaq o (fun _=>some true) some)=some (zsU L a b):=by
 rw [zqB (n:=a.length) (g:=fun i=>cond (!zqu L ((a[i]?).getD []) ((b[i]?).getD [])) (some false) none) (u:=()) (fun i hi=>by
  have h1:a[i]?=some a[i]:=List.getElem?_eq_getElem hi
  have h2:b[i]?=some (b[i]'(by omega)):=List.getElem?_eq_getElem (by omega)
  rw [hb i _ _ h1 h2,h1,h2,zbW (by omega)]
  simp only [Option.getD_some]
  cases zqu L a[i] (b[i]'(by omega)) <;> rfl) he,zdY]
 unfold zsU
 rw [hn,beq_self_eq_true,Bool.true_and]
 cases (List.range b.length).any (fun i=>!zqu L ((a[i]?).getD []) ((b[i]?).getD [])) <;> rfl
theorem zuA{a b:List Tx}(h:a.length≠b.length):zsU L a b=false:=by
 unfold zsU
 rw [beq_eq_false_iff_ne.2 (show (a.length:Int)≠(b.length:Int) by omega)];rfl
theorem zq3(h:ze5 l L)(hm:zbZ L m){a b:List Tx}(ha:ShL a)(hb2:∀t∈b,t.length≤25):zfH L m a b=some (zsU L a b):=by
 unfold zfH
 by_cases hn:a.length=b.length
 ·rw [show ((a.length:Int) == (b.length:Int))=true by rw [hn];exact beq_self_eq_true _]
  exact zs6 (body:=fun z=>zcV L m a b z) ha.len hn (fun i x y hx hy=>by
   show zcV L m a b (i:Int)=_
   have:=ha.2 x (List.mem_of_getElem? hx)
   have:=hb2 y (List.mem_of_getElem? hy)
   unfold zcV
   rw [zgK hx,zT,zT,hx,hy]
   simp only [cond_true,Option.bind_some]
   rw [zpK h hm (by omega) (by omega)];rfl) (by
   show zcV L m a b (a.length:Int)=_
   unfold zcV
   rw [zhE];rfl)
 ·rw [beq_eq_false_iff_ne.2 (show (a.length:Int)≠(b.length:Int) by omega),zuA hn];rfl
theorem zjc.lenM(hk:zjc mt):ziI mt.Maps:=by have:=hk.nmaps;unfold ziI;omega
theorem zrT(hk:zjc mt){n:Int}{x:zaA}(h:ztn mt n=some x):zqZ mt x:=hk.maps x (List.mem_of_find?_eq_some h)
theorem zqZ.loc25{x:zaA}(h:zqZ mt x):∀t∈x.Locals,t.length≤25:=fun t ht=>(zwH (h.locT t ht)).1
theorem zqZ.stk25{x:zaA}(h:zqZ mt x):∀t∈x.Stack,t.length≤25:=fun t ht=>(zwH (h.stkT t ht).1).1
theorem zo7(hk:zjc mt){n:Int}:zck L m c mt loc stk b n=some (ztn mt n):=by
 unfold zck zbY
 rw [show ((zz (fun z=>zak mt.Maps n z) 0).bind fun o=>zaq o (fun b=>zbA) some)=_ from zbG (p:=fun x:zaA=>x.At == n) hk.lenM
  (fun i x hx=>by
   unfold zak zdB
   rw [zgK hx,zT,hx];rfl) (by unfold zak;rw [zhE];rfl)]
 simp only [Option.bind_some]
 rw [zu5,zpb]
 unfold ztn
 cases mt.Maps.find? (fun x=>x.At == n) <;> rfl
theorem zpM(h:ze5 l L)(hm:zbZ L m){x:zaA}(hx:zqZ mt x)(hl:ShL loc)(hs:ShL stk):zdA L m x loc stk=some (zsU L loc x.Locals&&zsU L stk x.Stack):=by
 unfold zdA
 rw [zq3 h hm hl hx.loc25,zq3 h hm hs hx.stk25]
 cases zsU L loc x.Locals <;> rfl
theorem zv5(h:ze5 l L)(hm:zbZ L m)(hk:zjc mt)(hl:ShL loc)(hs:ShL stk){n:Int}:zcJ L m c mt loc stk b n=some (b||!zqx L mt loc stk n):=by
 unfold zcJ zqx
 rw [zo7 hk]
 simp only [Option.bind_some]
 cases hf:ztn mt n with
 |none=>rfl
 |some x =>
  show (zdA L m x loc stk).bind _=_
  rw [zpM h hm (zrT hk hf) hl hs];rfl
theorem zuZ(h:ze5 l L)(hm:zbZ L m)(hk:zjc mt)(hl:ShL loc){s:List Tx}(hs:ShL s){n:Int}:zcE L m c mt loc stk b n s=some (b||!zqx L mt loc s n):=by
 unfold zcE zqx
 rw [zo7 hk]
 simp only [Option.bind_some]
 cases hf:ztn mt n with
 |none=>rfl
 |some x =>
  show (zdA L m x loc s).bind _=_
  rw [zpM h hm (zrT hk hf) hl hs];rfl
end
section
variable {l L : List za} {m : List (Tx × Int)} {c : Tx} {mt : zc} {loc stk : List Tx} {b : Bool} {x : zn}
def zxB(L:List za)(C M:Tx):FR:=((ziD L C).findSome? (zwR L M)).getD ([],zF,false)
end
theorem zpy{α R:Type}{body:Bool×Int→Option (Sum (Bool×Int) (Sum Bool R))}{l:List α}{p:α→Bool}(hl:l.length≤1000000)
  (hb:∀(i:Nat) x (b:Bool),l[i]?=some x→body (b,(i:Int))=some (.inl (b||p x,IntKind.i64.wrap ((i:Int)+1))))
  (he:∀b:Bool,body (b,(l.length:Int))=some (.inr (.inl b))) (b0:Bool):zz body (b0,0)=some (.inl (b0||l.any p)):=by
 have key:∀(r pre:List α) (b:Bool),l=pre++r→zz body (b,(pre.length:Int))=some (.inl (b||r.any p)):=by
  intro r
  induction r with
  |nil =>
   intro pre b h
   have e:l=pre:=by rw [h,List.append_nil]
   subst e
   rw [zan,he]
   simp
  |cons x r ih =>
   intro pre b h
   have hlen:l.length=pre.length+(r.length+1):=by rw [h];simp
   have hx:l[pre.length]?=some x:=by rw [h];simp
   rw [zan,hb _ x b hx,zbW (by omega)]
   have:=ih (pre++[x]) (b||p x) (by rw [h];simp)
   rw [show (pre++[x]).length=pre.length+1 by simp] at this
   simp only [Option.bind_some,Sum.elim_inl]
   rw [this,List.any_cons,Bool.or_assoc]
 exact key l [] b0 rfl
def zmR(L:List za)(mt:zc)(loc stk:List Tx)(n:Int)(g:Bool):List Tx×List Tx×Bool:=
 match ztn mt n with |none=>(loc,stk,!g) |some x=>(x.Locals,x.Stack,g&&!zqx L mt loc stk n)
def znP:Tx:=[84,104,114,111,119,110]
def zpw(t:zV):Tx:=cond (t.C == []) znP t.C
def ztR(L:List za)(mt:zc)(loc:List Tx)(n:Int)(t:zV):Bool:=
 !zsY L (zpw t) znP||((decide (t.From≤n)&&decide (n<t.To))&&!zqx L mt loc [zpw t] t.At)
section
variable {l L : List za} {m : List (Tx × Int)} {c : Tx} {mt : zc} {loc stk : List Tx} {b : Bool}
theorem zqZ.shl{x:zaA}(hk:zjc mt)(h:zqZ mt x):ShL x.Locals:=⟨by have:=h.locs;have:=hk.locs.2;omega,h.loc25⟩
theorem zqZ.shs{x:zaA}(hk:zjc mt)(h:zqZ mt x):ShL x.Stack:=⟨by have:=h.stks;have:=hk.stack.2;omega,h.stk25⟩
theorem zrs(h:ze5 l L)(hm:zbZ L m)(hk:zjc mt)(hl:ShL loc)(hs:ShL stk){n:Int}{g:Bool}:
  zc8 L m c mt loc stk b n g=some ((zmR L mt loc stk n g).1,(zmR L mt loc stk n g).2.1,b||(zmR L mt loc stk n g).2.2):=by
 unfold zc8 zmR
 rw [zo7 hk]
 simp only [Option.bind_some]
 cases hf:ztn mt n with
 |none=>rfl
 |some x =>
  have hx:=zrT hk hf
  simp only [Option.isNone_some,cond_false]
  have key:∀v:Bool,zbB (some x) v=some (x.Locals,x.Stack,v):=fun v=>by
   unfold zbB
   show (zkW x.Locals).bind _=_
   rw [zpC (hx.shl hk).len]
   simp only [Option.bind_some]
   rw [zpC (hx.shs hk).len]
   rfl
  rw [zv5 h hm hk hl hs]
  cases g with
  |true=>simp only [cond_true,Option.bind_some];rw [key];rfl
  |false=>simp only [cond_false];rw [key];simp
theorem ztT(hk:zjc mt){t:zV}(ht:t∈mt.Traps):(zpw t).length≤25:=by
 unfold zpw
 rcases hk.traps t ht with e |e
 ·rw [e];decide
 ·cases t.C == []
  ·have:=zlk e;show t.C.length≤25;omega
  ·show znP.length≤25;decide
theorem zvD(h:ze5 l L)(hm:zbZ L m)(hk:zjc mt)(hl:ShL loc){n:Int}:zc9 L m c mt loc stk b n=some (b||mt.Traps.any (ztR L mt loc n)):=by
 unfold zc9
 rw [zpy (body:=fun z=>za4 L m c mt loc stk n z.1 z.2) (l:=mt.Traps) (p:=ztR L mt loc n) (by have:=hk.ntraps;omega) (fun i t b hi=>by
  have ht:=List.mem_of_getElem? hi
  have hc:=ztT hk ht
  have key:∀v:Tx,v=zpw t→zbC L m c mt loc stk n b (i:Int) t v=some (.inl (b||ztR L mt loc n t,IntKind.i64.wrap ((i:Int)+1))):=fun v hv=>by
   unfold zbC zb9
   rw [hv,zkS h hm hc (by show _≤_;decide)]
   simp only [Option.bind_some]
   rw [zuZ h hm hk hl (sh1 hc)]
   unfold ztR znP
   simp only [Option.bind_some]
   cases decide (t.From≤n)&&decide (n<t.To) <;> cases b <;> simp
  show za4 L m c mt loc stk n b (i:Int)=_
  unfold za4
  rw [zgK hi,zT,hi]
  simp only [cond_true,Option.bind_some]
  cases he:t.C == [] with
  |true=>exact key _ (by unfold zpw;rw [he];rfl)
  |false=>exact key _ (by unfold zpw;rw [he];rfl)) (fun b=>by
  show za4 L m c mt loc stk n b (mt.Traps.length:Int)=_
  unfold za4
  rw [zhE];rfl)]
 rfl
end
section
variable {l L : List za} {m : List (Tx × Int)} {c : Tx} {mt : zc} {loc stk : List Tx} {b : Bool}
def zmi(L:List za)(m:List (Tx×Int))(c:Tx)(mt:zc)(z:List Tx×List Tx×Bool×Bool×Int):Option Bool:=
 (zz (fun z=>zam c (zy.mk L m) mt z.1 z.2.1 z.2.2.1 z.2.2.2.1 z.2.2.2.2) z).bind fun o=>zaq o (fun b=>ze4 b.1 b.2.1 b.2.2) some
theorem zsw{g g':Bool}{i i':Int}{loc' stk':List Tx}{b':Bool}(h:zam c (zy.mk L m) mt loc stk b g i=some (.inl (loc',stk',b',g',i'))):zmi L m c mt (loc,stk,b,g,i)=zmi L m c mt (loc',stk',b',g',i'):=by
 unfold zmi
 rw [zan]
 show ((zam c (zy.mk L m) mt loc stk b g i).bind _).bind _=_
 rw [h];rfl
theorem zsx{g:Bool}{i:Int}{v:Bool}(h:zam c (zy.mk L m) mt loc stk b g i=some (.inr (.inr v))):zmi L m c mt (loc,stk,b,g,i)=some v:=by
 unfold zmi
 rw [zan]
 show ((zam c (zy.mk L m) mt loc stk b g i).bind _).bind _=_
 rw [h];rfl
theorem zkh{g:Bool}{i:Int}(h:zam c (zy.mk L m) mt loc stk b g i=some (.inr (.inl (loc,stk,b)))):zmi L m c mt (loc,stk,b,g,i)=some (!b):=by
 unfold zmi
 rw [zan]
 show ((zam c (zy.mk L m) mt loc stk b g i).bind _).bind _=_
 rw [h];rfl
theorem zp5(h:ze5 l L)(hm:zbZ L m)(hk:zjc mt)(hl:ShL loc)(hs:ShL stk){g:Bool}{i:Nat}(hi:i≤mt.Code.length):zmi L m c mt (loc,stk,true,g,(i:Int))=some false:=by
 by_cases hlt:i<mt.Code.length
 ·refine zsx ?_
  unfold zam
  have hx:mt.Code[i]?=some mt.Code[i]:=List.getElem?_eq_getElem hlt
  rw [zgK hx,zT,hx]
  simp only [cond_true,Option.bind_some]
  rw [zrs h hm hk hl hs]
  rfl
 ·refine zkh ?_
  unfold zam
  rw [decide_eq_false (by omega)]
  rfl
end
theorem zp0{R:Type}{n:Int}{body:List Tx→Option (Sum (List Tx) (Sum (List Tx) R))}
  (hb:∀z:List Tx,body z=cond (decide (((List.length z):Int)<n)) ((ziA 16 z ([[84]])).bind fun v=>some (.inl v)) (some (.inr (.inl z)))):
  ∀(k:Nat) (z:List Tx),((z.length+k:Nat):Int)=n→z.length+k≤1000→zz body z=some (.inl (z++List.replicate k [84]))
 | 0,z,h,h2=>by
  rw [zan,hb,decide_eq_false (by omega)]
  simp
 |k+1,z,h,h2=>by
  rw [zan,hb,decide_eq_true (by omega),zgR (by simp;omega) (by simp;omega)]
  simp only [cond_true,Option.bind_some,Sum.elim_inl]
  rw [zp0 hb k (z++[[84]]) (by simp;omega) (by simp;omega)]
  simp [List.replicate_succ]
section
variable {l L : List za} {m : List (Tx × Int)} {c : Tx} {f : zc} {b : Bool}
def zo9(L:List za)(T:List Tx):Bool:=T.any fun t=>!zqX L t
theorem zsR(h:ze5 l L)(hm:zbZ L m){T:List Tx}(hT:ShL T):zgO T L m=some (!zo9 L T):=by
 unfold zgO zbg zbS
 rw [show ((zz (fun z=>zac T L m z) 0).bind fun o=>zaq o (fun b=>zbn) some)=_ from zbG (l:=T) (p:=fun t=>!zqX L t) (by have:=hT.len;omega)
  (fun i x hx=>by
   have hl:=hT.2 x (List.mem_of_getElem? hx)
   unfold zac zhv zf0
   rw [zgK hx,zT,hx]
   simp only [Option.bind_some,cond_true]
   rw [znQ h hm hl]
   rfl) (by unfold zac;rw [zhE];rfl)]
 rw [Option.bind_some,zdN]
 rfl
theorem ztW(h:ze5 l L)(hm:zbZ L m){T:List Tx}(hT:ShL T):zf3 T L m=some (!T.any fun t=>!thN L t):=by
 unfold zf3 zbh zbT
 rw [show ((zz (fun z=>zad T L m z) 0).bind fun o=>zaq o (fun b=>zbo) some)=_ from zbG (l:=T) (p:=fun t=>!thN L t) (by have:=hT.len;omega)
  (fun i x hx=>by
   have hl:=hT.2 x (List.mem_of_getElem? hx)
   unfold zad zf2 zf1
   rw [zgK hx,zT,hx]
   simp only [Option.bind_some,cond_true]
   rw [zkS h hm hl (zwG hl),sub_self]
   rfl) (by unfold zad;rw [zhE];rfl)]
 rw [Option.bind_some,zdN]
 rfl
def zqA(c:Tx)(f:zc):List Tx:=cond (!f.Static) [c] []++f.Params
def zjP(c:Tx)(f:zc):List Tx:=zqA c f++List.replicate (f.Locals.toNat-(zqA c f).length) [84]
theorem zop(hk:zjc f):((zqA c f).length:Int)=zL f:=by
 have h6:=hk.npar
 unfold zqA zL
 cases f.Static with
 |true=>simp
 |false =>
  rw [zlh (by omega) (by omega)]
  simp
theorem zwt{R:Type}(hk:zjc f){body:List Tx→Option (Sum (List Tx) (Sum (List Tx) R))}
  (hb:∀z:List Tx,body z=cond (decide (((List.length z):Int)<f.Locals)) ((ziA 16 z ([[84]])).bind fun v=>some (.inl v)) (some (.inr (.inl z)))):zz body (zqA c f)=some (.inl (zjP c f)):=by
 have h1:=zop (c:=c) hk
 have h2:=hk.locs
 exact zp0 hb _ _ (by omega) (by omega)
theorem zrP(hk:zjc f):((zjP c f).length:Int)=f.Locals:=by
 have h1:=zop (c:=c) hk
 have h2:=hk.locs
 unfold zjP
 simp
 omega
theorem zoq(hk:zjc f)(hc:zhX c=true):∀t∈zjP c f,t.length≤25∧(t=[84]∨onS t):=by
 intro t ht
 unfold zjP zqA at ht
 rcases List.mem_append.1 ht with h |h
 ·rcases List.mem_append.1 h with h |h
  ·have:t=c:=by
    cases hs:f.Static with
    |true=>rw [hs] at h;cases h
    |false=>rw [hs] at h;simpa using h
   rw [this]
   exact ⟨zou hc,.inr (.inr hc)⟩
  ·have:=hk.params t h
   exact ⟨zou this,.inr (.inr this)⟩
 ·rw [(List.mem_replicate.1 h).2]
  exact ⟨by decide,.inl rfl⟩
theorem zo2(h:ze5 l L)(hm:zbZ L m)(hL:zmh L)(hk:zjc f)(hc:zhX c=true):zw0 l L m f (zjP c f) [] false:=by
 have h1:=zrP (c:=c) hk
 have h2:=hk.locs
 have h3:=hk.stack
 exact ⟨h,hm,hL,⟨by omega,fun t ht=>(zoq hk hc t ht).1⟩,⟨Nat.zero_le _,fun t ht=>(List.not_mem_nil ht).elim⟩,fun t ht=>(List.not_mem_nil ht).elim,by simp;omega,fun t ht=>(zoq hk hc t ht).2⟩
def zrd(L:List za)(f:zc):Bool:=((f.Maps.any fun x=>zo9 L x.Locals||zo9 L x.Stack)||!((f.Ret == [86])||thN L f.Ret))||f.Params.any fun t=>!thN L t
theorem zui(hk:zjc f):ShL f.Params:=⟨by have:=hk.npar;omega,fun s hs=>zou (hk.params s hs)⟩
theorem zpT(h:ze5 l L)(hm:zbZ L m)(hk:zjc f):((zz (fun z=>zci (zy.mk L m) f z.1 z.2) (false,0)).bind fun o=>zaq o (fun b=>zed c (zy.mk L m) f b) some)=zmi L m c f (zjP c f,[],zrd L f,true,0):=by
 have h6:=hk.npar
 rw [zpy (body:=fun z=>zci (zy.mk L m) f z.1 z.2) (l:=f.Maps) (p:=fun x=>zo9 L x.Locals||zo9 L x.Stack) (by have:=hk.nmaps;omega) (fun i x b hx=>by
  have hy:=hk.maps x (List.mem_of_getElem? hx)
  show zci (zy.mk L m) f b (i:Int)=_
  unfold zci
  rw [zgK hx,zT,hx]
  simp only [cond_true,Option.bind_some]
  rw [zsR h hm (hy.shl hk),zsR h hm (hy.shs hk)]
  cases zo9 L x.Locals <;> cases zo9 L x.Stack <;> rfl) (fun b=>by
  show zci (zy.mk L m) f b (f.Maps.length:Int)=_
  unfold zci
  rw [zhE];rfl)]
 simp only [Option.bind_some,zaq]
 have j4:∀(b v:Bool),zc5 c (zy.mk L m) f b v (cond (!f.Static) [c] [])=zmi L m c f (zjP c f,[],b||!v,true,0):=fun b v=>by
  unfold zc5
  rw [zgR (by cases f.Static <;> simp <;> omega) (by cases f.Static <;> simp <;> omega)]
  simp only [Option.bind_some]
  rw [show zz (fun z=>zee f z) (cond (!f.Static) [c] []++f.Params)=_ from zwt (c:=c) hk (body:=fun z=>zee f z) fun z=>rfl]
  rfl
 have j3:∀b:Bool,zc4 c (zy.mk L m) f b=zmi L m c f (zjP c f,[],b||(f.Params.any fun t=>!thN L t),true,0):=fun b=>by
  unfold zc4
  rw [ztW h hm (zui hk)]
  simp only [Option.bind_some]
  have:=j4 b (!f.Params.any fun t=>!thN L t)
  rw [Bool.not_not] at this
  rw [←this]
  cases hs:f.Static with
  |true=>rfl
  |false =>
   simp only [Bool.not_false,cond_true]
   rw [zgR (by simp) (by simp)]
   rfl
 unfold zed zrd
 have hr:=zum hk.ret
 rw [zkS h hm hr (zwG hr),sub_self]
 simp only [Option.bind_some]
 rw [j3,j3]
 cases f.Ret == [86] <;> simp
end
theorem zuF:zg5=some true:=by kernel_rfl
def sB(s:Tx):Bool:=decide (s.length≤10000)
def iB(n:Int):Bool:=decide (-9223372036854775808≤n∧n≤9223372036854775807)
def lB{α:Type}(p:α→Bool)(l:List α):Bool:=decide (l.length≤10000)&&l.all p
def zoh(f:zh):Bool:=sB f.Name&&sB f.Type_
def zv8(x:zn):Bool:=(iB x.Op&&iB x.A)&&(sB x.C&&sB x.M)
def ztm(x:zaA):Bool:=iB x.At&&(lB sB x.Locals&&lB sB x.Stack)
def zqd(x:zV):Bool:=(iB x.From&&iB x.To)&&(iB x.At&&sB x.C)
def zkd(m:zc):Bool:=(sB m.Name&&lB sB m.Params)&&((sB m.Ret&&(iB m.Locals&&iB m.Stack))&&(lB zv8 m.Code&&(lB ztm m.Maps&&lB zqd m.Traps)))
def zmO(c:za):Bool:=(sB c.Name&&sB c.Super)&&(lB sB c.Impl&&(lB zoh c.Fields&&lB zkd c.Methods))
theorem zkQ{s:Tx}(h:sB s=true):FS s:=of_decide_eq_true h
theorem zoj{n:Int}(h:iB n=true):I64 n:=of_decide_eq_true h
theorem znx{α:Type}{p:α→Bool}{Q:α→Prop}{l:List α}(k:∀x,p x=true→Q x)(h:lB p l=true):FL Q l:=by
 unfold lB at h
 rw [Bool.and_eq_true] at h
 exact ⟨of_decide_eq_true h.1,fun x hx=>k x (List.all_eq_true.1 h.2 x hx)⟩
theorem zrv{f:zh}(h:zoh f=true):ztZ f:=by
 unfold zoh at h
 rw [Bool.and_eq_true] at h
 exact ⟨zkQ h.1,zkQ h.2⟩
theorem zu1{x:zn}(h:zv8 x=true):zxx x:=by
 unfold zv8 at h
 simp only [Bool.and_eq_true] at h
 exact ⟨zoj h.1.1,zoj h.1.2,zkQ h.2.1,zkQ h.2.2⟩
theorem zu9{x:zaA}(h:ztm x=true):zxy x:=by
 unfold ztm at h
 simp only [Bool.and_eq_true] at h
 exact ⟨zoj h.1,znx (fun _=>zkQ) h.2.1,znx (fun _=>zkQ) h.2.2⟩
theorem ztS{x:zV}(h:zqd x=true):zvS x:=by
 unfold zqd at h
 simp only [Bool.and_eq_true] at h
 exact ⟨zoj h.1.1,zoj h.1.2,zoj h.2.1,zkQ h.2.2⟩
theorem zts{m:zc}(h:zkd m=true):zvR m:=by
 unfold zkd at h
 simp only [Bool.and_eq_true] at h
 exact ⟨zkQ h.1.1,znx (fun _=>zkQ) h.1.2,zkQ h.2.1.1,zoj h.2.1.2.1,zoj h.2.1.2.2,znx (fun _=>zu1) h.2.2.1,znx (fun _=>zu9) h.2.2.2.1,znx (fun _=>ztS) h.2.2.2.2⟩
theorem zjY{c:za}(h:zmO c=true):zjU c:=by
 unfold zmO at h
 simp only [Bool.and_eq_true] at h
 exact ⟨zkQ h.1.1,zkQ h.1.2,znx (fun _=>zkQ) h.2.1,znx (fun _=>zrv) h.2.2.1,znx (fun _=>zts) h.2.2.2⟩
theorem zt3{α:Type}{w:Nat}{a b:List α}(h:a.length+b.length≤1000)(hw:w≤1000):ziA w a b=some (a++b):=zgR (Nat.le_trans (Nat.mul_le_mul h hw) (by decide)) (by omega)
def zjJ(c:za):Tx×Tx×Bool×List Tx:=(c.Name,c.Super,c.Interface,c.Impl)
theorem zpA:∀{L L':List za} (n:Tx),L.map zjJ=L'.map zjJ→(cl L n).map zjJ=(cl L' n).map zjJ
 | [],[],n,_=>rfl
 | [],_ :: _,n,h=>by cases h
 |_ :: _,[],n,h=>by cases h
 |c ::L,d ::L',n,h=>by
  simp only [List.map_cons,List.cons.injEq] at h
  have hn:c.Name=d.Name:=congrArg (·.1) h.1
  unfold cl
  rw [List.find?_cons,List.find?_cons,hn]
  cases d.Name == n with
  |true=>simp only [Option.map_some,h.1]
  |false=>exact zpA n h.2
theorem zrG{L L':List za}(n:Tx)(h:L.map zjJ=L'.map zjJ):zet L n=zet L' n:=by
 rw [←zoc,←zoc]
 have:=zpA n h
 cases h1:cl L n <;> cases h2:cl L' n <;> rw [h1,h2] at this <;> first |rfl |cases this
theorem zrJ{L L':List za}(n:Tx)(h:L.map zjJ=L'.map zjJ):isF L n=isF L' n:=by
 have:=zpA n h
 unfold isF
 cases h1:cl L n <;> cases h2:cl L' n <;> rw [h1,h2] at this <;> first |rfl |(cases this;done) |skip
 simp only [Option.map_some,Option.some.injEq] at this
 exact congrArg (·.2.2.1) this
theorem zvi{L L':List za}(h:L.map zjJ=L'.map zjJ):nxA L=nxA L':=by
 funext n
 have:=zpA n h
 unfold nxA
 cases h1:cl L n <;> cases h2:cl L' n <;> rw [h1,h2] at this <;> first |rfl |(cases this;done) |skip
 simp only [Option.map_some,Option.some.injEq] at this
 have e1:=congrArg (·.2.1) this
 have e2:=congrArg (·.2.2.2) this
 simp only [zjJ] at e1 e2
 simp only [e1,e2]
theorem zvf{L L':List za}{c d:za}(h:L.map zjJ=L'.map zjJ)(hc:zjJ c=zjJ d):mis L c=mis L' d:=by
 have e1:c.Super=d.Super:=congrArg (·.2.1) hc
 have e2:c.Impl=d.Impl:=congrArg (·.2.2.2) hc
 unfold mis
 rw [e1,e2]
 congr 1
 funext s
 rw [zrG s h]
theorem zs7{L L':List za}{c d:za}(h:L.map zjJ=L'.map zjJ)(hc:zjJ c=zjJ d):zoU L c=zoU L' d:=by
 have e1:c.Super=d.Super:=congrArg (·.2.1) hc
 have e2:c.Impl=d.Impl:=congrArg (·.2.2.2) hc
 have e3:c.Name=d.Name:=congrArg (·.1) hc
 unfold zoU
 rw [e1,e2,e3,zrJ _ h]
 have:cyc L d.Name=cyc L' d.Name:=by
  rw [Bool.eq_iff_iff,zlJ,zlJ,zvi h]
 rw [this]
 congr 2
 refine congrArg (fun p=>d.Impl.any p) ?_
 funext s
 rw [zrJ s h]
theorem zo4{p p':za→Bool}:∀{l l':List za},l.map zjJ=l'.map zjJ→(∀c d,zjJ c=zjJ d→p c=p' d)→l.any p=l'.any p'
 | [],[],_,_=>rfl
 | [],_ :: _,h,_=>by cases h
 |_ :: _,[],h,_=>by cases h
 |c ::l,d ::l',h,k=>by
  simp only [List.map_cons,List.cons.injEq] at h
  rw [List.any_cons,List.any_cons,k c d h.1,zo4 h.2 k]
theorem zrM:∀{l l':List za} {P P' L:List za},l.map zjJ=l'.map zjJ→P.map zjJ=P'.map zjJ→(∀c∈l',zmC c=true)→lay P l=some L→∃L',lay P' l'=some L'∧L.map zjJ=L'.map zjJ
 | [],[],P,P',L,_,h,_,e=>by cases e;exact ⟨P',rfl,h⟩
 | [],_ :: _,_,_,_,h,_,_,_=>by cases h
 |_ :: _,[],_,_,_,h,_,_,_=>by cases h
 |c ::l,d ::l',P,P',L,h,hP,hm,e=>by
  simp only [List.map_cons,List.cons.injEq] at h
  have e3:c.Name=d.Name:=congrArg (·.1) h.1
  unfold lay at e ⊢
  rw [e3,zrG _ hP] at e
  rw [hm d (by simp)]
  cases hh:zet P' d.Name with
  |true=>rw [hh] at e;cases e
  |false =>
   rw [hh] at e
   have e':lay (P++[c]) l=some L:=by
    cases hq:zmC c with
    |true=>rw [hq] at e;exact e
    |false=>rw [hq] at e;cases e
   exact zrM h.2 (by rw [List.map_append,List.map_append,hP];simp [h.1]) (fun c hc=>hm c (by simp [hc])) e'
theorem zr3{l l':List za}(h:l.map zjJ=l'.map zjJ)(hm:∀c∈l',zmC c=true)(h0:(zoW l).2=0):zoW l'=(some (giv++l'),0):=by
 have hlen:l.length=l'.length:=by have:=congrArg List.length h;simpa using this
 unfold zoW at h0 ⊢
 cases hl:decide (16<(l.length:Int)) with
 |true=>rw [hl] at h0;cases h0
 |false =>
  rw [hl] at h0
  rw [←hlen,hl]
  simp only [cond_false] at h0 ⊢
  cases hy:lay giv l with
  |none=>rw [hy] at h0;cases h0
  |some L =>
   rw [hy] at h0
   obtain ⟨L',hL',hk⟩:=zrM h rfl hm hy
   rw [hL']
   simp only at h0 ⊢
   rw [zo4 h fun c d hc=>zvf hk hc,zo4 h fun c d hc=>zs7 hk hc] at h0
   have e:=(zmW l' giv L' zmU hL').1
   cases h1:l'.any (mis L') with
   |true=>rw [h1] at h0;cases h0
   |false =>
    cases h2:l'.any (zoU L') with
    |true=>rw [h1,h2] at h0;cases h0
    |false=>rw [e];rfl
section
variable {l L : List za} {m : List (Tx × Int)} {c : Tx} {mt : zc} {loc stk : List Tx} {b : Bool} {x : zn}
theorem zwm(ho:x.Op=1)(hs:stk.length≤1000):zaL L m c mt loc stk b x=some (loc,stk++[[73]],b):=by
 rw [zpX (by omega)]
 unfold zcK
 rw [qt ho,zvn hs]
 rfl
theorem zxf(ho:x.Op=5)(hs:stk.length≤1000):zaL L m c mt loc stk b x=some (loc,(znT [84] stk b).2.1,(znT [84] stk b).2.2):=by
 rw [zpX (by omega)]
 unfold zcK
 rw [qf (show x.Op≠1 by omega),qf (show x.Op≠2 by omega),qf (show x.Op≠3 by omega),qf (show x.Op≠4 by omega),qt ho]
 simp only [cond_false,cond_true]
 rw [zuk hs]
 rfl
theorem zwn(ho:x.Op=46):zaL L m c mt loc stk b x=some (loc,stk,b||!(mt.Ret == [86])):=by
 rw [zr8 (by omega)]
 unfold zc0
 rw [qt ho]
 rfl
theorem zgN(h:ze5 l L)(hm:zbZ L m)(hk:zjc mt)(hM:mt.Maps=[])(hT:mt.Traps=[])(hl:ShL loc)(hs:ShL stk){i:Nat}(hx:mt.Code[i]?=some x)(hj:zhs x.Op=false){p:List Tx×List Tx×Bool}
  (hp:zaL L m c mt loc stk false x=some p):zmi L m c mt (loc,stk,false,true,(i:Int))=zmi L m c mt (p.1,p.2.1,p.2.2||!decide ((p.2.1.length:Int)≤mt.Stack),!zi4 x.Op,((i+1:Nat):Int)):=by
 have hi:=(List.getElem?_eq_some_iff.1 hx).1
 have h100:=hk.code.2
 refine zsw ?_
 unfold zam
 rw [zgK hx,zT,hx]
 simp only [cond_true,Option.bind_some]
 rw [zrs h hm hk hl hs]
 have e:zmR L mt loc stk (i:Int) true=(loc,stk,false):=by unfold zmR ztn;rw [hM];rfl
 rw [e]
 simp only [Option.bind_some,Bool.or_self,cond_false]
 rw [zvD h hm hk hl,hT]
 simp only [List.any_nil,Bool.or_self,Option.bind_some]
 rw [hp]
 simp only [Option.bind_some]
 rw [hj]
 unfold zdn
 rw [zbW (by omega)]
 rfl
end
def iC(i:Nat):zn:=zn.mk 1 (i:Int) [] []
def iP:zn:=zn.mk 5 0 [] []
def iR:zn:=zn.mk 46 0 [] []
def csN(n:Nat):List zn:=(List.range n).map iC
def zgI(n p:Nat):List zn:=csN n++List.replicate p iP++[iR]
def zgx(n:Nat)(most:Int)(p:Nat):zc:=zc.mk [103] [] [86] false false 1 most (zgI n p) [] []
def zs8:za:=za.mk [70,97,99,101] [79,98,106,101,99,116] true [] [] ([(zc.mk [102] [] [73] false true 0 0 [] [] [])])
def cAa:za:=za.mk [65,97] [79,98,106,101,99,116] false ([[70,97,99,101]]) ([(zh.mk [120] [73] false),(zh.mk [115] [73] true)]) ([(zc.mk [102] [] [73] false false 1 1 ([(zn.mk 1 5 [] []),(zn.mk 47 0 [] [])]) [] [])])
def zgt:zc:=zc.mk [109,97,105,110] [] [86] true false 0 0 ([(zn.mk 46 0 [] [])]) [] []
def cBb(ms:List zc):za:=za.mk [66,98] [65,97] false [] ([(zh.mk [121] [91,65,97] false)]) ms
def zpE(n:Nat)(most:Int)(p:Nat):List za:=[zs8,cAa,cBb [zgt,zgx n most p]]
theorem zj2(n p:Nat):(zgI n p).length=n+p+1:=by unfold zgI csN;simp;omega
theorem zlH(n:Nat):(csN n).length=n:=by unfold csN;simp
theorem zvY{n p i:Nat}(h:i<n):(zgI n p)[i]?=some (iC i):=by
 unfold zgI
 rw [List.append_assoc,List.getElem?_append_left (by rw [zlH];exact h)]
 unfold csN
 rw [List.getElem?_map,List.getElem?_range h]
 rfl
theorem zvZ{n p i:Nat}(h:i<p):(zgI n p)[n+i]?=some iP:=by
 unfold zgI
 rw [List.append_assoc,List.getElem?_append_right (by rw [zlH];omega),zlH,show n+i-n=i by omega,List.getElem?_append_left (by simpa using h),List.getElem?_replicate,if_pos h]
theorem zv0(n p:Nat):(zgI n p)[n+p]?=some iR:=by
 have hl:(csN n++List.replicate p iP).length=n+p:=by rw [List.length_append,zlH,List.length_replicate]
 unfold zgI
 rw [List.getElem?_append_right (by rw [hl];omega),hl,Nat.sub_self]
 rfl
theorem zxa{i:Nat}(h:i≤20):zkc (iC i)=true:=by
 have e:zkP 1 (i:Int)=true:=by
  show zej (i:Int) (-2147483648) 2147483647=true
  unfold zej
  rw [decide_eq_true (by omega),decide_eq_true (by omega)];rfl
 unfold zkc iC
 simp only
 rw [e]
 decide +kernel
theorem instr_S{n p:Nat}(hn:n≤20)(hp:p≤20):instrN (zgI n p)=true:=by
 unfold instrN
 have h1:zk ((zgI n p).length:Int) 1 100=true:=by
  rw [zj2]
  unfold zk
  rw [decide_eq_true (by omega),decide_eq_true (by omega)];rfl
 have h2:(zgI n p).getLast?=some iR:=by unfold zgI;simp
 have h3:(zgI n p).any (zu2 ((zgI n p).length:Int))=false:=by
  rw [List.any_eq_false]
  intro x hx
  have key:∀y:zn,zkc y=true→zhs y.Op=false→¬zu2 ((zgI n p).length:Int) y=true:=fun y a b=>by
   unfold zu2
   rw [a,b]
   simp
  unfold zgI csN at hx
  rcases List.mem_append.1 hx with h |h
  ·rcases List.mem_append.1 h with h |h
   ·obtain ⟨i,hi,rfl⟩:=List.mem_map.1 h
    exact key _ (zxa (by have:=List.mem_range.1 hi;omega)) (by rfl)
   ·rw [(List.mem_replicate.1 h).2]
    exact key _ (by decide +kernel) (by rfl)
  ·rw [List.mem_singleton.1 h]
   exact key _ (by decide +kernel) (by rfl)
 rw [h1,h2,h3]
 rfl
theorem zwe{n p:Nat}{most:Int}(hn:n≤20)(hp:p≤20)(h0:0≤most)(h1:most≤16):zdO (zgx n most p)=true:=by
 have e1:zk most 0 16=true:=by
  unfold zk
  rw [decide_eq_true h0,decide_eq_true h1];rfl
 have e2:zk 1 (zL (zgx n most p)) 16=true:=by
  have:zL (zgx n most p)=1:=by
   unfold zL zgx
   simp only [cond_false]
   exact zlh (n:=1) (by omega) (by omega)
  rw [this];decide
 unfold zdO
 have a1:(zgx n most p).Name=[103]:=rfl
 have a2:(zgx n most p).Params=[]:=rfl
 have a3:(zgx n most p).Ret=[86]:=rfl
 have a4:(zgx n most p).Abstract=false:=rfl
 have a5:(zgx n most p).Locals=1:=rfl
 have a6:(zgx n most p).Stack=most:=rfl
 have a7:(zgx n most p).Code=zgI n p:=rfl
 have a8:zm8 (zgx n most p)=true:=rfl
 have a9:zpf (zgx n most p)=true:=rfl
 rw [a8,a9,a1,a2,a3,a4,a5,a6,a7,e2,e1,instr_S hn hp,show (zgx n most p).Static=false from rfl]
 simp only [cond_false]
 decide +kernel
theorem zwa{g:zc}(h:zdO g=true)(ha:g.Abstract=false)(hn:g.Name=[103]):zmC (cBb [zgt,g])=true:=by
 unfold zmC cBb
 have e:uB (fun m=>(m.Abstract == false)&&zdO m) (·.Name) [] [zgt,g]=false:=by
  unfold uB uB uB
  have hM:zdO zgt=true:=by decide +kernel
  rw [show zgt.Abstract=false from rfl,hM,ha,h,hn]
  decide
 have e5:decide (([zgt,g].length:Int)≤8)=true:=decide_eq_true (by show (2:Int)≤8;decide)
 rw [e5]
 simp only [e]
 show (!(false&&((!(([65,97]:Tx) == [79,98,106,101,99,116]))||decide (0<(([zh.mk [121] [91,65,97] false]:List zh).length:Int))))&&((((zda [66,98]&&zda [65,97])&&(!(uB zda id [] ([]:List Tx))&&decide ((([]:List Tx).length:Int)≤4)))&&(!(uB zkY (·.Name) [] [zh.mk [121] [91,65,97] false])&&decide ((([zh.mk [121] [91,65,97] false]:List zh).length:Int)≤8)))&&(!false&&true)))=true
 decide +kernel
theorem zt7{g:zc}(hg:zkd g=true):∀c∈[zs8,cAa,cBb [zgt,g]],zvP c:=by
 intro c hc
 have hB:zmO (cBb [zgt,g])=true:=by
  have e:lB zkd [zgt,g]=true:=by
   unfold lB
   rw [Bool.and_eq_true]
   refine ⟨decide_eq_true (by show 2≤10000;omega),?_⟩
   rw [List.all_cons,List.all_cons,hg]
   decide +kernel
  unfold zmO cBb
  rw [e]
  show ((sB [66,98]&&sB [65,97])&&(lB sB []&&(lB zoh [zh.mk [121] [91,65,97] false]&&true)))=true
  decide +kernel
 simp only [List.mem_cons,List.not_mem_nil,or_false] at hc
 rcases hc with rfl |rfl |rfl
 ·exact (zjY (show zmO zs8=true by decide +kernel)).cg
 ·exact (zjY (show zmO cAa=true by decide +kernel)).cg
 ·exact (zjY hB).cg
theorem zwg:(zoW (zpE 0 0 0)).2=0:=by
 obtain ⟨m,hm,he⟩:=zh7 (l:=zpE 0 0 0) (zt7 (by decide +kernel))
 have hr:((zft (zpE 0 0 0)).map fun r=>r.2)=some 0:=by kernel_rfl
 rw [he] at hr
 simpa using hr
theorem zxc{n p:Nat}{most:Int}(hn:n≤20)(hp:p≤20)(h0:0≤most)(h1:most≤16):zoW (zpE n most p)=(some (giv++zpE n most p),0):=by
 refine zr3 (l:=zpE 0 0 0) rfl ?_ zwg
 intro c hc
 have hc:c∈[zs8,cAa,cBb [zgt,zgx n most p]]:=hc
 simp only [List.mem_cons,List.not_mem_nil,or_false] at hc
 rcases hc with rfl |rfl |rfl
 ·decide +kernel
 ·decide +kernel
 ·exact zwa (zwe hn hp h0 h1) rfl rfl
theorem zvd{n p:Nat}{most:Int}(hn:n≤20)(hp:p≤20)(h0:0≤most)(h1:most≤16):zkd (zgx n most p)=true:=by
 have i1:iB most=true:=decide_eq_true (by omega)
 have i2:lB zv8 (zgI n p)=true:=by
  unfold lB
  rw [Bool.and_eq_true,decide_eq_true_eq,List.all_eq_true]
  refine ⟨by rw [zj2];omega,fun x hx=>?_⟩
  unfold zgI csN at hx
  rcases List.mem_append.1 hx with h |h
  ·rcases List.mem_append.1 h with h |h
   ·obtain ⟨i,hi,rfl⟩:=List.mem_map.1 h
    have hi:=List.mem_range.1 hi
    have:iB (i:Int)=true:=decide_eq_true (by omega)
    show (iB 1&&iB (i:Int))&&(sB []&&sB [])=true
    rw [this];decide
   ·rw [(List.mem_replicate.1 h).2];decide
  ·rw [List.mem_singleton.1 h];decide
 unfold zkd
 have a1:(zgx n most p).Name=[103]:=rfl
 have a2:(zgx n most p).Params=[]:=rfl
 have a3:(zgx n most p).Ret=[86]:=rfl
 have a5:(zgx n most p).Locals=1:=rfl
 have a6:(zgx n most p).Stack=most:=rfl
 have a7:(zgx n most p).Code=zgI n p:=rfl
 have a8:(zgx n most p).Maps=[]:=rfl
 have a9:(zgx n most p).Traps=[]:=rfl
 rw [a1,a2,a3,a5,a6,a7,a8,a9,i1,i2]
 decide
section
variable {L : List za} {l : List za} {m : List (Tx × Int)} {n p : Nat} {most : Int}
abbrev tI:Tx:=[73]
theorem zl6{k:Nat}(h:k≤100):ShL (List.replicate k tI):=⟨by simpa using h,fun t ht=>by rw [(List.mem_replicate.1 ht).2];decide⟩
abbrev lB1:List Tx:=[[66,98]]
theorem zrN:ShL lB1:=sh1 (by decide)
theorem zwE(h:ze5 l L)(hm:zbZ L m)(hk:zjc (zgx n most p))(hn:n≤20)(hmo:most≤16):∀(d i:Nat),i+d=n→(i:Int)≤most →
  zmi L m [66,98] (zgx n most p) (lB1,List.replicate i tI,false,true,(i:Int))=cond (decide ((n:Int)≤most)) (zmi L m [66,98] (zgx n most p) (lB1,List.replicate n tI,false,true,(n:Int))) (some false)
 | 0,i,e,hi=>by
  have:i=n:=by omega
  subst this
  rw [decide_eq_true hi];rfl
 |d+1,i,e,hi=>by
  have hs:=zl6 (k:=i) (by omega)
  have hx:(zgx n most p).Code[i]?=some (iC i):=zvY (by omega)
  rw [zgN h hm hk rfl rfl zrN hs hx rfl (zwm rfl hs.len)]
  have e1:List.replicate i tI++[[73]]=List.replicate (i+1) tI:=by rw [List.replicate_succ']
  simp only [e1]
  by_cases hq:((i+1:Nat):Int)≤most
  ·have e2:(false||!decide (((List.replicate (i+1) tI).length:Int)≤(zgx n most p).Stack))=false:=by
    rw [List.length_replicate,show (zgx n most p).Stack=most from rfl,decide_eq_true hq];rfl
   rw [e2]
   exact zwE h hm hk hn hmo d (i+1) (by omega) hq
  ·have e2:(false||!decide (((List.replicate (i+1) tI).length:Int)≤(zgx n most p).Stack))=true:=by
    rw [List.length_replicate,show (zgx n most p).Stack=most from rfl,decide_eq_false hq];rfl
   rw [e2,decide_eq_false (by omega)]
   exact zp5 h hm hk zrN (zl6 (by omega)) (by show i+1≤(zgI n p).length;rw [zj2];omega)
theorem zwF(h:ze5 l L)(hm:zbZ L m)(hk:zjc (zgx n most p))(hn:n≤20)(hnm:(n:Int)≤most):∀(d j:Nat),j+d=p→j≤n →
  zmi L m [66,98] (zgx n most p) (lB1,List.replicate (n-j) tI,false,true,((n+j:Nat):Int))=some (decide (p≤n))
 | 0,j,e,hj=>by
  have:j=p:=by omega
  subst this
  have hs:=zl6 (k:=n-j) (by omega)
  have hx:(zgx n most j).Code[n+j]?=some iR:=zv0 n j
  rw [zgN h hm hk rfl rfl zrN hs hx rfl (zwn rfl),decide_eq_true hj]
  have e2:((false||!((zgx n most j).Ret == [86]))||!decide (((List.replicate (n-j) tI).length:Int)≤(zgx n most j).Stack))=false:=by
   rw [List.length_replicate,show (zgx n most j).Stack=most from rfl,decide_eq_true (by omega)];rfl
  simp only [e2]
  refine zkh ?_
  unfold zam
  rw [decide_eq_false (by show ¬((n+j+1:Nat):Int)<((zgI n j).length:Int);rw [zj2];omega)]
  rfl
 |d+1,j,e,hj=>by
  have hs:=zl6 (k:=n-j) (by omega)
  have hx:(zgx n most p).Code[n+j]?=some iP:=zvZ (by omega)
  rw [zgN h hm hk rfl rfl zrN hs hx rfl (zxf rfl hs.len)]
  by_cases hq:j=n
  ·subst hq
   rw [Nat.sub_self]
   have e2:((znT [84] (List.replicate 0 tI) false).2.2||!decide (((znT [84] (List.replicate 0 tI) false).2.1.length:Int)≤(zgx j most p).Stack))=true:=rfl
   rw [e2]
   show zmi L m [66,98] (zgx j most p) (lB1,[],true,_,_)=_
   rw [zp5 h hm hk zrN (show ShL [] from zl6 (k:=0) (by omega)) (by show j+j+1≤(zgI j p).length;rw [zj2];omega),decide_eq_false (by omega)]
  ·obtain ⟨k,hk2⟩:∃k,n-j=k+1:=⟨n-j-1,by omega⟩
   rw [hk2,List.replicate_succ',znJ]
   have e2:(false||!decide (((List.replicate k tI).length:Int)≤(zgx n most p).Stack))=false:=by
    rw [List.length_replicate,show (zgx n most p).Stack=most from rfl,decide_eq_true (by omega)];rfl
   simp only [e2]
   have:=zwF h hm hk hn hnm d (j+1) (by omega) (by omega)
   rw [show n-(j+1)=k by omega] at this
   exact this
end
theorem zwJ{n:Nat}(hn:n≤20):∀(d i:Nat),i+d=n→zz (fun z=>za9 (n:Int) z.1 z.2) (csN i,(i:Int))=some (.inl (csN n))
 | 0,i,e=>by
  have:i=n:=by omega
  subst this
  rw [zan]
  show (za9 (i:Int) (csN i) (i:Int)).bind _=_
  unfold za9
  rw [decide_eq_false (by omega)]
  rfl
 |d+1,i,e=>by
  rw [zan]
  show (za9 (n:Int) (csN i) (i:Int)).bind _=_
  unfold za9
  rw [decide_eq_true (by omega),zt3 (by rw [zlH];simp;omega) (by omega),zbW (by omega)]
  have e1:csN i++[zn.mk 1 (i:Int) [] []]=csN (i+1):=by unfold csN;rw [List.range_succ,List.map_append];rfl
  simp only [cond_true,Option.bind_some,e1,Sum.elim_inl]
  exact zwJ hn d (i+1) (by omega)
theorem zwK{n p:Nat}(hn:n≤20)(hp:p≤20):∀(d j:Nat),j+d=p→zz (fun z=>zba (p:Int) z.1 z.2) (csN n++List.replicate j iP,(j:Int))=some (.inl (csN n++List.replicate p iP))
 | 0,j,e=>by
  have:j=p:=by omega
  subst this
  rw [zan]
  show (zba (j:Int) (csN n++List.replicate j iP) (j:Int)).bind _=_
  unfold zba
  rw [decide_eq_false (by omega)]
  rfl
 |d+1,j,e=>by
  rw [zan]
  show (zba (p:Int) (csN n++List.replicate j iP) (j:Int)).bind _=_
  unfold zba
  rw [decide_eq_true (by omega),zt3 (by rw [List.length_append,zlH];simp;omega) (by omega),zbW (by omega)]
  have e1:csN n++List.replicate j iP++[zn.mk 5 0 [] []]=csN n++List.replicate (j+1) iP:=by rw [List.replicate_succ',List.append_assoc];rfl
  simp only [cond_true,Option.bind_some,e1,Sum.elim_inl]
  exact zwK hn hp d (j+1) (by omega)
theorem zwL{n p:Nat}{most:Int}(hn:n≤20)(hp:p≤20)(h0:0≤most)(h1:most≤16):
  ∃H,zft (zpE n most p)=some (some H,0)∧za3 (some H) [66,98] 1=some (decide ((n:Int)≤most)&&decide (p≤n)):=by
 have hE:=zxc hn hp h0 h1
 obtain ⟨m,hm,he⟩:=zh7 (l:=zpE n most p) (zt7 (zvd hn hp h0 h1))
 rw [hE] at he
 have hE1:(zoW (zpE n most p)).1=some (giv++zpE n most p):=by rw [hE]
 have hmp:=hm _ hE1
 obtain ⟨hM,_⟩:=zoA hE1
 have hg:=zwe hn hp h0 h1
 have hk:=ztr hg rfl
 refine ⟨_,he,?_⟩
 unfold za3
 simp only [zsh]
 rw [zfc hmp]
 have hc:cl (giv++zpE n most p) [66,98]=some (cBb [zgt,zgx n most p]):=rfl
 rw [hc]
 simp only [Option.bind_some]
 have hb:(((!true)||decide ((1:Int)<0))||decide (((cBb [zgt,zgx n most p]).Methods.length:Int)≤1))=false:=rfl
 rw [hb]
 have hi:idx (cBb [zgt,zgx n most p]).Methods 1=some (zgx n most p):=rfl
 rw [hi]
 simp only [Option.bind_some,cond_false,show (zgx n most p).Abstract=false from rfl]
 rw [zpT hM hmp hk]
 have e1:zjP [66,98] (zgx n most p)=lB1:=rfl
 have e2:zrd (giv++zpE n most p) (zgx n most p)=false:=rfl
 rw [e1,e2]
 have hr:=zwE (n:=n) (p:=p) hM hmp hk hn h1 n 0 (by omega) (by omega)
 have hr0:zmi (giv++zpE n most p) m [66,98] (zgx n most p) (lB1,[],false,true,0)=_:=hr
 rw [hr0]
 cases hq:decide ((n:Int)≤most) with
 |false=>rfl
 |true =>
  have hnm:=of_decide_eq_true hq
  simp only [cond_true,Bool.true_and]
  exact zwF hM hmp hk hn hnm p 0 (by omega) (Nat.zero_le _)
theorem zjj(n most p:Int):zeX n most p=some true:=by
 unfold zeX
 rw [zuF]
 simp only [Option.bind_some,Bool.not_true,cond_false]
 cases hq:((((((decide (n<0))||(decide (20<n)))||(decide (most<0)))||(decide (16<most)))||(decide (p<0)))||(decide (20<p))) with
 |true=>rfl
 |false =>
  simp only [Bool.or_eq_false_iff,decide_eq_false_iff_not] at hq
  obtain ⟨⟨⟨⟨⟨q1,q2⟩,q3⟩,q4⟩,q5⟩,q6⟩:=hq
  obtain ⟨a,rfl⟩:∃a:Nat,n=(a:Int):=⟨n.toNat,by omega⟩
  obtain ⟨d,rfl⟩:∃d:Nat,p=(d:Int):=⟨p.toNat,by omega⟩
  have ha:a≤20:=by omega
  have hd:d≤20:=by omega
  simp only [cond_false]
  rw [show zz (fun z=>za9 (a:Int) z.1 z.2) ([],0)=_ from zwJ ha a 0 (by omega)]
  simp only [Option.bind_some,zaq]
  unfold zdI
  have h3:=zwK (n:=a) ha hd d 0 (by omega)
  rw [show csN a++List.replicate 0 iP=csN a by simp] at h3
  rw [show zz (fun z=>zba (d:Int) z.1 z.2) (csN a,0)=_ from h3]
  simp only [Option.bind_some,zaq]
  unfold zdJ zj9
  rw [zt3 (by rw [List.length_append,zlH];simp;omega) (by omega)]
  simp only [Option.bind_some]
  rw [zt3 (by simp) (by omega)]
  simp only [Option.bind_some]
  obtain ⟨H,h1,h2⟩:=zwL ha hd (show 0≤most by omega) (show most≤16 by omega)
  show (zft (zpE a most d)).bind _=some true
  rw [h1]
  simp only [Option.bind_some,beq_self_eq_true,cond_true]
  rw [h2]
  have e:decide ((d:Int)≤(a:Int))=decide (d≤a):=by
   by_cases h:d≤a
   ·rw [decide_eq_true h,decide_eq_true (by omega)]
   ·rw [decide_eq_false h,decide_eq_false (by omega)]
  simp only [Option.bind_some]
  rw [e,beq_self_eq_true]
theorem zqY(n m p:Int)(_:wI .i64 n)(_:wI .i64 m)(_:wI .i64 p):zu Tryz.prog 8 [iA n,iA m,iA p] (bA true):=zjk n m p (zjj n m p)
section
variable {l L : List za} {m : List (Tx × Int)}
def zhj(L:List za)(t:Tx):Bool:=(!(t == [86])&&!(t == []))&&!zqX L t
theorem zlQ(h:ze5 l L)(hm:zbZ L m){t:Tx}(ht:t.length≤25):zcL t L m=some (zhj L t):=by
 unfold zcL zhj
 rw [znQ h hm ht]
 cases (!(t == [86])&&!(t == [])) <;> rfl
def zr0(L:List za)(x:zn):Bool:=
 cond ((((x.Op == 38)||(x.Op == 39))||(x.Op == 40))||(x.Op == 41)) (zxB L x.C x.M).2.2
  (cond (((x.Op == 42)||(x.Op == 43))||(x.Op == 44)) ((((ziD L x.C).findSome? (ztp L zdx x.M)).getD ([],zM,false)).2.2&&!isF L x.C) (cond (x.Op == 45) (zuP L x.C x.M).2.2 true))
theorem ztt(h:ze5 l L)(hm:zbZ L m)(hL:zmh L)(x:zn):zgm L m x=some (zr0 L x):=by
 unfold zgm zcP zdg zcQ zr0 zxB
 rw [zfc hm,zta h hm hL,zrZ h hm hL,zuQ h hm hL,zol]
 simp only [Option.bind_some]
 cases x.Op == 38 <;> cases x.Op == 39 <;> cases x.Op == 40 <;> cases x.Op == 41 <;> cases x.Op == 42 <;> cases x.Op == 43 <;> cases x.Op == 44 <;> cases x.Op == 45 <;> rfl
def zkH(L:List za)(x:zn):Bool:=zhj L x.C||!zr0 L x
theorem zqz(h:ze5 l L)(hm:zbZ L m)(hL:zmh L){x:zn}(hx:x.C.length≤25):zd8 x L m L m=some (zkH L x):=by
 unfold zd8 zkH
 rw [zlQ h hm hx,ztt h hm hL]
 cases zhj L x.C <;> rfl
theorem zrj(h:ze5 l L)(hm:zbZ L m)(hL:zmh L){T:List zh}(hl:T.length≤10000)(hT:∀x∈T,x.Type_.length≤25):z6 T L m=some (T.any fun x=>zhj L x.Type_):=by
 unfold z6 za2
 rw [show ((zz (fun z=>zP T L m z) 0).bind fun o=>zaq o (fun b=>zaJ) some)=_ from zbG (l:=T) (p:=fun x:zh=>zhj L x.Type_) (by omega) (fun i x hx=>by
   unfold zP zgj
   rw [zgK hx,zT,hx]
   simp only [Option.bind_some,cond_true]
   rw [zlQ h hm (hT x (List.mem_of_getElem? hx))]
   rfl) (by unfold zP;rw [zhE];rfl)]
 rw [Option.bind_some,zdN]
theorem zs9(h:ze5 l L)(hm:zbZ L m)(hL:zmh L){T:List zV}(hl:T.length≤10000)(hT:∀x∈T,x.C.length≤25):zal T L m=some (T.any fun x=>zhj L x.C):=by
 unfold zal zbd
 rw [show ((zz (fun z=>zU T L m z) 0).bind fun o=>zaq o (fun b=>zaW) some)=_ from zbG (l:=T) (p:=fun x:zV=>zhj L x.C) (by omega) (fun i x hx=>by
   unfold zU zfq
   rw [zgK hx,zT,hx]
   simp only [Option.bind_some,cond_true]
   rw [zlQ h hm (hT x (List.mem_of_getElem? hx))]
   rfl) (by unfold zU;rw [zhE];rfl)]
 rw [Option.bind_some,zdN]
theorem zuH(h:ze5 l L)(hm:zbZ L m)(hL:zmh L){T:List zn}(hl:T.length≤10000)(hT:∀x∈T,x.C.length≤25):zas T L m L m=some (T.any fun x=>zkH L x):=by
 unfold zas zbz
 rw [show ((zz (fun z=>zZ T L m L m z) 0).bind fun o=>zaq o (fun b=>za5) some)=_ from zbG (l:=T) (p:=fun x:zn=>zkH L x) (by omega) (fun i x hx=>by
   unfold zZ 
   rw [zgK hx,zT,hx]
   simp only [Option.bind_some,cond_true]
   rw [zqz h hm hL (hT x (List.mem_of_getElem? hx))]
   rfl) (by unfold zZ;rw [zhE];rfl)]
 rw [Option.bind_some,zdN]
theorem zuJ(h:ze5 l L)(hm:zbZ L m)(hL:zmh L){T:List Tx}(hl:T.length≤10000)(hT:∀x∈T,x.length≤25):zaE T L m=some (T.any fun x=>zhj L x):=by
 unfold zaE zbU
 rw [show ((zz (fun z=>zae T L m z) 0).bind fun o=>zaq o (fun b=>zbp) some)=_ from zbG (l:=T) (p:=fun x:Tx=>zhj L x) (by omega) (fun i x hx=>by
   unfold zae 
   rw [zgK hx,zT,hx]
   simp only [Option.bind_some,cond_true]
   rw [zlQ h hm (hT x (List.mem_of_getElem? hx))]
   rfl) (by unfold zae;rw [zhE];rfl)]
 rw [Option.bind_some,zdN]
def zio(L:List za)(f:zc):Bool:=((zhj L f.Ret||f.Params.any fun x=>zhj L x)||f.Traps.any fun x=>zhj L x.C)||f.Code.any fun x=>zkH L x
structure zvG(f:zc):Prop where
 pars:f.Params.length≤10000∧∀x∈f.Params,x.length≤25
 ret:f.Ret.length≤25
 traps:f.Traps.length≤10000∧∀x∈f.Traps,x.C.length≤25
 code:f.Code.length≤10000∧∀x∈f.Code,x.C.length≤25
theorem zjc.small{f:zc}(hk:zjc f):zvG f where
 pars:=⟨by have:=hk.npar;omega,(zui hk).2⟩
 ret:=zum hk.ret
 traps:=⟨by have:=hk.ntraps;omega,fun y hy=>by
  rcases hk.traps y hy with e |e
  ·rw [e];exact Nat.zero_le _
  ·have:=zlk e;omega⟩
 code:=⟨by have:=hk.code.2;omega,fun x hx=>by have:=zw6 (hk.ins x hx);omega⟩
theorem zqD(h:ze5 l L)(hm:zbZ L m)(hL:zmh L){f:zc}(hf:zvG f):zfd f L m L m=some (zio L f):=by
 unfold zfd zio
 rw [zs9 h hm hL hf.traps.1 hf.traps.2,zuH h hm hL hf.code.1 hf.code.2,zlQ h hm hf.ret,zuJ h hm hL hf.pars.1 hf.pars.2]
 simp only [Option.bind_some]
 cases zhj L f.Ret <;> rfl
theorem zuI(h:ze5 l L)(hm:zbZ L m)(hL:zmh L){T:List zc}(hl:T.length≤10000)(hT:∀x∈T,zvG x):zX T L m L m=some (T.any fun x=>zio L x):=by
 unfold zX zaS
 rw [show ((zz (fun z=>zI T L m L m z) 0).bind fun o=>zaq o (fun b=>zaw) some)=_ from zbG (l:=T) (p:=fun x:zc=>zio L x) (by omega) (fun i x hx=>by
   unfold zI 
   rw [zgK hx,zT,hx]
   simp only [Option.bind_some,cond_true]
   rw [zqD h hm hL (hT x (List.mem_of_getElem? hx))]
   rfl) (by unfold zI;rw [zhE];rfl)]
 rw [Option.bind_some,zdN]
def zmg(L:List za)(c:za):Bool:=!(c.Fields.any fun x=>zhj L x.Type_)&&!(c.Methods.any fun x=>zio L x)
theorem ztX(h:ze5 l L)(hm:zbZ L m)(hL:zmh L){c:za}(h1:c.Fields.length≤10000∧∀f∈c.Fields,f.Type_.length≤25)(h2:c.Methods.length≤10000∧∀f∈c.Methods,zvG f):zgn L m c=some (zmg L c):=by
 unfold zgn zmg
 rw [zrj h hm hL h1.1 h1.2,zuI h hm hL h2.1 h2.2]
 rfl
def zlt(a b:zc):Bool:=(a.Params == b.Params)&&(a.Ret == b.Ret)
theorem zs4{a b:zc}(h:a.Params.length≤10000):zgc a b=some (zlt a b):=by
 unfold zgc zlt
 rw [zmb (by omega)]
 rfl
def zi5(f y:zc):Bool:=((y.Name == f.Name)&&!(f.Name == [36,105,110,105,116]))&&((!zlt f y||f.Static)||y.Static)
theorem ztB{f y:zc}(h:f.Params.length≤10000):zdu y f.Name f.Params f.Ret f.Static f.Abstract f.Locals f.Stack f.Code f.Maps f.Traps=some (zi5 f y):=by
 unfold zdu zi5
 rw [zs4 (a:=zc.mk f.Name f.Params f.Ret f.Static f.Abstract f.Locals f.Stack f.Code f.Maps f.Traps) h]
 cases ((y.Name == f.Name)&&!(f.Name == [36,105,110,105,116])) <;> rfl
theorem ztC{f:zc}(h:f.Params.length≤10000){T:List zc}(hl:T.length≤10000):zY T f.Name f.Params f.Ret f.Static f.Abstract f.Locals f.Stack f.Code f.Maps f.Traps=some (T.any fun y=>zi5 f y):=by
 unfold zY zaT
 rw [show ((zz (fun z=>zJ T f.Name f.Params f.Ret f.Static f.Abstract f.Locals f.Stack f.Code f.Maps f.Traps z) 0).bind fun o=>zaq o (fun b=>zax) some)=_ from zbG (l:=T) (p:=fun y:zc=>zi5 f y) (by omega) (fun i x hx=>by
   unfold zJ
   rw [zgK hx,zT,hx]
   simp only [Option.bind_some,cond_true]
   rw [ztB h]
   rfl) (by unfold zJ;rw [zhE];rfl)]
 rw [Option.bind_some,zdN]
def zjl(L:List za)(s:Tx):List zc:=match cl L s with |some x=>x.Methods |none=>[]
def zjn(L:List za)(c:za):Bool:=!(c.Methods.any fun f=>((ziD L c.Name).drop 1).any fun s=>(zjl L s).any fun y=>zi5 f y)
theorem zvy(h:ze5 l L){n:Tx}(hn:zet L n=true):1≤(ziD L n).length:=by
 obtain ⟨x,hx⟩:=zhK hn
 unfold ziD
 cases hd:L.length with
 |zero =>
  have:L=[]:=List.eq_nil_of_length_eq_zero hd
  rw [this] at hn;cases hn
 |succ d =>
  unfold sup
  rw [hx]
  simp
theorem zoF(h:ze5 l L)(hm:zbZ L m)(hs:∀s,(zjl L s).length≤10000){c:za}(hc:zet L c.Name=true)(h2:c.Methods.length≤10000∧∀f∈c.Methods,zvG f):zd7 L m c=some (zjn L c):=by
 have h26:=zhu h c.Name
 have h1:=zvy h hc
 unfold zd7
 rw [show zz (fun z=>zb1 L m c z) 0=some (zo5 () (c.Methods.findSome? (fun f=>cond (((ziD L c.Name).drop 1).any fun s=>(zjl L s).any fun y=>zi5 f y) (some false) none))) from zfe (fun i f hf=>by
  have hi:=(List.getElem?_eq_some_iff.1 hf).1
  have hF:=h2.2 f (List.mem_of_getElem? hf)
  show zb1 L m c (i:Int)=_
  unfold zb1
  rw [zgK hf,zT,hf]
  simp only [cond_true,Option.bind_some]
  rw [zhT h hm]
  simp only [Option.bind_some]
  rw [show (1:Int)=((1:Nat):Int) from rfl,zlI h1]
  simp only [Option.bind_some]
  have hin:zz (fun z=>zb0 L m f ((ziD L c.Name).drop 1) z) 0=some (zo5 () (((ziD L c.Name).drop 1).findSome? (fun s=>cond ((zjl L s).any fun y=>zi5 f y) (some false) none))):=zfe (fun j s hj=>by
   have hjl:=(List.getElem?_eq_some_iff.1 hj).1
   simp only [List.length_drop] at hjl
   show zb0 L m f ((ziD L c.Name).drop 1) (j:Int)=_
   unfold zb0
   rw [zgK hj,zT,hj]
   simp only [cond_true,Option.bind_some]
   obtain ⟨v,e1,e2⟩:∃v,zE L m s=some v∧v.1.Methods=zjl L s:=⟨_,zfc hm s,by unfold zjl;cases cl L s <;> rfl⟩
   rw [e1]
   simp only [Option.bind_some]
   rw [e2,ztC hF.pars.1 (hs s),zbW (by omega)]
   simp only [Option.bind_some]
   cases (zjl L s).any fun y=>zi5 f y <;> rfl) (by
   show zb0 L m f ((ziD L c.Name).drop 1) (((ziD L c.Name).drop 1).length:Int)=_
   unfold zb0
   rw [zhE];rfl)
  rw [hin,zdY]
  unfold zd2
  rw [zbW (by omega)]
  cases ((ziD L c.Name).drop 1).any fun s=>(zjl L s).any fun y=>zi5 f y <;> rfl) (by
  show zb1 L m c (c.Methods.length:Int)=_
  unfold zb1
  rw [zhE];rfl),zdY]
 unfold zjn
 cases c.Methods.any fun f=>((ziD L c.Name).drop 1).any fun s=>(zjl L s).any fun y=>zi5 f y <;> rfl
theorem zqr(h:ze5 l L)(hm:zbZ L m){c:za}(hf:zgZ L c.Name=[]):zgl L m c=some true:=by
 unfold zgl
 rw [zlL h hm,hf]
 simp only [Option.bind_some]
 have e:zz (fun z=>zfQ L m [] z.1 z.2) ([],0)=some (.inl []):=by
  rw [zan];rfl
 rw [e]
 simp only [Option.bind_some,zaq]
 unfold zfP zau zaU
 have e2:zz (fun z=>zay [] L m c.Name c.Super c.Interface c.Impl c.Fields c.Methods z) 0=some (.inl ()):=by
  rw [zan];rfl
 rw [e2]
 cases c.Interface <;> rfl
end
theorem zuG:zij=some true:=by kernel_rfl
theorem zw2(a:Int):zvJ .i64 a 1=0∨zvJ .i64 a 1=1:=by
 unfold zvJ
 have h:(BitVec.ofInt IntKind.i64.bits a &&& BitVec.ofInt IntKind.i64.bits 1).toNat≤1:=by
  rw [BitVec.toNat_and]
  exact Nat.le_trans Nat.and_le_right (by decide)
 rcases Nat.le_one_iff_eq_zero_or_eq_one.1 h with e |e <;> rw [e]
 ·left;decide
 ·right;decide
def zxs:Tx:=[91,73]
def okT(t:Tx):Prop:=t=[73]∨t=zsG∨t=zxs
def zqn(i:Bool):List zn:=cond i [(zn.mk 1 0 [] []),(zn.mk 47 0 [] [])] [(zn.mk 46 0 [] [])]
def zmE(i:Bool):Tx:=cond i [73] [86]
def zao(ps:List Tx)(i st:Bool):zc:=zc.mk [102] ps (zmE i) st false ((ps.length:Int)+1) 1 (zqn i) [] []
theorem zr6{t:Tx}(h:okT t):zhX t=true:=by
 rcases h with rfl |rfl |rfl <;> decide +kernel
theorem zos(a:List Int):∀(d i:Nat) (ps:List Tx),i+d=4→ps.length=i→(∀t∈ps,okT t)→∃qs,zz (fun z=>zcu a z.1 z.2) (ps,(i:Int))=some (.inl qs)∧qs.length≤4∧∀t∈qs,okT t
 | 0,i,ps,h,hl,hp=>by
  refine ⟨ps,?_,by omega,hp⟩
  rw [zan]
  show (zcu a ps (i:Int)).bind _=_
  unfold zcu
  rw [decide_eq_false (show ¬(i:Int)<4 by omega),Bool.and_false]
  rfl
 |d+1,i,ps,h,hl,hp=>by
  by_cases hi:i<a.length
  ·obtain ⟨j,q,hj,q1,q2⟩:=zvl a[i] (k:=3) (by omega) (by omega)
   have hx:a[i]?=some a[i]:=List.getElem?_eq_getElem hi
   obtain ⟨t,ht,hok⟩:∃t,idx ([[73],[79,98,106,101,99,116],[91,73]]:List Tx) (j:Int)=some t∧okT t:=by
    have:j=0∨j=1∨j=2:=by omega
    rcases this with rfl |rfl |rfl
    ·exact ⟨[73],rfl,.inl rfl⟩
    ·exact ⟨zsG,rfl,.inr (.inl rfl)⟩
    ·exact ⟨zxs,rfl,.inr (.inr rfl)⟩
   obtain ⟨qs,r1,r2,r3⟩:=zos a d (i+1) (ps++[t]) (by omega) (by simp [hl]) (fun u hu=>by
    rcases List.mem_append.1 hu with e |e
    ·exact hp u e
    ·rw [List.mem_singleton.1 e];exact hok)
   refine ⟨qs,?_,r2,r3⟩
   rw [zan]
   show (zcu a ps (i:Int)).bind _=_
   unfold zcu
   rw [decide_eq_true (show (i:Int)<(a.length:Int) by omega),decide_eq_true (show (i:Int)<4 by omega),zT,hx]
   simp only [Bool.and_self,cond_true,Option.bind_some]
   rw [q1]
   simp only [Option.bind_some]
   rw [q2]
   simp only [Option.bind_some]
   rw [ht]
   simp only [Option.bind_some]
   rw [zt3 (by simp;omega) (by omega),zbW (by omega)]
   exact r1
  ·refine ⟨ps,?_,by omega,hp⟩
   rw [zan]
   show (zcu a ps (i:Int)).bind _=_
   unfold zcu
   rw [decide_eq_false (show ¬(i:Int)<(a.length:Int) by omega)]
   rfl
theorem zrS(a:List Int)(r:Int)(s:Bool):∃ps i,zga a r s=some (zao ps i s)∧ps.length≤4∧∀t∈ps,okT t:=by
 obtain ⟨qs,r1,r2,r3⟩:=zos a 4 0 [] rfl rfl (fun t ht=>(List.not_mem_nil ht).elim)
 have hw:IntKind.i64.wrap (((List.length qs:Nat):Int)+1)=((qs.length:Int)+1):=zlh (by omega) (by omega)
 have r1':zz (fun z=>zcu a z.1 z.2) ([],0)=some (.inl qs):=r1
 rcases zw2 r with e |e
 ·refine ⟨qs,false,?_,r2,r3⟩
  unfold zga
  rw [e,show idx ([[86],[73]]:List Tx) 0=some [86] from rfl]
  simp only [Option.bind_some]
  rw [r1']
  simp only [Option.bind_some,zaq]
  unfold zfX zd3
  rw [hw]
  rfl
 ·refine ⟨qs,true,?_,r2,r3⟩
  unfold zga
  rw [e,show idx ([[86],[73]]:List Tx) 1=some [73] from rfl]
  simp only [Option.bind_some]
  rw [r1']
  simp only [Option.bind_some,zaq]
  unfold zfX zd3
  rw [hw]
  rfl
theorem zvc{ps:List Tx}{i st:Bool}(h1:ps.length≤4)(h2:∀t∈ps,okT t):zdO (zao ps i st)=true:=by
 have e0:zm9 ps=true:=by
  unfold zm9
  rw [Bool.not_eq_true',List.any_eq_false]
  intro t ht
  rw [zr6 (h2 t ht)];simp
 have e1:zk ((ps.length:Int)+1) (zL (zao ps i st)) 16=true:=by
  have:zL (zao ps i st)≤(ps.length:Int)+1:=by
   unfold zL zao
   cases st with
   |true=>simp only [cond_true];omega
   |false =>
    simp only [cond_false]
    rw [zlh (by omega) (by omega)]
    omega
  unfold zk
  rw [decide_eq_true this,decide_eq_true (by omega)];rfl
 unfold zdO
 have a1:(zao ps i st).Name=[102]:=rfl
 have a2:(zao ps i st).Params=ps:=rfl
 have a3:(zao ps i st).Ret=zmE i:=rfl
 have a4:(zao ps i st).Abstract=false:=rfl
 have a5:(zao ps i st).Locals=(ps.length:Int)+1:=rfl
 have a6:(zao ps i st).Stack=1:=rfl
 have a7:(zao ps i st).Code=zqn i:=rfl
 have a8:zm8 (zao ps i st)=true:=rfl
 have a9:zpf (zao ps i st)=true:=rfl
 have a10:decide (6<(ps.length:Int))=false:=decide_eq_false (by omega)
 rw [a8,a9,a1,a2,a3,a4,a5,a6,a7,e1,e0,a10,show (([102]:Tx) == [36,105,110,105,116])=false from rfl]
 simp only [cond_false,Bool.false_and]
 cases i <;> decide +kernel
def mGo:zc:=zc.mk [103,111] [] [86] true false 0 0 ([(zn.mk 46 0 [] [])]) [] []
def fX:List zh:=[(zh.mk [120] [73] false)]
def cB(y:zc):za:=za.mk [66,98] [65,97] false [] fX [mGo,y]
def cA(x:zc):za:=za.mk [65,97] [79,98,106,101,99,116] false [] fX [zgt,x]
theorem zrV{n s:Tx}{g y:zc}(hns:(zda n&&zda s)=true)(h0:zdO g=true)(h:zdO y=true)(ha:g.Abstract=false)(hb:y.Abstract=false)(hn:y.Name=[102])(hg:(g.Name == [102])=false):zmC (za.mk n s false [] fX [g,y])=true:=by
 have e:uB (fun m=>(m.Abstract == false)&&zdO m) (·.Name) [] [g,y]=false:=by
  have hg2:(([102]:Tx) == g.Name)=false:=by
   rw [beq_eq_false_iff_ne] at hg ⊢
   exact fun e=>hg e.symm
  unfold uB uB uB
  simp only [ha,hb,h0,h,hn,List.nil_append,List.any_nil,List.any_cons,hg,hg2]
  decide
 unfold zmC
 have e5:decide (([g,y].length:Int)≤8)=true:=decide_eq_true (by show (2:Int)≤8;decide)
 rw [e5]
 simp only [e]
 rw [hns]
 show (!(false&&((!(s == [79,98,106,101,99,116]))||decide (0<(fX.length:Int))))&&(((true&&(!(uB zda id [] ([]:List Tx))&&decide ((([]:List Tx).length:Int)≤4)))&&(!(uB zkY (·.Name) [] fX)&&decide ((fX.length:Int)≤8)))&&(!false&&true)))=true
 rw [Bool.false_and]
 decide +kernel
theorem zwc{ps:List Tx}{i st:Bool}(h1:ps.length≤4)(h2:∀t∈ps,okT t):zmC (cB (zao ps i st))=true:=
 zrV (by decide +kernel) (by decide +kernel) (zvc h1 h2) rfl rfl rfl rfl
theorem zwb{ps:List Tx}{i st:Bool}(h1:ps.length≤4)(h2:∀t∈ps,okT t):zmC (cA (zao ps i st))=true:=
 zrV (by decide +kernel) (by decide +kernel) (zvc h1 h2) rfl rfl rfl rfl
theorem zrY{ps:List Tx}{i st:Bool}(h1:ps.length≤4)(h2:∀t∈ps,okT t):zkd (zao ps i st)=true:=by
 have e0:lB sB ps=true:=by
  unfold lB
  rw [Bool.and_eq_true,decide_eq_true_eq,List.all_eq_true]
  exact ⟨by omega,fun t ht=>by rcases h2 t ht with rfl |rfl |rfl <;> decide⟩
 have e1:iB ((ps.length:Int)+1)=true:=decide_eq_true (by omega)
 show ((sB [102]&&lB sB ps)&&((sB (zmE i)&&(iB ((ps.length:Int)+1)&&iB 1))&&(lB zv8 (zqn i)&&(lB ztm []&&lB zqd []))))=true
 rw [e0,e1]
 cases i <;> decide
def zoV(y x:zc):List za:=[cB y,cA x]
theorem zus{n s:Tx}{g y:zc}(hn:(sB n&&sB s)=true)(hg:zkd g=true)(hy:zkd y=true):zjU (za.mk n s false [] fX [g,y]):=by
 refine zjY ?_
 have e:lB zkd [g,y]=true:=by
  unfold lB
  rw [Bool.and_eq_true]
  refine ⟨decide_eq_true (by show 2≤10000;omega),?_⟩
  rw [List.all_cons,List.all_cons,hg,hy]
  rfl
 show ((sB n&&sB s)&&(lB sB []&&(lB zoh fX&&lB zkd [g,y])))=true
 rw [hn,e]
 decide
theorem zrl{y x:zc}(hy:zkd y=true)(hx:zkd x=true):∀c∈zoV y x,zjU c:=by
 intro c hc
 have hc:c∈[cB y,cA x]:=hc
 simp only [List.mem_cons,List.not_mem_nil,or_false] at hc
 rcases hc with rfl |rfl
 ·exact zus (by decide) (by decide) hy
 ·exact zus (by decide) (by decide) hx
def m0:zc:=zao [] false false
theorem zwf:(zoW (zoV m0 m0)).2=0:=by
 obtain ⟨m,hm,he⟩:=zh7 (l:=zoV m0 m0) (fun c hc=>(zrl (by decide) (by decide) c hc).cg)
 have hr:((zft (zoV m0 m0)).map fun r=>r.2)=some 0:=by kernel_rfl
 rw [he] at hr
 simpa using hr
theorem zxb{ps qs:List Tx}{i j s t:Bool}(h1:ps.length≤4)(h2:∀t∈ps,okT t)(h3:qs.length≤4)(h4:∀t∈qs,okT t):zoW (zoV (zao ps i s) (zao qs j t))=(some (giv++zoV (zao ps i s) (zao qs j t)),0):=by
 refine zr3 (l:=zoV m0 m0) rfl ?_ zwf
 intro c hc
 have hc:c∈[cB (zao ps i s),cA (zao qs j t)]:=hc
 simp only [List.mem_cons,List.not_mem_nil,or_false] at hc
 rcases hc with rfl |rfl
 ·exact zwc h1 h2
 ·exact zwb h3 h4
section
variable {l L : List za} {m : List (Tx × Int)}
theorem zoz(hL:L.length≤30):zcX L m=some (L.map (·.Name)):=by
 unfold zcX
 have key:∀(r pre:List za),L=pre++r→zz (fun z=>zaZ L z.1 z.2) (pre.map (·.Name),(pre.length:Int))=some (.inl (L.map (·.Name))):=by
  intro r
  induction r with
  |nil =>
   intro pre e
   rw [List.append_nil] at e
   rw [zan]
   show (zaZ L (pre.map (·.Name)) (pre.length:Int)).bind _=_
   unfold zaZ
   rw [←e,zhE];rfl
  |cons c r ih =>
   intro pre e
   have hlen:L.length=pre.length+(r.length+1):=by rw [e];simp
   have hx:L[pre.length]?=some c:=by rw [e];simp
   have ih:=ih (pre++[c]) (by rw [e];simp)
   rw [show (pre++[c]).length=pre.length+1 by simp] at ih
   rw [zan]
   show (zaZ L (pre.map (·.Name)) (pre.length:Int)).bind _=_
   unfold zaZ
   rw [zgK hx,zT,hx]
   simp only [cond_true,Option.bind_some]
   rw [zt3 (by simp;omega) (by omega),zbW (by omega)]
   rw [List.map_append] at ih
   exact ih
 rw [show zz (fun z=>zaZ L z.1 z.2) ([],0)=_ from key L [] rfl]
 rfl
def zoe(L:List za)(n:Tx):za:=(cl L n).getD zC
structure zw1(L:List za)(c:za):Prop where
 fields:c.Fields.length≤10000∧∀f∈c.Fields,f.Type_.length≤25
 methods:c.Methods.length≤10000∧∀f∈c.Methods,zvG f
theorem zrO(h:ze5 l L)(hm:zbZ L m)(hL:zmh L)(hF:∀c∈L,zw1 L c)(hf:∀n,zgZ L n=[])(hw:∀c∈L,zmg L c=true):
  zeT (some (zy.mk L m))=some (cond (L.any fun c=>!zjn L c) 1 0):=by
 have h26:=h.len
 have hnd:Nd L:=h.nd
 have hcl:∀(i:Nat) n,(L.map (·.Name))[i]?=some n→∃c,c∈L∧cl L n=some c∧c.Name=n:=fun i n hn=>by
  rw [List.getElem?_map] at hn
  cases hc:L[i]? with
  |none=>rw [hc] at hn;cases hn
  |some c =>
   rw [hc] at hn
   have e:c.Name=n:=by simpa using hn
   have hcm:=List.mem_of_getElem? hc
   exact ⟨c,hcm,by rw [←e];exact hnd.cl hcm,e⟩
 have hs:∀s,(zjl L s).length≤10000:=fun s=>by
  unfold zjl
  cases hc:cl L s with
  |none=>exact Nat.zero_le _
  |some x=>exact (hF x (zdL hc).1).methods.1
 unfold zeT
 simp only [zsh]
 rw [zoz (by omega)]
 simp only [Option.bind_some]
 rw [show zz (fun z=>zcw (zy.mk L m) (L.map (·.Name)) z) 0=some (.inl ()) from znd (l:=L.map (·.Name)) (fun i n hn=>by
  have hi:=(List.getElem?_eq_some_iff.1 hn).1
  rw [List.length_map] at hi
  obtain ⟨c,c1,c2,c3⟩:=hcl i n hn
  show zcw (zy.mk L m) (L.map (·.Name)) (i:Int)=_
  unfold zcw
  rw [zgK hn,zT,hn]
  simp only [cond_true,Option.bind_some]
  rw [zfc hm,c2]
  simp only [Option.bind_some]
  rw [ztX h hm hL (hF c c1).fields (hF c c1).methods,hw c c1,zbW (by omega)]
  rfl) (by
  show zcw (zy.mk L m) (L.map (·.Name)) ((L.map (·.Name)).length:Int)=_
  unfold zcw
  rw [zhE];rfl)]
 simp only [Option.bind_some,zaq]
 unfold zfp
 simp only
 rw [zoz (by omega)]
 simp only [Option.bind_some]
 rw [show zz (fun z=>zcx (zy.mk L m) (L.map (·.Name)) z) 0=some (zo5 () ((L.map (·.Name)).findSome? (fun n=>cond (!zjn L (zoe L n)) (some 1) none))) from zfe (fun i n hn=>by
  have hi:=(List.getElem?_eq_some_iff.1 hn).1
  rw [List.length_map] at hi
  obtain ⟨c,c1,c2,c3⟩:=hcl i n hn
  have e:zoe L n=c:=by unfold zoe;rw [c2];rfl
  show zcx (zy.mk L m) (L.map (·.Name)) (i:Int)=_
  unfold zcx
  rw [zgK hn,zT,hn]
  simp only [cond_true,Option.bind_some]
  rw [zfc hm,c2]
  simp only [Option.bind_some]
  rw [zoF h hm hs (by rw [c3];exact zhL c2) (hF c c1).methods,zqr h hm (hf _),zbW (by omega),e]
  cases zjn L c <;> rfl) (by
  show zcx (zy.mk L m) (L.map (·.Name)) ((L.map (·.Name)).length:Int)=_
  unfold zcx
  rw [zhE];rfl),zdY]
 have e:((L.map (·.Name)).any fun n=>!zjn L (zoe L n))=L.any fun c=>!zjn L c:=by
  rw [List.any_map,Bool.eq_iff_iff,List.any_eq_true,List.any_eq_true]
  constructor
  ·rintro ⟨c,hc,k⟩
   refine ⟨c,hc,?_⟩
   have:zoe L c.Name=c:=by unfold zoe;rw [hnd.cl hc];rfl
   simpa [Function.comp,this] using k
  ·rintro ⟨c,hc,k⟩
   refine ⟨c,hc,?_⟩
   have:zoe L c.Name=c:=by unfold zoe;rw [hnd.cl hc];rfl
   simpa [Function.comp,this] using k
 rw [e]
 cases L.any fun c=>!zjn L c <;> rfl
theorem zxv(h:ze5 l L)(hm:zbZ L m){n:Tx}{c:za}{f:zc}(hc:cl L n=some c){k:Nat}(hf:c.Methods[k]?=some f)(ha:f.Abstract=false)(hk:zjc f):
  za3 (some (zy.mk L m)) n (k:Int)=zmi L m n f (zjP n f,[],zrd L f,true,0):=by
 have hn:=(List.getElem?_eq_some_iff.1 hf).1
 unfold za3
 simp only [zsh]
 rw [zfc hm,hc]
 simp only [Option.bind_some]
 rw [decide_eq_false (show ¬(k:Int)<0 by omega),decide_eq_false (show ¬(c.Methods.length:Int)≤(k:Int) by omega),zT,hf]
 simp only [Bool.not_true,Bool.or_self,cond_false,Option.bind_some]
 rw [ha]
 simp only [cond_false]
 exact zpT h hm hk
theorem zxe{c:Tx}{mt:zc}{loc stk:List Tx}{b:Bool}{x:zn}(h:ze5 l L)(hm:zbZ L m)(hs:ShL stk)(ho:x.Op=47):zaL L m c mt loc stk b x=some (loc,zsH L [84] [[73]] stk (b||!(mt.Ret == [73]))):=by
 rw [zr8 (by omega)]
 unfold zc0
 rw [qf (show x.Op≠46 by omega),qt ho]
 simp only [cond_false,cond_true]
 rw [zvA h hm (sh1 ztc.1) hs]
 rfl
theorem zxp(h:ze5 l L)(hm:zbZ L m){n:Tx}{f:zc}(hk:zjc f)(hM:f.Maps=[])(hT:f.Traps=[]){i:Bool}(hC:f.Code=zqn i)(hR:f.Ret=zmE i)(hS:i=true→f.Stack=1)(hb:zrd L f=false)(hl:ShL (zjP n f))(h73:thN L [73]=true):
  zmi L m n f (zjP n f,[],zrd L f,true,0)=some true:=by
 have hs0:=hk.stack.1
 rw [hb]
 show zmi L m n f (zjP n f,[],false,true,((0:Nat):Int))=some true
 cases i with
 |false =>
  have hx:f.Code[0]?=some (zn.mk 46 0 [] []):=by rw [hC];rfl
  rw [zgN h hm hk hM hT hl (show ShL [] from zl6 (k:=0) (by omega)) hx rfl (zwn rfl),hR]
  have e:((false||!(zmE false == [86]))||!decide ((([]:List Tx).length:Int)≤f.Stack))=false:=by
   rw [decide_eq_true (show (([]:List Tx).length:Int)≤f.Stack from hs0)];rfl
  simp only
  rw [e]
  refine zkh ?_
  unfold zam
  rw [hC]
  rfl
 |true =>
  have hx:f.Code[0]?=some (zn.mk 1 0 [] []):=by rw [hC];rfl
  have hx2:f.Code[1]?=some (zn.mk 47 0 [] []):=by rw [hC];rfl
  rw [zgN h hm hk hM hT hl (show ShL [] from zl6 (k:=0) (by omega)) hx rfl (zwm rfl (by simp))]
  have e:(false||!decide ((([]++[[73]]:List Tx).length:Int)≤f.Stack))=false:=by
   rw [hS rfl];rfl
  simp only
  rw [e]
  show zmi L m n f (zjP n f,[[73]],false,true,((1:Nat):Int))=some true
  have hsh:ShL [[73]]:=sh1 ztc.1
  rw [zgN h hm hk hM hT hl hsh hx2 rfl (zxe h hm hsh rfl),hR]
  have hfit:zqu L [73] [73]=true:=by
   unfold zqu zqX
   rw [h73]
   rfl
  have e2:zsH L [84] [[73]] [[73]] (false||!(zmE true == [73]))=([],false):=by
   show (([]:List Tx),(false||!zqu L [73] [73]))=_
   rw [hfit];rfl
  simp only [e2]
  have e3:(false||!decide ((([]:List Tx).length:Int)≤f.Stack))=false:=by
   rw [decide_eq_true (show (([]:List Tx).length:Int)≤f.Stack from hs0)];rfl
  rw [e3]
  refine zkh ?_
  unfold zam
  rw [hC]
  rfl
end
section
variable {l : List za} {m : List (Tx × Int)} {ps qs : List Tx} {i j s t : Bool}
abbrev LO(ps qs:List Tx)(i j s t:Bool):List za:=giv++zoV (zao ps i s) (zao qs j t)
theorem thI:thN (LO ps qs i j s t) [73]=true:=by
 unfold thN
 rw [show zhX [73]=true from by decide +kernel]
 rfl
theorem thO{u:Tx}(h:okT u):thN (LO ps qs i j s t) u=true:=by
 rcases h with rfl |rfl |rfl
 ·exact thI
 ·unfold thN
  rw [show zhX zsG=true from by decide +kernel]
  rfl
 ·unfold thN
  rw [show zhX zxs=true from by decide +kernel]
  rfl
theorem zpa{u:Tx}(h:okT u):zhj (LO ps qs i j s t) u=false:=by
 unfold zhj
 rw [ztO (zr6 h),thO h]
 simp
theorem zov{us:List Tx}{k b:Bool}(h:∀u∈us,okT u):zio (LO ps qs i j s t) (zao us k b)=false:=by
 unfold zio
 have e1:((zao us k b).Params.any fun x=>zhj (LO ps qs i j s t) x)=false:=by
  rw [List.any_eq_false]
  intro u hu
  rw [zpa (h u hu)];simp
 have e2:zhj (LO ps qs i j s t) (zao us k b).Ret=false:=by
  cases k
  ·rfl
  ·exact zpa (.inl rfl)
 have e3:((zao us k b).Code.any fun x=>zkH (LO ps qs i j s t) x)=false:=by
  cases k <;> rfl
 rw [e1,e2,e3]
 rfl
theorem zpI{u:List za}(h:u=zoV (zao ps i s) (zao qs j t))(c:za)(hc:c∈LO ps qs i j s t):(c.Fields=[]∧c.Methods=[])∨c=cB (zao ps i s)∨c=cA (zao qs j t):=by
 rcases List.mem_append.1 hc with e |e
 ·left
  have hg:giv.all (fun c=>decide (c.Fields.length=0)&&decide (c.Methods.length=0))=true:=by decide +kernel
  have:=List.all_eq_true.1 hg c e
  simp only [Bool.and_eq_true,decide_eq_true_eq] at this
  exact ⟨List.eq_nil_of_length_eq_zero this.1,List.eq_nil_of_length_eq_zero this.2⟩
 ·right
  have e:c∈[cB (zao ps i s),cA (zao qs j t)]:=e
  simpa using e
theorem zvF(h2:∀t∈ps,okT t)(h4:∀t∈qs,okT t)(c:za)(hc:c∈LO ps qs i j s t):zmg (LO ps qs i j s t) c=true:=by
 have hx:(fX.any fun x=>zhj (LO ps qs i j s t) x.Type_)=false:=by
  rw [List.any_eq_false]
  intro u hu
  rw [show u=zh.mk [120] [73] false from by simpa [fX] using hu]
  rw [zpa (.inl rfl)];simp
 rcases zpI rfl c hc with ⟨e1,e2⟩ |e |e
 ·unfold zmg
  rw [e1,e2];rfl
 ·subst e
  unfold zmg
  show (!(fX.any fun x=>zhj (LO ps qs i j s t) x.Type_)&&!([mGo,zao ps i s].any fun x=>zio (LO ps qs i j s t) x))=true
  rw [hx,List.any_cons,List.any_cons,zov h2]
  rfl
 ·subst e
  unfold zmg
  show (!(fX.any fun x=>zhj (LO ps qs i j s t) x.Type_)&&!([zgt,zao qs j t].any fun x=>zio (LO ps qs i j s t) x))=true
  rw [hx,List.any_cons,List.any_cons,zov h4]
  rfl
theorem zuR(n:Tx):zgZ (LO ps qs i j s t) n=[]:=by
 have hI:∀x,isF (LO ps qs i j s t) x=false:=fun x=>by
  unfold isF
  cases hc:cl (LO ps qs i j s t) x with
  |none=>rfl
  |some c =>
   have hm:=(zdL hc).1
   rcases List.mem_append.1 hm with e |e
   ·exact (zuU e).2.1
   ·have e:c∈[cB (zao ps i s),cA (zao qs j t)]:=e
    simp only [List.mem_cons,List.not_mem_nil,or_false] at e
    rcases e with rfl |rfl <;> rfl
 unfold zgZ
 have:(zpv (LO ps qs i j s t) n).filter (isF (LO ps qs i j s t))=[]:=by
  rw [List.filter_eq_nil_iff]
  intro x _
  rw [hI x];simp
 rw [this]
 rfl
def zmu(ps qs:List Tx)(i j s t:Bool):Bool:=(zlt (zao ps i s) (zao qs j t)&&!s)&&!t
theorem zws:((LO ps qs i j s t).any fun c=>!zjn (LO ps qs i j s t) c)=!zmu ps qs i j s t:=by
 have h0:(giv.any fun c=>!zjn (LO ps qs i j s t) c)=false:=by
  rw [List.any_eq_false]
  intro c hc
  have hg:giv.all (fun c=>decide (c.Methods.length=0))=true:=by decide +kernel
  have:=of_decide_eq_true (List.all_eq_true.1 hg c hc)
  unfold zjn
  rw [List.eq_nil_of_length_eq_zero this]
  simp
 have h1:zjn (LO ps qs i j s t) (cB (zao ps i s))=zmu ps qs i j s t:=by
  unfold zjn
  show (!([mGo,zao ps i s].any fun f=>([[65,97],zsG]:List Tx).any fun u=>(zjl (LO ps qs i j s t) u).any fun y=>zi5 f y))=_
  have e1:zjl (LO ps qs i j s t) [65,97]=[zgt,zao qs j t]:=rfl
  have e2:zjl (LO ps qs i j s t) zsG=[]:=rfl
  simp only [List.any_cons,List.any_nil,e1,e2]
  have o1:zi5 mGo zgt=false:=rfl
  have o2:zi5 mGo (zao qs j t)=false:=rfl
  have o3:zi5 (zao ps i s) zgt=false:=rfl
  have o4:zi5 (zao ps i s) (zao qs j t)=((!zlt (zao ps i s) (zao qs j t)||s)||t):=by
   unfold zi5
   rw [show ((zao qs j t).Name == (zao ps i s).Name)=true from rfl,show ((zao ps i s).Name == [36,105,110,105,116])=false from rfl]
   rfl
  rw [o1,o2,o3,o4]
  unfold zmu
  cases zlt (zao ps i s) (zao qs j t) <;> cases s <;> cases t <;> rfl
 have h2:zjn (LO ps qs i j s t) (cA (zao qs j t))=true:=by
  unfold zjn
  show (!([zgt,zao qs j t].any fun f=>([zsG]:List Tx).any fun u=>(zjl (LO ps qs i j s t) u).any fun y=>zi5 f y))=_
  have e2:zjl (LO ps qs i j s t) zsG=[]:=rfl
  simp only [List.any_cons,List.any_nil,e2]
  rfl
 rw [List.any_append,h0]
 show (false||([cB (zao ps i s),cA (zao qs j t)].any fun c=>!zjn (LO ps qs i j s t) c))=_
 rw [List.any_cons,List.any_cons,h1,h2]
 cases zmu ps qs i j s t <;> rfl
theorem zw4{us:List Tx}{k b:Bool}(h:∀u∈us,okT u):zrd (LO ps qs i j s t) (zao us k b)=false:=by
 unfold zrd
 have e1:((zao us k b).Params.any fun x=>!thN (LO ps qs i j s t) x)=false:=by
  rw [List.any_eq_false]
  intro u hu
  rw [thO (h u hu)];simp
 have e2:(((zao us k b).Ret == [86])||thN (LO ps qs i j s t) (zao us k b).Ret)=true:=by
  cases k
  ·rfl
  ·show (false||thN (LO ps qs i j s t) [73])=true
   rw [thI];rfl
 rw [e1,e2]
 rfl
end
section
variable {m : List (Tx × Int)} {ps qs : List Tx} {i j s t : Bool}
theorem zow:zjc zgt:=ztr (by decide +kernel) rfl
theorem zrX:zjc mGo:=ztr (by decide +kernel) rfl
theorem zrW{us:List Tx}{k b:Bool}(h1:us.length≤4)(h2:∀t∈us,okT t):zjc (zao us k b):=ztr (zvc h1 h2) rfl
theorem zvX(h1:ps.length≤4)(h2:∀t∈ps,okT t)(h3:qs.length≤4)(h4:∀t∈qs,okT t)(c:za)(hc:c∈LO ps qs i j s t):zw1 (LO ps qs i j s t) c:=by
 have two:∀{n u:Tx} {g y:zc},zjc g→zjc y→zw1 (LO ps qs i j s t) (za.mk n u false [] fX [g,y]):=fun {n u g y} hg hy=>by
  refine ⟨⟨by show fX.length≤10000;decide,fun f hf=>?_⟩,⟨by show 2≤10000;omega,fun f hf=>?_⟩⟩
  ·rw [show f=zh.mk [120] [73] false from by simpa [fX] using hf]
   decide
  ·have hf:f∈[g,y]:=hf
   simp only [List.mem_cons,List.not_mem_nil,or_false] at hf
   rcases hf with rfl |rfl
   ·exact hg.small
   ·exact hy.small
 rcases zpI rfl c hc with ⟨e1,e2⟩ |e |e
 ·refine ⟨⟨by rw [e1];simp,fun f hf=>by rw [e1] at hf;cases hf⟩,⟨by rw [e2];simp,fun f hf=>by rw [e2] at hf;cases hf⟩⟩
 ·rw [e];exact two zrX (zrW h1 h2)
 ·rw [e];exact two zow (zrW h3 h4)
theorem zun(h:ze5 (zoV (zao ps i s) (zao qs j t)) (LO ps qs i j s t))(hm:zbZ (LO ps qs i j s t) m)(hL:zmh (LO ps qs i j s t)){n:Tx}{c:za}{f:zc}(hn:zda n=true)(hc:cl (LO ps qs i j s t) n=some c){k:Nat}
  (hf:c.Methods[k]?=some f) (ha:f.Abstract=false) (hk:zjc f) (hM:f.Maps=[]) (hT:f.Traps=[]) {b:Bool} (hC:f.Code=zqn b) (hR:f.Ret=zmE b) (hS:b=true→f.Stack=1) (hb:zrd (LO ps qs i j s t) f=false):
  za3 (some (zy.mk (LO ps qs i j s t) m)) n (k:Int)=some true:=by
 rw [zxv h hm hc hf ha hk]
 exact zxp h hm hk hM hT hC hR hS hb (zo2 h hm hL hk (zmP hn)).shL thI
theorem zre{f:zc}(h1:f.Maps=[])(h2:f.Params=[])(h3:f.Ret=[86]):zrd (LO ps qs i j s t) f=false:=by
 unfold zrd
 rw [h1,h2,h3]
 rfl
theorem zxC(h:ze5 (zoV (zao ps i s) (zao qs j t)) (LO ps qs i j s t))(hm:zbZ (LO ps qs i j s t) m)(hL:zmh (LO ps qs i j s t)){e:Int}{n u:Tx}{g:zc}{us:List Tx}{k b:Bool}
  (hn:zda n=true) (hc:cl (LO ps qs i j s t) n=some (za.mk n u false [] fX [g,zao us k b])) (hg:zjc g) (g1:g.Abstract=false) (g2:g.Maps=[]) (g3:g.Traps=[]) (g4:g.Code=zqn false) (g5:g.Ret=[86]) (g6:g.Params=[]) (h1:us.length≤4) (h2:∀t∈us,okT t):
  zz (fun z=>zcN (some (zy.mk (LO ps qs i j s t) m),e) (za.mk n u false [] fX [g,zao us k b]) z) 0=some (.inl ()):=by
 have v0:za3 (some (zy.mk (LO ps qs i j s t) m)) n ((0:Nat):Int)=some true:=zun (k:=0) h hm hL hn hc rfl g1 hg g2 g3 (b:=false) g4 g5 (fun e=>by cases e) (zre g2 g6 g5)
 have v1:za3 (some (zy.mk (LO ps qs i j s t) m)) n ((1:Nat):Int)=some true:=zun (k:=1) h hm hL hn hc rfl rfl (zrW h1 h2) rfl rfl (b:=k) rfl rfl (fun _=>rfl) (zw4 h2)
 refine znd (l:=[g,zao us k b]) (fun q f hf=>?_) ?_
 ·have hq:q<2:=(List.getElem?_eq_some_iff.1 hf).1
  show zcN _ _ (q:Int)=_
  unfold zcN
  have hq2:q=0∨q=1:=by omega
  rcases hq2 with rfl |rfl
  ·show cond (decide (((0:Nat):Int)<(([g,zao us k b]:List zc).length:Int))) ((idx ([g,zao us k b]:List zc) ((0:Nat):Int)).bind _) _=_
   rw [zgK (show ([g,zao us k b]:List zc)[0]?=some g from rfl),zT,show ([g,zao us k b]:List zc)[0]?=some g from rfl]
   simp only [cond_true,Option.bind_some]
   rw [g1,v0]
   rfl
  ·show cond (decide (((1:Nat):Int)<(([g,zao us k b]:List zc).length:Int))) ((idx ([g,zao us k b]:List zc) ((1:Nat):Int)).bind _) _=_
   rw [zgK (show ([g,zao us k b]:List zc)[1]?=some (zao us k b) from rfl),zT,show ([g,zao us k b]:List zc)[1]?=some (zao us k b) from rfl]
   simp only [cond_true,Option.bind_some]
   rw [v1]
   rfl
 ·show zcN _ _ (([g,zao us k b]:List zc).length:Int)=_
  unfold zcN
  rfl
theorem zuK(h1:ps.length≤4)(h2:∀t∈ps,okT t)(h3:qs.length≤4)(h4:∀t∈qs,okT t):
  ∃H,zdt (zoV (zao ps i s) (zao qs j t)) (zeS.mk [65,97] [109,97,105,110])=some (H,cond (zmu ps qs i j s t) 0 1):=by
 have hE:=zxb (i:=i) (j:=j) (s:=s) (t:=t) h1 h2 h3 h4
 have hfc:=zrl (zrY (i:=i) (st:=s) h1 h2) (zrY (i:=j) (st:=t) h3 h4)
 obtain ⟨m,hm,he⟩:=zh7 (l:=zoV (zao ps i s) (zao qs j t)) fun c hc=>(hfc c hc).cg
 rw [hE] at he
 have hE1:(zoW (zoV (zao ps i s) (zao qs j t))).1=some (LO ps qs i j s t):=by rw [hE]
 have hmp:=hm _ hE1
 obtain ⟨hM,_⟩:=zoA hE1
 have hL:zmh (LO ps qs i j s t):=zu6 (zu8 hM hfc)
 unfold zdt
 rw [he]
 simp only [Option.bind_some,Option.map_some]
 rw [zrO hM hmp hL (zvX h1 h2 h3 h4) zuR (zvF h2 h4),zws]
 simp only [Option.bind_some,beq_self_eq_true,Bool.not_true,cond_false]
 cases hg:zmu ps qs i j s t with
 |false=>exact ⟨none,rfl⟩
 |true =>
  simp only [Bool.not_true,cond_false,cond_true,beq_self_eq_true]
  have hme:zim (some (zy.mk (LO ps qs i j s t) m)) [65,97] [109,97,105,110]=some ([65,97],zgt,true):=by
   show ((zai (LO ps qs i j s t) m [65,97]).bind fun v7=>(zeH (LO ps qs i j s t) m v7 [109,97,105,110]).bind fun v8=>some (v8.1,v8.2.1,v8.2.2))=_
   have h26:=zhu hM [65,97]
   rw [zhT hM hmp]
   simp only [Option.bind_some]
   rw [zpJ hM hmp hL (by omega) (zoO hM _)]
   rfl
  rw [hme]
  simp only [Option.bind_some]
  have e0:((((!true)||(!zgt.Static))||(decide (0<(List.length zgt.Params:Int))))||(!(zgt.Ret == [86])))=false:=rfl
  rw [e0]
  simp only [cond_false]
  have hb:cl (LO ps qs i j s t) [66,98]=some (cB (zao ps i s)):=rfl
  have ha:cl (LO ps qs i j s t) [65,97]=some (cA (zao qs j t)):=rfl
  have L0:=zxC (e:=0) hM hmp hL (n:=[66,98]) (u:=[65,97]) (g:=mGo) (us:=ps) (k:=i) (b:=s) (by decide +kernel) hb zrX rfl rfl rfl rfl rfl rfl h1 h2
  have L1:=zxC (e:=0) hM hmp hL (n:=[65,97]) (u:=[79,98,106,101,99,116]) (g:=zgt) (us:=qs) (k:=j) (b:=t) (by decide +kernel) ha zow rfl rfl rfl rfl rfl rfl h3 h4
  have hl5:zz (fun z=>zcO (zoV (zao ps i s) (zao qs j t)) (some (zy.mk (LO ps qs i j s t) m),0) z) 0=some (.inl ()):=by
   refine znd (l:=[cB (zao ps i s),cA (zao qs j t)]) (fun q c hc=>?_) ?_
   ·have hq:q<2:=(List.getElem?_eq_some_iff.1 hc).1
    show zcO [cB (zao ps i s),cA (zao qs j t)] _ (q:Int)=_
    unfold zcO zfN
    rw [zgK hc,zT,hc]
    simp only [cond_true,Option.bind_some]
    have hq2:q=0∨q=1:=by omega
    rcases hq2 with rfl |rfl
    ·have e:cB (zao ps i s)=c:=by simpa using hc
     subst e
     rw [show cB (zao ps i s)=za.mk [66,98] [65,97] false [] fX [mGo,zao ps i s] from rfl,L0]
     rfl
    ·have e:cA (zao qs j t)=c:=by simpa using hc
     subst e
     rw [show cA (zao qs j t)=za.mk [65,97] [79,98,106,101,99,116] false [] fX [zgt,zao qs j t] from rfl,L1]
     rfl
   ·show zcO [cB (zao ps i s),cA (zao qs j t)] _ (([cB (zao ps i s),cA (zao qs j t)]:List za).length:Int)=_
    unfold zcO
    rw [zhE]
    rfl
  rw [hl5]
  exact ⟨_,rfl⟩
end
theorem zjM(a b:List Int)(ra rb:Int)(sa sb:Bool):zfu a b ra rb sa sb=some true:=by
 obtain ⟨ps,i,p1,p2,p3⟩:=zrS a ra sa
 obtain ⟨qs,j,q1,q2,q3⟩:=zrS b rb sb
 unfold zfu
 rw [zuG,p1,q1]
 simp only [Option.bind_some,Bool.not_true,cond_false]
 rw [zt3 (by simp) (by omega)]
 simp only [Option.bind_some]
 rw [zt3 (by simp) (by omega)]
 simp only [Option.bind_some]
 obtain ⟨H,hH⟩:=zuK (ps:=qs) (qs:=ps) (i:=j) (j:=i) (s:=sb) (t:=sa) q2 q3 p2 p3
 show (zdt (zoV (zao qs j sb) (zao ps i sa)) (zeS.mk [65,97] [109,97,105,110])).bind _=some true
 rw [hH]
 simp only [Option.bind_some]
 rw [zle (by show ps.length≤1000000;omega)]
 simp only [Option.bind_some]
 show ((cond (((!sa)&&(!sb))&&(zmE i == zmE j)) (some (ps == qs)) (some false)).bind fun v15=>some ((((cond (zmu qs ps j i sb sa) (0:Int) 1) == (0:Int)) == v15)&&(v15||((cond (zmu qs ps j i sb sa) (0:Int) 1) == (1:Int)))))=some true
 have e:zmu qs ps j i sb sa=(((!sa)&&(!sb))&&((zmE i == zmE j)&&(ps == qs))):=by
  unfold zmu zlt
  show ((((qs == ps)&&(zmE j == zmE i))&&!sb)&&!sa)=_
  have e1:(qs == ps)=(ps == qs):=by
   rw [Bool.eq_iff_iff,beq_iff_eq,beq_iff_eq];exact eq_comm
  have e2:(zmE j == zmE i)=(zmE i == zmE j):=by
   rw [Bool.eq_iff_iff,beq_iff_eq,beq_iff_eq];exact eq_comm
  rw [e1,e2]
  cases ps == qs <;> cases zmE i == zmE j <;> cases sa <;> cases sb <;> rfl
 rw [e]
 cases ps == qs <;> cases zmE i == zmE j <;> cases sa <;> cases sb <;> rfl
theorem zrk(a b:List Int)(ra rb:Int)(sa sb:Bool)(_:wL (wI .i64) a)(_:wL (wI .i64) b)(_:wI .i64 ra)(_:wI .i64 rb):zu Tryz.prog 17 [.isl 1 (List.map (rI .i64) a),.isl 1 (List.map (rI .i64) b),iA ra,iA rb,bA sa,bA sb] (bA true):=zjN a b ra rb sa sb (zjM a b ra rb sa sb)

end
end Go.Proofs.YtjbdfkapnffjnaaGreat
