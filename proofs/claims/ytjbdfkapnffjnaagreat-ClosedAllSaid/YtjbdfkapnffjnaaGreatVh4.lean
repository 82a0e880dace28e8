/- ClosedAll: for every input the law returns true, and each argument reads as it read before. No further condition. Part 4 of 7. -/
import Derived.Test.YtjbdfkapnffjnaaGreatVh3
namespace Go.Proofs.YtjbdfkapnffjnaaGreat
noncomputable section
open List (length map)
set_option linter.unusedSimpArgs false
set_option linter.unusedVariables false
set_option maxRecDepth 100000
set_option maxHeartbeats 4000000
def zdx(e:List za)(f:T2)(i:T0)(a:zb)(j:T1)(l:T1)(m:Bool)(d:Int):Option ((Option zS)):=
  (zbN a.Maps d).bind fun b=>cond (decide (b<0)) (some none) ((idx a.Maps b).bind fun c=>some (some c))
theorem zgB(b:List za)(c:T2)(d:T0)(a:zb)(e:T1)(f:T1)(i:Bool)(j:Int){r:(Option zS)}(h:zdx b c d a e f i j=some r):SC Tryz.prog 137 [.mpt 0 0 0,iA j] (tV b c d a e f i []) (ziT 3 zK r) (tV b c d a e f i []):=by
 refine ⟨⟨t,zia (sz:=1) (fun _=>y),zia (sz:=1) (fun _=>y),t⟩,zX Tryz.func137 y kz y ?_⟩
 refine A ?_
 obtain ⟨p,n,h⟩:=bs h
 refine A ?_
 refine u<|pcs (zeN a.Maps j n) y y (.cons (si y) (.cons (zfZ t ⟨(zbk y ⟨(si y),t⟩),t⟩) .nil)) zbI<|A ?_
 refine zf<|A ?_
 refine zeh h y (fun l h=>?_) fun l h=>?_
 ·refine A ?_
  exact RT3
 ·refine ze ?_
  obtain ⟨o,m,h⟩:=bs h
  refine rg y<|u<|mv y<|u<|nc y y<|u<|fa ti y y y<|u<|fa ti y y y<|u<|ld ti y y<|u<|mv y<|u<|ixI ti y ti y y y m<|zGa m<|u<|asg y<|zx ?_
  exact RT3
def zhQ(b:List za)(c:T2)(a:T0):Option (Bool):=
  (cond (!(a == [73])) ((zch b c a a).bind fun d=>some d) (some false)).bind fun e=>some e
instance (d:List za)(e:T2)(c:T0):PF Tryz.prog 252 [.ipt 2 [[.isl 6 (map zc d),.imp (map (rKV (fun x=>iA x)) e)]] 0 0,sA c] (zhQ d e c) bA:=⟨fun r h=>by
 refine zh Tryz.func252 y kz y y<|A ?_
 obtain ⟨f,b,h⟩:=bs h
 refine rg y<|u<|mv y<|u<|sne ti y y<|u<|mv y<|ziU (x:=f) (j:=2) 4 y y y y y gpn (fun a=>by replace b:=bT a b;obtain ⟨l,i,b⟩:=bs b;obtain rfl:=sm b;exact g y a<|mv y<|g y a<|mv y<|g y a<|mv y<|g y a<|pc (zc9 d e c c i) y y y<|zx (eg [8,9,10,11] 4 y y y y)) (fun hb=>(sm (bF hb b)).symm)<|u<|asg y<|zx ?_
 exact RT0⟩
def zfq(a:List za)(b:T2)(d:T0)(c:T0):Option (Bool):=
  (zdD a b d).bind fun m=>(cond (!m) (some true) ((zdD a b c).bind fun n=>some (!n))).bind fun o=>cond o (some false) (cond ((c == [84])||(d == c)) (some true) (cond (d == [78]) ((zhQ a b c).bind fun p=>some p) ((zhQ a b d).bind fun q=>(cond (!q) (some true) ((zhQ a b c).bind fun e=>some (!e))).bind fun f=>cond f (some false) ((zO a b c).bind fun i=>(cond i.1.Interface (some true) ((zch a b d c).bind fun j=>some j)).bind fun l=>some l))))
theorem zja(c:List za)(d:T2)(e:T0)(f:T0){r:Bool}(h:zfq c d e f=some r):zam Tryz.prog 198 [.ipt 2 [[.isl 6 (map zc c),.imp (map (rKV (fun x=>iA x)) d)]] 0 0,sA e,sA f] (bA r):=by
 refine zh Tryz.func198 y kz y y<|A ?_
 refine zf<|zi ?_
 obtain ⟨E,F,G,H,h⟩:=bs2 h
 refine A ?_
 refine zeh h y (fun l h=>?_) fun l h=>?_
 ·refine A ?_
  exact RT0
 ·refine A ?_
  refine zeh h y (fun m h=>?_) fun m h=>?_
  ·refine A ?_
   exact RT0
  ·refine A ?_
   refine zeh h y (fun n h=>?_) fun n h=>?_
   ·obtain ⟨I,J,h⟩:=bs h
    refine A ?_
    exact RT0
   ·obtain ⟨K,q,s,v,h⟩:=bs2 h
    refine A ?_
    refine zeh h y (fun i h=>?_) fun i h=>?_
    ·refine A ?_
     exact RT0
    ·refine ze ?_
     obtain ⟨B,C,h⟩:=bs h
     refine A ?_
     obtain ⟨o,b,h⟩:=bs h
     refine rg y<|u<|fa ti y y y<|u<|ld ti y y<|u<|mv y<|ztr (x:=o) (j:=2) 4 y y y y y gpn (fun a=>by replace b:=bF a b;obtain ⟨D,p,b⟩:=bs b;obtain rfl:=sm b;exact g y a<|mv y<|g y a<|mv y<|g y a<|mv y<|g y a<|pc (zc9 c d e f p) y y y<|zx (eg [54,55,56,57] 4 y y y y)) (fun hb=>(sm (bT hb b)).symm)<|u<|asg y<|zx ?_
     exact RT0
instance (a:List za)(b:T2)(c:T0)(d:T0):PF Tryz.prog 198 [.ipt 2 [[.isl 6 (map zc a),.imp (map (rKV (fun x=>iA x)) b)]] 0 0,sA c,sA d] (zfq a b c d) bA:=⟨fun _=>zja a b c d⟩
def zrL:Option (Bool):=
  some true
def zfW(f:List za)(i:T2)(b:T1)(j:T1)(a:Int):Option (Sum (Int) (Sum (Unit) (Bool))):=
  cond (decide (a<(length b:Int))) ((idx b a).bind fun c=>(idx j a).bind fun d=>(zfq f i c d).bind fun e=>cond (!e) (some (.inr (.inr false))) (some (.inl (IntKind.i64.wrap (a+1))))) (some (.inr (.inl ())))
def zi1(d:List za)(e:T2)(a:T1)(c:T1):Option (Bool):=
  cond (!((length a:Int) == (length c:Int))) (some false) ((zl (fun z=>zfW d e a c z) 0).bind fun o=>zD o (fun b=>zrL) some)
instance (c:List za)(d:T2)(a:T1)(e:T1):PF Tryz.prog 199 [.ipt 2 [[.isl 6 (map zc c),.imp (map (rKV (fun x=>iA x)) d)]] 0 0,.isl 1 (map zw a),.isl 1 (map zw e)] (zi1 c d a e) bA:=⟨fun r h=>by
 refine zh Tryz.func199 y kz y y<|A ?_
 refine zf<|A ?_
 refine zeh h y (fun i h=>?_) fun i h=>?_
 ·refine A ?_
  exact RT0
 ·refine ze<|zf<|A ?_
  obtain ⟨o,ho,h⟩:=bs h
  refine lpB ho (fun z=>[(0,.ipt 2 [[.isl 6 (map zc c),.imp (map (rKV (fun x=>iA x)) d)]] 0 0),(1,.isl 1 (map zw a)),(2,.isl 1 (map zw e)),(14,iA (length a:Int)),(15,iA z)]) (fun z=>[]) (fun b=>[]) (fun b=>[]) (pG Tryz.f199 bA) (zaf []) ?_ ?_
  ·rintro q r h
   refine A ?_
   refine zf ?_
   refine zeh h y (fun j h=>?_) fun j h=>?_
   ·refine ze<|zf<|zi<|A ?_
    obtain ⟨l,s,m,v,n,p,h⟩:=bs3 h
    refine rdA [(0,_),(1,_),(2,_),(14,_),(15,_),(28,_)] [] [] [0,1,2,3,4,5,6,7,8,9,10] [(28,_),(27,_),(26,_),(25,_),(24,_),(23,_),(22,_),(21,_),(20,_),(19,_),(18,_)] 0 (zcw (z:=zaf [])) ?_
    refine zeh h y (fun f h=>?_) fun f h=>?_
    ·refine A ?_
     refine zy ?_
     obtain rfl:=sm h
     exact ⟨_,y,_,y,zad []⟩
    ·refine ze<|A ?_
     obtain rfl:=sm h
     exact ⟨_,y,zo []⟩
   ·refine zq ?_
    obtain rfl:=sm h
    exact ⟨y,_,y,zo []⟩
  ·rintro ⟨⟩ rfl
   refine zn<|A ?_
   exact RT0⟩
def zfr(a:List za)(b:T2)(c:zS)(d:T1)(e:T1):Option (Bool):=
  (zi1 a b d c.Locals).bind fun f=>(cond f ((zi1 a b e c.Stack).bind fun i=>some i) (some false)).bind fun j=>some j
theorem zjb(a:List za)(b:T2)(c:zS)(d:T1)(e:T1){r:Bool}(h:zfr a b c d e=some r):zam Tryz.prog 150 [.ipt 2 [[.isl 6 (map zc a),.imp (map (rKV (fun x=>iA x)) b)]] 0 0,.agg (zK c),.isl 1 (map zw d),.isl 1 (map zw e)] (bA r):=by
 refine zh Tryz.func150 y kz y y<|A ?_
 obtain ⟨f,i,j,l,h⟩:=bs2 h
 refine A ?_
 exact RT0
instance (a:List za)(b:T2)(c:zS)(d:T1)(e:T1):PF Tryz.prog 150 [.ipt 2 [[.isl 6 (map zc a),.imp (map (rKV (fun x=>iA x)) b)]] 0 0,.agg (zK c),.isl 1 (map zw d),.isl 1 (map zw e)] (zfr a b c d e) bA:=⟨fun _=>zjb a b c d e⟩
def zdy(b:List za)(c:T2)(j:T0)(l:zb)(d:T1)(e:T1)(a:Bool)(m:Int):Option (Bool):=
  (zdx b c j l d e a m).bind fun n=>zuB n (some (a||(!false))) (fun f=>(zfr b c f d e).bind fun i=>some (a||(!i)))
theorem zij(c:List za)(d:T2)(f:T0)(i:zb)(e:T1)(a:T1)(j:Bool)(m:Int){r:Bool}(h:zdy c d f i e a j m=some r):SC Tryz.prog 88 [.mpt 0 0 0,iA m,.msl 2 0 (length a)] (tV c d f i e a j []) (.tup []) (tV c d f i e a r []):=by
 refine ⟨⟨t,zia (sz:=1) (fun _=>y),zia (sz:=1) (fun _=>y),t⟩,zX Tryz.func88 y kz y ?_⟩
 obtain ⟨n,p,h⟩:=bs h
 refine A ?_
 refine u<|sx [0,1,2] (zgB c d f i e a j m p)<|zFI zz6<|zv (env0:=[(0,.mpt 0 0 0),(2,.msl 2 0 (length a)),(9,ziT 3 zK n)]) (st0:=(sV c d f i e a j [])) (zo [.old 0,.old 1,.old 2])<|A ?_
 rcases n with _ |o
 ·replace h:=oeN h
  refine zjQ [] (sV c d f i e a (j||(!false)) []) [18] [17,16,15,14,13,12,11,10,9,8,7,6,5,4,3,2,1,0] [(27,bA false),(26,.lit undef),(25,.lit undef),(24,.lit undef),(23,.lit undef),(22,.lit undef),(21,.lit undef),(20,.lit undef),(19,.lit undef),(18,.lit undef),(17,.lit undef),(16,.lit undef),(15,.lit undef),(14,.lit undef),(13,bA false),(12,bA false),(11,.lit (.pointer none)),(10,.mpt 0 0 0)] 1 (zwp ⟨pe,pe,pe,pe,pe,pe,pe,pe,pe,pe,pe,pe,pe,pe,pe,(pb y (nep ti y y y y y y w)),pe,pe,t⟩ ⟨(fun _ _=>⟨_,y,y,sc [0,1,2] (args:=[.mpt 0 0 0,bA false]) (zu c d f i e a j false y) y y y y ⟨(.mpt y),(rnI y),t⟩ ⟨⟨_,y,(zya y ⟨(.msl y),(.msl y),(rnI y),t⟩)⟩,⟨y,mkI (fun _=>y)⟩,⟨y,mkI (fun _=>y)⟩,t⟩<|⟨(.tup []),[],[(28,.tup [])],y,y,kz,y,zvj ⟨pe,pe,pe,pe,pe,pe,pe,pe,pe,pe,pe,pe,pe,pe,pe,(pb y (nep ti y y y y y y w)),pe,pe,t⟩ (zo [.old 0,.old 1,.old 2])⟩⟩),t⟩) ?_
  obtain rfl:=sm h
  exact ⟨_,y,zad [.old 0,.old 1,.old 2]⟩
 ·replace h:=oeS h
  obtain ⟨l,q,h⟩:=bs h
  refine zjQ [] (sV c d f i e a (j||(!l)) []) [18] [0,1,2,3,4,5,6,7,8,9,10,11,12,13,14,15,16,17] [(27,_),(26,_),(25,_),(24,_),(23,_),(22,_),(21,_),(20,_),(19,_),(18,_),(17,_),(16,_),(15,_),(14,_),(13,_),(12,_),(11,_),(10,_)] 1 (zcq ⟨peC,peC,peC,peC,peC,peC,peC,peC,peC,peC,peC,peC,peC,peC,peC,peC,(by exact fun _=>pag (b:=true) y y y y y y (pcs (zjb c d o e a q) y y (.cons (si y) (.cons (si y) (.cons (zhE y (fun _=>y)) (.cons (zhE y (fun _=>y)) .nil)))) zbI<|w)),peC,t⟩ (by exact ⟨(fun _ _=>⟨_,y,y,sc [0,1,2] (args:=[.mpt 0 0 0,bA l]) (zu c d f i e a j l y) y y y y ⟨(.mpt y),(rnI y),t⟩ ⟨⟨_,y,(zya y ⟨(.msl y),(.msl y),(rnI y),t⟩)⟩,⟨y,mkI (fun _=>y)⟩,⟨y,mkI (fun _=>y)⟩,t⟩<|⟨(.tup []),[],[(28,_)],y,y,y,y,zcw (z:=zaf [.old 0,.old 1,.old 2])⟩⟩),t⟩)) ?_
  obtain rfl:=sm h
  exact ⟨_,y,zad [.old 0,.old 1,.old 2]⟩
def zoL(a:T1):Option T1:=zh9 16 ([]:T1) a
theorem zqN(a:T1){r:T1}(h:zoL a=some r):SC Tryz.prog 138 [.isl 1 (map zw a)] [] (.msl 0 0 (length r)) [.many 1 (map zw r)]:=by
 refine ⟨⟨zia (sz:=1) (fun _=>y),t⟩,zX Tryz.func138 y kz y ?_⟩
 unfold zoL at h
 refine A ?_
 refine zf ?_
 refine rg y<|u<|mv y<|zFH ti y y y<|And.intro ?_ ?_
 · intro hl
   refine zx ?_
   subst hl
   obtain rfl:[]=r:=by simpa [zh9] using h
   refine znf y (fun _=>?_) (fun hx=>by cases hx)
   refine A ?_
   refine zy ?_
   exact ⟨_,y,[.fresh 1],.nilown y,y,⟨w,t⟩,y,k⟩
 · refine zx ?_
   refine znf y (fun hx=>by cases hx) (fun _=>?_)
   refine ze<|A ?_
   refine u<|apM (l:=([]:T1)) (f:=zw) 1 ti y ti y y (by decide) ti y y y y roI (fun _=>y) y h<|A ?_
   refine zy ?_
   exact ⟨_,y,zad [.old 1]⟩
def zbq(b:(Option zS))(c:Bool):Option (T1×T1×Bool):=
  zuB b (none) (fun a=>(zoL a.Locals).bind fun d=>(zoL a.Stack).bind fun e=>some (d,e,c))
def zfE(e:List za)(f:T2)(i:T0)(j:zb)(c:T1)(d:T1)(b:Bool)(l:Int)(m:Bool):Option (T1×T1×Bool):=
  (zdx e f i j c d b l).bind fun a=>cond (Option.isNone a) (some (c,d,(b||(!m)))) (cond m ((zdy e f i j c d b l).bind fun n=>zbq a n) (zbq a b))
theorem zlT(a:List za)(b:T2)(c:T0)(d:zb)(e:T1)(f:T1)(j:Bool)(l:Int)(m:Bool){r:T1×T1×Bool}(h:zfE a b c d e f j l m=some r):SC Tryz.prog 84 [.mpt 0 0 0,iA l,bA m] (tV a b c d e f j []) (.tup []) [.one 15 (vK a b c d (.msl 3 0 (length r.1)) (.msl 4 0 (length r.2.1)) (bA r.2.2)),.no,.no,.many 1 (map zw r.1),.many 1 (map zw r.2.1)]:=by
 refine ⟨⟨t,t,t,zia (sz:=1) (fun _=>y),zia (sz:=1) (fun _=>y),t⟩,zX Tryz.func84 y kz y ?_⟩
 obtain ⟨i,B,h⟩:=bs h
 refine A ?_
 refine u<|sx [0,1,2] (zgB a b c d e f j l B)<|zFI zz6<|zv (env0:=[(0,.mpt 0 0 0),(1,iA l),(2,bA m),(9,ziT 3 zK i)]) (st0:=(sV a b c d e f j [])) (zo [.old 0,.old 1,.old 2])<|A ?_
 refine zf ?_
 refine rg y<|u<|mv y<|u<|zFc ti y y y<|zx ?_
 refine zeh h y (fun v h=>?_) fun v h=>?_
 ·refine A ?_
  refine u<|sx [0,1,2] (zu a b c d e f j m y)<|zv (env0:=[]) (st0:=(sV a b c d e f (j||(!m)) [])) (zo [.old 0,.old 1,.old 2])<|zx ?_
  refine zy ?_
  obtain rfl:=sm h
  exact ⟨_,y,zAL [.old 0,.dead,.dead,.old 1,.old 2]⟩
 ·refine ze ?_
  refine zal (X:=Bool) (fun z=>[(0,.mpt 0 0 0),(6,ziT 3 zK i)]) (fun z=>(sV a b c d e f z [])) (fun z=>zbq i z=some r) ?_ ?_
  ·refine A ?_
   refine zeh h y (fun x h=>?_) fun x h=>?_
   ·obtain ⟨p,C,h⟩:=bs h
    refine A ?_
    exact u<|sx [0,1,2] (zij a b c d e f j l C)<|zv (env0:=[(0,.mpt 0 0 0),(6,ziT 3 zK i)]) (st0:=(sV a b c d e f p [])) (zo [.old 0,.old 1,.old 2])<|zx (⟨p,h,zo [.old 0,.old 1,.old 2]⟩)
   ·refine ze ?_
    exact ⟨j,h,zo [.old 0,.old 1,.old 2]⟩
  ·rintro q h
   replace h:zbq i q=some r:=h
   unfold zbq at h
   rcases i with _ |s
   ·replace h:=oeN h
    cases h
   ·replace h:=oeS h
    obtain ⟨n,D,o,E,h⟩:=bs2 h
    refine zjQ [] [some (15,[(vK a b c d (.msl 3 0 (length n)) (.msl 4 0 (length o)) (bA q))]),some (1,map zw e),some (1,map zw f),some (1,map zw n),some (1,map zw o)] [6,11,14,17] [0,1,2,3,4,5,7,8,9,10] [(33,_),(32,_),(31,_),(30,_),(28,_),(27,_),(26,_),(25,_),(24,_),(23,_)] 4 (zcq (z:=by exact ⟨(fun _ _=>⟨_,y,y,sx [] (zqN s.Locals D)<|⟨(.msl 3 0 (length n)),[],[(29,_)],y,y,y,y,zcq (z:=by exact ⟨nv,(fun _ _=>⟨_,y,y,sx [] (zqN s.Stack E)<|⟨(.msl 4 0 (length o)),[12,13],[(36,_),(35,_),(34,_)],y,y,y,y,zcq (z:=by exact ⟨nv,nv,(fun _ _=>⟨_,y,y,sto ti y y y<|⟨.any,[15,16],[(38,_),(37,_)],y,y,y,t,zcq (z:=by exact ⟨nv,nv,nv,(fun _ _=>⟨_,y,y,sto ti y y y<|⟨.any,[],[],y,y,y,t,zcw (z:=zaf [.old 0,.old 1,.old 2,.old 3,.old 4])⟩⟩),t⟩)⟩⟩),nw,t⟩)⟩⟩),nw,nw,t⟩)⟩⟩),nw,nw,nw,t⟩)) ?_
    obtain rfl:=sm h
    exact ⟨_,y,zad [.old 0,.dead,.dead,.old 3,.old 4]⟩
def zeR(b:List za)(c:T2)(j:T0)(l:zb)(d:T1)(m:T1)(a:Bool)(n:Int)(o:T1):Option (Bool):=
  (zdx b c j l d m a n).bind fun e=>zuB e (some (a||(!false))) (fun f=>(zfr b c f d o).bind fun i=>some (a||(!i)))
theorem zkL(a:List za)(c:T2)(e:T0)(f:zb)(d:T1)(i:T1)(l:Bool)(o:Int)(j:T1){r:Bool}(h:zeR a c e f d i l o j=some r):SC Tryz.prog 88 [.mpt 0 0 0,iA o,.msl 3 0 (length j)] (tV a c e f d i l [.many 1 (map zw j)]) (.tup []) (tV a c e f d i r [.many 1 (map zw j)]):=by
 refine ⟨⟨t,zia (sz:=1) (fun _=>y),zia (sz:=1) (fun _=>y),zia (sz:=1) (fun _=>y),t⟩,zX Tryz.func88 y kz y ?_⟩
 obtain ⟨n,q,h⟩:=bs h
 refine A ?_
 refine u<|sx [0,1,2] (zgB a c e f d i l o q)<|zFI zz6<|zv (env0:=[(0,.mpt 0 0 0),(2,.msl 3 0 (length j)),(9,ziT 3 zK n)]) (st0:=(sV a c e f d i l [some (1,map zw j)])) (zo [.old 0,.old 1,.old 2,.old 3])<|A ?_
 rcases n with _ |p
 ·replace h:=oeN h
  refine zjQ [] (sV a c e f d i (l||(!false)) [some (1,map zw j)]) [18] [17,16,15,14,13,12,11,10,9,8,7,6,5,4,3,2,1,0] [(27,bA false),(26,.lit undef),(25,.lit undef),(24,.lit undef),(23,.lit undef),(22,.lit undef),(21,.lit undef),(20,.lit undef),(19,.lit undef),(18,.lit undef),(17,.lit undef),(16,.lit undef),(15,.lit undef),(14,.lit undef),(13,bA false),(12,bA false),(11,.lit (.pointer none)),(10,.mpt 0 0 0)] 1 (zwp ⟨pe,pe,pe,pe,pe,pe,pe,pe,pe,pe,pe,pe,pe,pe,pe,(pb y (nep ti y y y y y y w)),pe,pe,t⟩ ⟨(fun _ _=>⟨_,y,y,sc [0,1,2] (args:=[.mpt 0 0 0,bA false]) (zu a c e f d i l false y) y y y y ⟨(.mpt y),(rnI y),t⟩ ⟨⟨_,y,(zya y ⟨(.msl y),(.msl y),(rnI y),t⟩)⟩,⟨y,mkI (fun _=>y)⟩,⟨y,mkI (fun _=>y)⟩,t⟩<|⟨(.tup []),[],[(28,.tup [])],y,y,kz,y,zvj ⟨pe,pe,pe,pe,pe,pe,pe,pe,pe,pe,pe,pe,pe,pe,pe,(pb y (nep ti y y y y y y w)),pe,pe,t⟩ (zo [.old 0,.old 1,.old 2,.old 3])⟩⟩),t⟩) ?_
  obtain rfl:=sm h
  exact ⟨_,y,zad [.old 0,.old 1,.old 2,.old 3]⟩
 ·replace h:=oeS h
  obtain ⟨m,s,h⟩:=bs h
  refine zjQ [] (sV a c e f d i (l||(!m)) [some (1,map zw j)]) [18] [0,1,2,3,4,5,6,7,8,9,10,11,12,13,14,15,16,17] [(27,_),(26,_),(25,_),(24,_),(23,_),(22,_),(21,_),(20,_),(19,_),(18,_),(17,_),(16,_),(15,_),(14,_),(13,_),(12,_),(11,_),(10,_)] 1 (zcq ⟨peC,peC,peC,peC,peC,peC,peC,peC,peC,peC,peC,peC,peC,peC,peC,peC,(by exact fun _=>pag (b:=true) y y y y y y (pcs (zjb a c p d j s) y y (.cons (si y) (.cons (si y) (.cons (zhE y (fun _=>y)) (.cons (zhE y (fun _=>y)) .nil)))) zbI<|w)),peC,t⟩ (by exact ⟨(fun _ _=>⟨_,y,y,sc [0,1,2] (args:=[.mpt 0 0 0,bA m]) (zu a c e f d i l m y) y y y y ⟨(.mpt y),(rnI y),t⟩ ⟨⟨_,y,(zya y ⟨(.msl y),(.msl y),(rnI y),t⟩)⟩,⟨y,mkI (fun _=>y)⟩,⟨y,mkI (fun _=>y)⟩,t⟩<|⟨(.tup []),[],[(28,_)],y,y,y,y,zcw (z:=zaf [.old 0,.old 1,.old 2,.old 3])⟩⟩),t⟩)) ?_
  obtain rfl:=sm h
  exact ⟨_,y,zad [.old 0,.old 1,.old 2,.old 3]⟩
def zlV(a:Bool):Option (Bool):=
  some a
def zeq(a:Int)(b:Bool):Option (Sum (Bool×Int) (Sum (Bool) (Bool))):=
  some (.inl (b,(IntKind.i64.wrap (a+1))))
def zcQ(f:List za)(i:T2)(m:T0)(n:zb)(o:T1)(p:T1)(j:Int)(b:Bool)(c:Int)(a:zR)(d:T0):Option (Sum (Bool×Int) (Sum (Bool) (Bool))):=
  (zch f i d [84,104,114,111,119,110]).bind fun e=>cond ((decide (a.From≤j))&&(decide (j<a.To))) ((zeR f i m n o p (b||(!e)) a.At [d]).bind fun l=>zeq c l) (zeq c (b||(!e)))
def zbY(e:List za)(f:T2)(i:T0)(d:zb)(j:T1)(l:T1)(m:Int)(c:Bool)(a:Int):Option (Sum (Bool×Int) (Sum (Bool) (Bool))):=
  cond (decide (a<(length d.Traps:Int))) ((idx d.Traps a).bind fun b=>cond (b.C == []) (zcQ e f i d j l m c a b [84,104,114,111,119,110]) (zcQ e f i d j l m c a b b.C)) (some (.inr (.inl c)))
def zel(a:List za)(c:T2)(d:T0)(e:zb)(f:T1)(i:T1)(j:Bool)(l:Int):Option (Bool):=
  (zl (fun z=>zbY a c d e f i l z.1 z.2) (j,0)).bind fun o=>zD o (fun b=>zlV b) some
theorem zlW(c:List za)(d:T2)(e:T0)(a:zb)(f:T1)(i:T1)(B:Bool)(m:Int){r:Bool}(h:zel c d e a f i B m=some r):SC Tryz.prog 85 [.mpt 0 0 0,iA m] (tV c d e a f i B []) (.tup []) (tV c d e a f i r []):=by
 refine ⟨⟨t,zia (sz:=1) (fun _=>y),zia (sz:=1) (fun _=>y),t⟩,zX Tryz.func85 y kz y ?_⟩
 refine A ?_
 obtain ⟨o,ho,h⟩:=bs h
 refine lpB ho (fun z=>[(0,.mpt 0 0 0),(1,iA m),(11,.isl 4 (map z6 a.Traps)),(12,iA (length a.Traps:Int)),(13,iA z.2)]) (fun z=>(sV c d e a f i z.1 [])) (fun b=>[]) (fun b=>(sV c d e a f i b [])) (fun r env st=>zqA Tryz.prog Tryz.f85 3 (.tup []) (sV c d e a f i r []) env st) (zaf [.old 0,.old 1,.old 2]) ?_ ?_
 ·rintro ⟨j,l⟩ r h
  refine A ?_
  refine zf ?_
  refine zeh h y (fun D h=>?_) fun D h=>?_
  ·refine ze ?_
   refine zal (X:=Bool) (fun z=>[(0,.mpt 0 0 0),(1,iA m),(11,.isl 4 (map z6 a.Traps)),(12,iA (length a.Traps:Int)),(13,iA l)]) (fun z=>(sV c d e a f i z [])) (fun z=>zeq l z=some r) ?_ ?_
   ·refine zi ?_
    obtain ⟨n,I,h⟩:=bs h
    refine A ?_
    refine A ?_
    refine zal (X:=T0) (fun z=>[(0,.mpt 0 0 0),(1,iA m),(5,.mpt 3 0 0),(6,sA z),(11,.isl 4 (map z6 a.Traps)),(12,iA (length a.Traps:Int)),(13,iA l)]) (fun z=>(sV c d e a f i j [some (4,[(z6 n)])])) (fun z=>zcQ c d e a f i m j l n z=some r) ?_ ?_
    ·refine A ?_
     refine zeh h y (fun v h=>?_) fun v h=>?_
     ·refine A ?_
      exact (⟨[84,104,114,111,119,110],h,zo [.old 0,.old 1,.old 2,.old 3]⟩)
     ·refine ze ?_
      exact ⟨n.C,h,zo [.old 0,.old 1,.old 2,.old 3]⟩
    ·rintro q h
     obtain ⟨p,E,h⟩:=bs h
     refine rg y<|u<|mv y<|u<|mv y<|u<|nc y y<|u<|fa ti y y y<|u<|ld ti y y<|u<|mv y<|u<|pc (zc9 c d q [84,104,114,111,119,110] E) y y y<|u<|sx [0,1,2] (zu c d e a f i j p y)<|zv (env0:=[(0,.mpt 0 0 0),(1,iA m),(5,.mpt 3 0 0),(6,sA q),(11,.isl 4 (map z6 a.Traps)),(12,iA (length a.Traps:Int)),(13,iA l)]) (st0:=(sV c d e a f i (j||(!p)) [some (4,[(z6 n)])])) (zo [.old 0,.old 1,.old 2,.old 3])<|zx ?_
     refine A ?_
     refine zeh h y (fun x h=>?_) fun x h=>?_
     ·obtain ⟨s,F,h⟩:=bs h
      refine A ?_
      exact u<|sx [0,1,2,4] (zkL c d e a f i (j||(!p)) n.At [q] F)<|zv (env0:=[(0,.mpt 0 0 0),(1,iA m),(11,.isl 4 (map z6 a.Traps)),(12,iA (length a.Traps:Int)),(13,iA l)]) (st0:=(sV c d e a f i s [])) (zo [.old 0,.old 1,.old 2])<|zx (⟨s,h,zo [.old 0,.old 1,.old 2]⟩)
     ·refine ze ?_
      exact ⟨(j||(!p)),h,zo [.old 0,.old 1,.old 2]⟩
   ·rintro G h
    refine A ?_
    obtain rfl:=sm h
    exact ⟨_,y,zo [.old 0,.old 1,.old 2]⟩
  ·refine zq ?_
   obtain rfl:=sm h
   exact ⟨y,_,y,zo [.old 0,.old 1,.old 2]⟩
 ·rintro H rfl
  refine zn ?_
  obtain rfl:=sm h
  exact ⟨_,y,zad [.old 0,.old 1,.old 2]⟩
def zaA(a:Int)(b:Int)(c:Int):Bool:=
  ((decide (b≤a))&&(decide (a≤c)))
instance (a:Int)(b:Int)(c:Int):PF Tryz.prog 139 [iA a,iA b,iA c] (some (zaA a b c)) bA:=.of fun r h=>by
 refine zh Tryz.func139 y kz y y ?_
 unfold zaA at h
 refine A ?_
 refine A ?_
 refine zy ?_
 obtain rfl:=h
 exact ⟨_,y,zad []⟩
def zB(d:List za)(e:T2)(f:T0)(i:zb)(j:T1)(a:T1)(l:Bool)(b:T0):Option (T1):=
  (zh9 16 a [b]).bind fun c=>some c
theorem zA(a:List za)(b:T2)(c:T0)(d:zb)(e:T1)(l:T1)(i:Bool)(j:T0){r:T1}(h:zB a b c d e l i j=some r):SC Tryz.prog 142 [.mpt 0 0 0,sA j] (tV a b c d e l i []) (.tup []) (tU a b c d e r i []):=by
 refine ⟨⟨t,zia (sz:=1) (fun _=>y),t,zia (sz:=1) (fun _=>y),t⟩,zX Tryz.func142 y kz y ?_⟩
 obtain ⟨n,m,h⟩:=bs h
 refine A ?_
 refine u<|apM 4 ti y ti y y (by decide) ti y y y y (roX (f:=zw) (z:=[j]) y y) (fun _=>y) y m<|A ?_
 obtain rfl:=sm h
 exact ⟨_,y,zad [.old 0,.old 1,.dead,.old 4]⟩
def zak(e:List za)(f:T2)(i:T0)(j:zb)(l:T1)(a:T1)(b:Bool):Option (T0×T1×Bool):=
  cond (((length a):Int) == (0:Int)) (some ([84],a,true)) ((idx a (IntKind.i64.wrap (((length a):Int)-1))).bind fun c=>(zkM a 0 (IntKind.i64.wrap (((length a):Int)-1))).bind fun d=>some (c,d,b))
theorem zaC(e:List za)(i:T2)(j:T0)(m:zb)(d:T1)(a:T1)(n:Bool){r:T0×T1×Bool}(h:zak e i j m d a n=some r):SC Tryz.prog 213 [.mpt 0 0 0] (tV e i j m d a n []) (sA r.1) (tV e i j m d r.2.1 r.2.2 []):=by
 refine ⟨⟨t,zia (sz:=1) (fun _=>y),zia (sz:=1) (fun _=>y),t⟩,zX Tryz.func213 y kz y ?_⟩
 refine A ?_
 refine zf<|A ?_
 refine zeh h y (fun p h=>?_) fun p h=>?_
 ·refine A ?_
  refine A ?_
  exact RT3
 ·refine ze ?_
  obtain ⟨s,v,h⟩:=bs h
  refine rdA [(0,_),(3,_)] (sV e i j m d a n []) [] [0,1,2,3,4,5,6,7,8,9,10,11,12] [(3,_),(24,_),(23,_),(22,_),(21,_),(20,_),(19,_),(18,_),(17,_),(16,_),(15,_),(14,_),(13,_)] 0 (zcw (z:=zaf [.old 0,.old 1,.old 2])) ?_
  obtain ⟨q,o,h⟩:=bs h
  refine rdA [(3,_)] [some (15,[(vK e i j m (.msl 1 0 (length d)) (.msl 2 0 (length q)) (bA n))]),some (1,map zw d),some (1,map zw a)] [14] [0,1,2,3,4,5,6,7,8,9,10,11,12,13] [(38,_),(37,_),(36,_),(35,_),(34,_),(33,_),(32,_),(31,_),(30,_),(29,_),(28,_),(27,_),(26,_),(25,_)] 1 (zcq ⟨peC,peC,peC,peC,peC,peC,peC,peC,peC,peC,peC,(by exact pb y (slM (l:=a) (c:=(IntKind.i64.wrap (((length a):Int)-1))) ti y ti y y y (zpS y o) o<|w)),peC,peC,t⟩ (by exact ⟨(fun _ _=>⟨_,y,y,sto ti y y y<|⟨.any,[],[],y,y,y,t,zcw (z:=zaf [.old 0,.old 1,.old 2])⟩⟩),t⟩)) ?_
  refine zFM (b:=2) (l:=a) (f:=zw) (c:=(IntKind.i64.wrap (((length a):Int)-1))) y y o ?_
  refine A ?_
  exact RT3
def zbG(i:List za)(j:T2)(l:T0)(m:zb)(a:T1)(b:T1)(c:Bool)(n:zp)(d:Bool):Option (T1×T1×Bool):=
  cond d (some (a,b,true)) ((idx a n.A).bind fun e=>(zB i j l m a b c e).bind fun f=>some (a,f,c))
def zaY(c:List za)(d:T2)(e:T0)(f:zb)(a:T1)(l:T1)(i:Bool)(b:zp):Option (T1×T1×Bool):=
  cond (b.Op == (1:Int)) ((zB c d e f a l i [73]).bind fun E=>some (a,E,i)) (cond (b.Op == (2:Int)) ((zB c d e f a l i [78]).bind fun s=>some (a,s,i)) (cond (b.Op == (3:Int)) (cond (decide (((length a):Int)≤b.A)) (zbG c d e f a l i b true) ((idx a b.A).bind fun v=>zbG c d e f a l i b (v == [84]))) (cond (b.Op == (4:Int)) ((zak c d e f a l i).bind fun n=>cond (decide (((length a):Int)≤b.A)) (some (a,n.2.1,true)) ((zoL a).bind fun p=>(idx p b.A).bind fun F=>some ((List.set p (Int.toNat b.A) n.1),n.2.1,n.2.2))) (cond (b.Op == (5:Int)) ((zak c d e f a l i).bind fun q=>some (a,q.2.1,q.2.2)) (cond (b.Op == (6:Int)) ((zak c d e f a l i).bind fun j=>(zB c d e f a j.2.1 j.2.2 j.1).bind fun x=>(zB c d e f a x j.2.2 j.1).bind fun B=>some (a,B,j.2.2)) (cond (b.Op == (7:Int)) ((zak c d e f a l i).bind fun o=>(zak c d e f a o.2.1 o.2.2).bind fun m=>(zB c d e f a m.2.1 m.2.2 o.1).bind fun C=>(zB c d e f a C m.2.2 m.1).bind fun D=>some (a,D,m.2.2)) (some (a,l,i))))))))
theorem zms(b:List za)(c:T2)(d:T0)(e:zb)(a:T1)(m:T1)(l:Bool)(n:zp){r:T1×T1×Bool}(h:zaY b c d e a m l n=some r):SC Tryz.prog 140 [.mpt 0 0 0,.agg (zt n)] (tV b c d e a m l []) (.tup []) [.one 15 (vK b c d e (.msl 3 0 (length r.1)) (.msl 4 0 (length r.2.1)) (bA r.2.2)),.no,.no,.many 1 (map zw r.1),.many 1 (map zw r.2.1)]:=by
 refine ⟨⟨t,t,t,zia (sz:=1) (fun _=>y),zia (sz:=1) (fun _=>y),t⟩,zX Tryz.func140 y kz y ?_⟩
 refine A ?_
 refine A ?_
 refine zi<|A ?_
 refine zeh h y (fun G h=>?_) fun G h=>?_
 ·obtain ⟨v9,q2,h⟩:=bs h
  refine rl y<|u<|mv y<|u<|sx [0,1,2] (zA b c d e a m l [73] q2)<|zv (env0:=[]) (st0:=(sU b c d e a v9 l [])) (zo [.old 0,.old 1,.dead,.old 4])<|zx ?_
  obtain rfl:=sm h
  exact ⟨_,y,zad [.old 0,.dead,.dead,.old 1,.old 3]⟩
 ·refine A ?_
  refine zeh h y (fun H h=>?_) fun H h=>?_
  ·obtain ⟨I,q4,h⟩:=bs h
   refine rl y<|u<|mv y<|u<|sx [0,1,2] (zA b c d e a m l [78] q4)<|zv (env0:=[]) (st0:=(sU b c d e a I l [])) (zo [.old 0,.old 1,.dead,.old 4])<|zx ?_
   obtain rfl:=sm h
   exact ⟨_,y,zad [.old 0,.dead,.dead,.old 1,.old 3]⟩
  ·refine A ?_
   refine zeh h y (fun J h=>?_) fun J h=>?_
   ·refine zf ?_
    refine zal (X:=Bool) (fun z=>[(0,.mpt 0 0 0),(3,.mpt 3 0 0),(38,bA z)]) (fun z=>(sV b c d e a m l [some (4,[(zt n)])])) (fun z=>zbG b c d e a m l n z=some r) ?_ ?_
    ·rcases bb (decide (((length a):Int)≤n.A)) with q |q
     ·replace h:=bT q h
      exact rdQ [] [0,1,2,3,4,5,6,7,8,9,10,11,12,13,14,15,16,17,18] [(38,_),(37,_),(36,_),(35,_),(34,_),(33,_),(32,_),(31,_),(30,_),(29,_),(28,_),(27,_),(26,_),(25,_),(24,_),(23,_),(22,_),(21,_),(20,_)] 0 (zcw (z:=by exact ⟨true,h,zaf [.old 0,.old 1,.old 2,.old 3]⟩))
     ·replace h:=bF q h
      obtain ⟨K,q7,h⟩:=bs h
      exact rdQ [] [0,1,2,3,4,5,6,7,8,9,10,11,12,13,14,15,16,17,18] [(38,_),(37,_),(36,_),(35,_),(34,_),(33,_),(32,_),(31,_),(30,_),(29,_),(28,_),(27,_),(26,_),(25,_),(24,_),(23,_),(22,_),(21,_),(20,_)] 0 (zcw (z:=by exact ⟨(K == [84]),h,zaf [.old 0,.old 1,.old 2,.old 3]⟩))
    ·rintro v12 h
     refine zeh h y (fun L h=>?_) fun L h=>?_
     ·refine A ?_
      refine zy ?_
      obtain rfl:=sm h
      exact ⟨_,y,zAL [.old 0,.dead,.dead,.old 1,.old 2]⟩
     ·refine ze ?_
      obtain ⟨M,q9,N,O,h⟩:=bs2 h
      refine zjQ [] (sU b c d e a N l []) [9] [0,1,2,3,4,5,6,7,8] [(50,_),(49,_),(48,_),(47,_),(46,_),(45,_),(44,_),(43,_),(42,_)] 1 (zcq (z:=by exact ⟨(fun _ _=>⟨_,y,y,sx [0,1,2] (zA b c d e a m l M O)<|⟨(.tup []),[],[(51,_)],y,y,y,y,zcw (z:=zaf [.old 0,.old 1,.dead,.old 4])⟩⟩),t⟩)) ?_
      obtain rfl:=sm h
      exact ⟨_,y,zad [.old 0,.dead,.dead,.old 1,.old 3]⟩
   ·refine A ?_
    refine zeh h y (fun B h=>?_) fun B h=>?_
    ·obtain ⟨f,P,h⟩:=bs h
     refine rg y<|u<|mv y<|u<|sx [0,1,2] (zaC b c d e a m l P)<|zv (env0:=[(0,.mpt 0 0 0),(3,.mpt 3 0 0),(55,sA f.1)]) (st0:=(sV b c d e a f.2.1 f.2.2 [some (4,[(zt n)])])) (zo [.old 0,.old 1,.old 2,.old 3])<|A ?_
     refine zf ?_
     refine rdA [(0,_),(3,_),(4,_),(63,_)] (sV b c d e a f.2.1 f.2.2 [some (4,[(zt n)])]) [] [0,1,2,3,4,5,6,7] [(63,_),(62,_),(61,_),(60,_),(59,_),(58,_),(57,_),(56,_)] 0 (zcw (z:=zaf [.old 0,.old 1,.old 2,.old 3])) ?_
     refine zeh h y (fun C h=>?_) fun C h=>?_
     ·refine A ?_
      refine zy ?_
      obtain rfl:=sm h
      exact ⟨_,y,zAL [.old 0,.dead,.dead,.old 1,.old 2]⟩
     ·refine ze ?_
      obtain ⟨p,Q,h⟩:=bs h
      refine A ?_
      refine zv (env0:=[(0,.mpt 0 0 0),(3,.mpt 3 0 0),(4,sA f.1),(67,.mpt 0 0 0),(71,.isl 1 (map zw a))]) (st0:=[some (15,[(vK b c d e (.isl 1 (map zw a)) (.msl 2 0 (length f.2.1)) (bA f.2.2))]),none,some (1,map zw f.2.1),some (4,[(zt n)])]) (zo [.old 0,.dead,.old 2,.old 3])<|u<|sx [] (zqN a Q)<|zv (env0:=[(0,.mpt 0 0 0),(3,.mpt 3 0 0),(4,sA f.1),(67,.mpt 0 0 0),(72,.msl 4 0 (length p))]) (st0:=[some (15,[(vK b c d e (.isl 1 (map zw a)) (.msl 2 0 (length f.2.1)) (bA f.2.2))]),none,some (1,map zw f.2.1),some (4,[(zt n)]),some (1,map zw p)]) (zo [.old 0,.dead,.old 2,.old 3,.old 4])<|A ?_
      obtain ⟨v17,R,h⟩:=bs h
      refine zjQ [] [some (15,[(vK b c d e (.msl 3 0 (length (List.set p (Int.toNat n.A) f.1))) (.msl 2 0 (length f.2.1)) (bA f.2.2))]),none,some (1,map zw f.2.1),some (1,map zw (List.set p (Int.toNat n.A) f.1))] [8] [0,1,2,3,4,5,6,7] [(82,_),(81,_),(80,_),(79,_),(78,_),(77,_),(76,_),(75,_)] 1 (zcq (z:=by exact ⟨(fun _ _=>⟨_,y,y,zE6 (c':=f.1) ti y y (zaj R).2.2 y y y y y<|⟨.any,[],[],y,y,y,t,zcw (z:=by exact ⟨[.old 0,.dead,.old 2,.old 4],cn,y,⟨⟨_,y,zhR (zyO y (by exact ⟨zEK (by simp) y,.msl y,ci y,t⟩))⟩,⟨_,y,zi8 (fun _=>y)⟩,⟨_,y,zi8 (fun _=>y)⟩,t⟩,y,k⟩)⟩⟩),t⟩)) ?_
      obtain rfl:=sm h
      exact ⟨_,y,zad [.old 0,.dead,.dead,.old 3,.old 2]⟩
    ·refine A ?_
     refine zeh h y (fun D h=>?_) fun D h=>?_
     ·obtain ⟨s,S,h⟩:=bs h
      refine rl y<|u<|mv y<|u<|sx [0,1,2] (zaC b c d e a m l S)<|zv (env0:=[]) (st0:=(sV b c d e a s.2.1 s.2.2 [])) (zo [.old 0,.old 1,.old 2])<|zx ?_
      obtain rfl:=sm h
      exact ⟨_,y,zad [.old 0,.dead,.dead,.old 1,.old 2]⟩
     ·refine A ?_
      refine zeh h y (fun E h=>?_) fun E h=>?_
      ·obtain ⟨i,T,h⟩:=bs h
       refine rg y<|u<|mv y<|u<|sx [0,1,2] (zaC b c d e a m l T)<|zv (env0:=[(0,.mpt 0 0 0),(90,sA i.1)]) (st0:=(sV b c d e a i.2.1 i.2.2 [])) (zo [.old 0,.old 1,.old 2])<|A ?_
       obtain ⟨v,U,h⟩:=bs h
       refine rg y<|u<|mv y<|u<|mv y<|u<|sx [0,1,2] (zA b c d e a i.2.1 i.2.2 i.1 U)<|zv (env0:=[(0,.mpt 0 0 0),(5,sA i.1)]) (st0:=(sU b c d e a v i.2.2 [])) (zo [.old 0,.old 1,.dead,.old 3])<|zx ?_
       obtain ⟨V,W,h⟩:=bs h
       refine rl y<|u<|mv y<|u<|mv y<|u<|sx [0,1,3] (zA b c d e a v i.2.2 i.1 W)<|zv (env0:=[]) (st0:=(sU b c d e a V i.2.2 [])) (zo [.old 0,.old 1,.dead,.old 4])<|zx ?_
       obtain rfl:=sm h
       exact ⟨_,y,zad [.old 0,.dead,.dead,.old 1,.old 3]⟩
      ·refine A ?_
       refine zeh h y (fun F h=>?_) fun F h=>?_
       ·obtain ⟨o,Y,j,Z,h⟩:=bs2 h
        refine rg y<|u<|mv y<|u<|sx [0,1,2] (zaC b c d e a m l Y)<|zv (env0:=[(0,.mpt 0 0 0),(100,sA o.1)]) (st0:=(sV b c d e a o.2.1 o.2.2 [])) (zo [.old 0,.old 1,.old 2])<|u<|mv y<|u<|sx [0,1,2] (zaC b c d e a o.2.1 o.2.2 Z)<|zv (env0:=[(0,.mpt 0 0 0),(100,sA o.1),(102,sA j.1)]) (st0:=(sV b c d e a j.2.1 j.2.2 [])) (zo [.old 0,.old 1,.old 2])<|A ?_
        obtain ⟨x,q25,h⟩:=bs h
        refine rg y<|u<|mv y<|u<|mv y<|u<|sx [0,1,2] (zA b c d e a j.2.1 j.2.2 o.1 q25)<|zv (env0:=[(0,.mpt 0 0 0),(7,sA j.1)]) (st0:=(sU b c d e a x j.2.2 [])) (zo [.old 0,.old 1,.dead,.old 3])<|zx ?_
        obtain ⟨v25,q26,h⟩:=bs h
        refine rl y<|u<|mv y<|u<|mv y<|u<|sx [0,1,3] (zA b c d e a x j.2.2 j.1 q26)<|zv (env0:=[]) (st0:=(sU b c d e a v25 j.2.2 [])) (zo [.old 0,.old 1,.dead,.old 4])<|zx ?_
        obtain rfl:=sm h
        exact ⟨_,y,zad [.old 0,.dead,.dead,.old 1,.old 3]⟩
       ·refine ze ?_
        obtain rfl:=sm h
        exact ⟨_,y,zad [.old 0,.dead,.dead,.old 1,.old 2]⟩
def zmu(a:T1)(b:Bool):Option (T1×Bool):=
  some (a,b)
def zaO(e:List za)(f:T2)(l:T0)(m:zb)(n:T1)(o:T1)(c:T1)(d:Bool)(a:Int):Option (Sum (T1×Bool×Int) (Sum (T1×Bool) (T1×Bool))):=
  cond (decide (0≤a)) ((idx o a).bind fun i=>(zak e f l m n c d).bind fun b=>(zfq e f b.1 i).bind fun j=>some (.inl (b.2.1,(b.2.2||(!j)),(IntKind.i64.wrap (a-1))))) (some (.inr (.inl (c,d))))
def zJ(c:List za)(d:T2)(e:T0)(f:zb)(i:T1)(j:T1)(l:Bool)(a:T1):Option (T1×Bool):=
  (zl (fun z=>zaO c d e f i a z.1 z.2.1 z.2.2) (j,l,(IntKind.i64.wrap ((length a:Int)-1)))).bind fun o=>zD o (fun b=>zmu b.1 b.2) some
theorem zG(a:List za)(c:T2)(d:T0)(e:zb)(f:T1)(m:T1)(n:Bool)(l:T1){r:T1×Bool}(h:zJ a c d e f m n l=some r):SC Tryz.prog 141 [.mpt 0 0 0,.isl 1 (map zw l)] (tV a c d e f m n []) (.tup []) (tV a c d e f r.1 r.2 []):=by
 refine ⟨⟨t,zia (sz:=1) (fun _=>y),zia (sz:=1) (fun _=>y),t⟩,zX Tryz.func141 y kz y ?_⟩
 refine A ?_
 obtain ⟨o,ho,h⟩:=bs h
 refine lpB ho (fun z=>[(0,.mpt 0 0 0),(1,.isl 1 (map zw l)),(4,iA z.2.2)]) (fun z=>(sV a c d e f z.1 z.2.1 [])) (fun b=>[]) (fun b=>(sV a c d e f b.1 b.2 [])) (fun r env st=>zqA Tryz.prog Tryz.f141 3 (.tup []) (sV a c d e f r.1 r.2 []) env st) (zaf [.old 0,.old 1,.old 2]) ?_ ?_
 ·rintro ⟨p,q,x⟩ r h
  refine zf<|A ?_
  refine zeh h y (fun s h=>?_) fun s h=>?_
  ·refine ze<|zf<|zi ?_
   obtain ⟨B,E,i,v,j,F,h⟩:=bs3 h
   refine zjQ [(0,_),(1,_),(4,_)] (sV a c d e f i.2.1 (i.2.2||(!j)) []) [6,12] [0,1,2,3,4,5,7,8,9,10] [(22,_),(21,_),(20,_),(19,_),(17,_),(16,_),(15,_),(14,_),(13,_),(12,_)] 2 (zcq (z:=by exact ⟨(fun _ _=>⟨_,y,y,sx [0,1,2] (zaC a c d e f p q v)<|⟨(sA i.1),[11],[(23,_),(18,_)],y,y,y,y,zcq (z:=by exact ⟨nv,(fun _ _=>⟨_,y,y,sx [0,1,2] (zu a c d e f i.2.1 i.2.2 j y)<|⟨(.tup []),[],[(24,_)],y,y,y,y,zcw (z:=zaf [.old 0,.old 1,.old 2])⟩⟩),t⟩)⟩⟩),nw,t⟩)) ?_
   refine A ?_
   obtain rfl:=sm h
   exact ⟨_,y,zo [.old 0,.old 1,.old 2]⟩
  ·refine zq ?_
   obtain rfl:=sm h
   exact ⟨y,_,y,zo [.old 0,.old 1,.old 2]⟩
 ·rintro ⟨C,D⟩ rfl
  refine zn ?_
  obtain rfl:=sm h
  exact ⟨_,y,zad [.old 0,.old 1,.old 2]⟩
def zb6(c:List za)(d:T2)(e:T0)(f:zb)(i:T1)(j:T1)(l:Bool):Option (T0×T1×Bool):=
  (zak c d e f i j l).bind fun a=>(cond (a.1 == [78]) (some true) ((zlx a.1).bind fun m=>some m)).bind fun b=>some (a.1,a.2.1,(a.2.2||(!b)))
theorem zdY(b:List za)(c:T2)(d:T0)(e:zb)(f:T1)(j:T1)(l:Bool){r:T0×T1×Bool}(h:zb6 b c d e f j l=some r):SC Tryz.prog 143 [.mpt 0 0 0] (tV b c d e f j l []) (sA r.1) (tV b c d e f r.2.1 r.2.2 []):=by
 refine ⟨⟨t,zia (sz:=1) (fun _=>y),zia (sz:=1) (fun _=>y),t⟩,zX Tryz.func143 y kz y ?_⟩
 refine A ?_
 obtain ⟨a,m,h⟩:=bs h
 refine rg y<|u<|mv y<|u<|sx [0,1,2] (zaC b c d e f j l m)<|zv (env0:=[(0,.mpt 0 0 0),(5,sA a.1)]) (st0:=(sV b c d e f a.2.1 a.2.2 [])) (zo [.old 0,.old 1,.old 2])<|A ?_
 obtain ⟨i,n,h⟩:=bs h
 refine A ?_
 refine u<|sx [0,1,2] (zu b c d e f a.2.1 a.2.2 i y)<|zv (env0:=[(3,sA a.1)]) (st0:=(sV b c d e f a.2.1 (a.2.2||(!i)) [])) (zo [.old 0,.old 1,.old 2])<|zx ?_
 refine A ?_
 exact RT3
def zqb:Option (T0×zk×Bool):=
  some ([],(zk.mk [] [] false),false)
def zeZ(i:List za)(j:T2)(l:T0)(e:T1)(a:Int):Option (Sum (Int) (Sum (Unit) (T0×zk×Bool))):=
  cond (decide (a<((length e):Int))) ((idx e a).bind fun b=>(zO i j b).bind fun c=>(zjC c.1 l).bind fun d=>cond (decide (0≤d)) ((idx c.1.Fields d).bind fun f=>some (.inr (.inr (b,f,true)))) (some (.inl (IntKind.i64.wrap (a+1))))) (some (.inr (.inl ())))
def zhW(a:List za)(c:T2)(d:T0)(e:T0):Option (T0×zk×Bool):=
  (zaH a c d).bind fun f=>(zl (fun z=>zeZ a c e f z) 0).bind fun o=>zD o (fun b=>zqb) some
instance (a:List za)(c:T2)(f:T0)(d:T0):PF Tryz.prog 162 [.ipt 2 [[.isl 6 (map zc a),.imp (map (rKV (fun x=>iA x)) c)]] 0 0,sA f,sA d] (zhW a c f d) (fun r=>(.tup [sA r.1,.agg (zE r.2.1),bA r.2.2])):=⟨fun r h=>by
 refine zh Tryz.func162 y kz y y<|A ?_
 refine zf ?_
 obtain ⟨e,p,h⟩:=bs h
 refine A ?_
 refine u<|sx [] (za1 a c f p)<|zv (env0:=[(0,.ipt 2 [[.isl 6 (map zc a),.imp (map (rKV (fun x=>iA x)) c)]] 0 0),(2,sA d),(7,.mpt 0 0 0),(16,.msl 1 0 (length e))]) (st0:=[some (3,[[sA [],sA [],bA false]]),some (1,map zw e)]) (zo [.old 0,.old 1])<|A ?_
 obtain ⟨o,ho,h⟩:=bs h
 refine lpB ho (fun z=>[(0,.ipt 2 [[.isl 6 (map zc a),.imp (map (rKV (fun x=>iA x)) c)]] 0 0),(2,sA d),(7,.mpt 0 0 0),(16,.msl 1 0 (length e)),(17,iA ((length e):Int)),(18,iA z)]) (fun z=>[some (3,[[sA [],sA [],bA false]]),some (1,map zw e)]) (fun b=>[(7,.mpt 0 0 0)]) (fun b=>[some (3,[[sA [],sA [],bA false]])]) (pG Tryz.f162 (fun r=>.tup [sA r.1,.agg (zE r.2.1),bA r.2.2])) (zaf [.old 0,.old 1]) ?_ ?_
 ·rintro q r h
  refine A ?_
  refine zf ?_
  refine zeh h y (fun j h=>?_) fun j h=>?_
  ·refine ze<|zf<|zi ?_
   obtain ⟨s,D,h⟩:=bs h
   refine A ?_
   obtain ⟨l,v,h⟩:=bs h
   refine A ?_
   obtain ⟨B,m,h⟩:=bs h
   refine rg y<|u<|ld ti y y<|u<|mv y<|u<|pc (znN l.1 d m) y y y<|u<|asg y<|zx ?_
   refine rg y<|u<|mv y<|u<|geq ti y y<|zx ?_
   refine zeh h y (fun i h=>?_) fun i h=>?_
   ·obtain ⟨n,C,h⟩:=bs h
    refine rdA [(6,_),(7,_),(8,_)] [some (3,[(zE n)])] [7] [0,1,2,3,4,5,6] [(6,_),(38,_),(37,_),(36,_),(35,_),(34,_),(33,_)] 1 (zcq (z:=by exact ⟨(fun _ _=>⟨_,y,y,sto ti y y y<|⟨.any,[8],[(8,_)],y,y,y,t,zcw (z:=zaf [.old 0])⟩⟩),t⟩)) ?_
    refine zy ?_
    obtain rfl:=sm h
    exact ⟨_,y,_,y,zad []⟩
   ·refine ze<|A ?_
    obtain rfl:=sm h
    exact ⟨_,y,zo [.old 0,.old 1]⟩
  ·refine zq ?_
   obtain rfl:=sm h
   exact ⟨y,_,y,zo [.old 0]⟩
 ·rintro ⟨⟩ rfl
  refine zn<|A ?_
  exact RT0⟩
def zek(c:List za)(d:T2)(f:T0)(i:zb)(j:T1)(l:T1)(e:Bool)(b:zp):Option (T1×Bool):=
  cond (b.Op == (37:Int)) ((zO c d b.C).bind fun n=>(zB c d f i j l (e||(!(n.2&&(!n.1.Interface)))) b.C).bind fun q=>some (q,(e||(!(n.2&&(!n.1.Interface)))))) ((zhW c d b.C b.M).bind fun a=>cond (b.Op == (38:Int)) ((zJ c d f i j l (e||(!(a.2.2&&(a.2.1.Static == ((b.Op == (40:Int))||(b.Op == (41:Int))))))) [b.C]).bind fun m=>(zB c d f i j m.1 m.2 a.2.1.Type_).bind fun s=>some (s,m.2)) (cond (b.Op == (39:Int)) ((zJ c d f i j l (e||(!(a.2.2&&(a.2.1.Static == ((b.Op == (40:Int))||(b.Op == (41:Int))))))) [b.C,a.2.1.Type_]).bind fun o=>some (o.1,o.2)) (cond (b.Op == (40:Int)) ((zB c d f i j l (e||(!(a.2.2&&(a.2.1.Static == ((b.Op == (40:Int))||(b.Op == (41:Int))))))) a.2.1.Type_).bind fun v=>some (v,(e||(!(a.2.2&&(a.2.1.Static == ((b.Op == (40:Int))||(b.Op == (41:Int))))))))) ((zJ c d f i j l (e||(!(a.2.2&&(a.2.1.Static == ((b.Op == (40:Int))||(b.Op == (41:Int))))))) [a.2.1.Type_]).bind fun p=>some (p.1,p.2)))))
theorem zlU(c:List za)(d:T2)(e:T0)(f:zb)(i:T1)(l:T1)(j:Bool)(b:zp){r:T1×Bool}(h:zek c d e f i l j b=some r):SC Tryz.prog 144 [.mpt 0 0 0,.agg (zt b)] (tV c d e f i l j []) (.tup []) (tU c d e f i r.1 r.2 []):=by
 refine ⟨⟨t,zia (sz:=1) (fun _=>y),t,zia (sz:=1) (fun _=>y),t⟩,zX Tryz.func144 y kz y ?_⟩
 refine A ?_
 refine zf<|A ?_
 refine zeh h y (fun v h=>?_) fun v h=>?_
 ·obtain ⟨m,L,h⟩:=bs h
  refine rdA [(0,_),(3,_),(4,_),(5,_)] (sV c d e f i l j [some (4,[(zt b)]),some (6,[(zc m.1)])]) [10,11] [0,1,2,3,4,5,6,7,8,9] [(21,_),(20,_),(12,_),(19,_),(18,_),(17,_),(16,_),(15,_),(14,_),(13,_)] 2 (zcq (z:=by exact ⟨(fun _ _=>⟨_,y,y,al 4 ti y<|⟨(.mpt 4 0 0),[],[(4,_)],y,y,y,y,zcq (z:=by exact ⟨nv,(fun _ _=>⟨_,y,y,sto ti y y y<|⟨.any,[12],[(5,_)],y,y,y,t,zcw (z:=zaf [.old 0,.old 1,.old 2,.old 3,.old 4])⟩⟩),t⟩)⟩⟩),nw,t⟩)) ?_
  refine A ?_
  refine u<|sx [0,1,2] (zu c d e f i l j (m.2&&(!m.1.Interface)) y)<|zv (env0:=[(0,.mpt 0 0 0),(3,.mpt 3 0 0)]) (st0:=(sV c d e f i l (j||(!(m.2&&(!m.1.Interface)))) [some (4,[(zt b)])])) (zo [.old 0,.old 1,.old 2,.old 3])<|zx ?_
  obtain ⟨x,J,h⟩:=bs h
  refine A ?_
  refine u<|sx [0,1,2] (zA c d e f i l (j||(!(m.2&&(!m.1.Interface)))) b.C J)<|zv (env0:=[]) (st0:=(sU c d e f i x (j||(!(m.2&&(!m.1.Interface)))) [])) (zo [.old 0,.old 1,.dead,.old 4])<|zx ?_
  refine zy ?_
  obtain rfl:=sm h
  exact ⟨_,y,zAL [.old 0,.old 1,.dead,.old 3]⟩
 ·refine ze ?_
  obtain ⟨a,M,h⟩:=bs h
  refine rdA [(0,_),(3,_),(7,_),(8,_)] (sV c d e f i l j [some (4,[(zt b)]),some (3,[(zE a.2.1)])]) [13,15] [0,1,2,3,4,5,6,7,8,9,10,11,12] [(46,_),(45,_),(44,_),(34,_),(43,_),(42,_),(41,_),(40,_),(39,_),(38,_),(37,_),(36,_),(35,_)] 2 (zcq (z:=by exact ⟨(fun _ _=>⟨_,y,y,al 4 ti y<|⟨(.mpt 4 0 0),[14],[(6,_),(7,_)],y,y,y,y,zcq (z:=by exact ⟨nv,(fun _ _=>⟨_,y,y,sto ti y y y<|⟨.any,[16],[(8,_)],y,y,y,t,zcw (z:=zaf [.old 0,.old 1,.old 2,.old 3,.old 4])⟩⟩),t⟩)⟩⟩),nw,t⟩)) ?_
  refine A ?_
  refine u<|sx [0,1,2] (zu c d e f i l j (a.2.2&&(a.2.1.Static == ((b.Op == (40:Int))||(b.Op == (41:Int))))) y)<|zv (env0:=[(0,.mpt 0 0 0),(3,.mpt 3 0 0),(7,.mpt 4 0 0)]) (st0:=(sV c d e f i l (j||(!(a.2.2&&(a.2.1.Static == ((b.Op == (40:Int))||(b.Op == (41:Int))))))) [some (4,[(zt b)]),some (3,[(zE a.2.1)])])) (zo [.old 0,.old 1,.old 2,.old 3,.old 4])<|zx ?_
  refine A ?_
  refine zi<|A ?_
  refine zeh h y (fun B h=>?_) fun B h=>?_
  ·obtain ⟨n,K,h⟩:=bs h
   refine A ?_
   refine zv (env0:=[(0,.mpt 0 0 0),(7,.mpt 3 0 0),(72,.mpt 0 0 0),(75,.isl 1 (map zw [b.C]))]) (st0:=(sV c d e f i l (j||(!(a.2.2&&(a.2.1.Static == ((b.Op == (40:Int))||(b.Op == (41:Int))))))) [some (3,[(zE a.2.1)])])) (zo [.old 0,.old 1,.old 2,.old 4])<|u<|sx [0,1,2] (zG c d e f i l (j||(!(a.2.2&&(a.2.1.Static == ((b.Op == (40:Int))||(b.Op == (41:Int))))))) [b.C] K)<|zv (env0:=[(0,.mpt 0 0 0),(7,.mpt 3 0 0)]) (st0:=(sV c d e f i n.1 n.2 [some (3,[(zE a.2.1)])])) (zo [.old 0,.old 1,.old 2,.old 3])<|zx ?_
   obtain ⟨D,E,h⟩:=bs h
   refine A ?_
   refine u<|sx [0,1,2] (zA c d e f i n.1 n.2 a.2.1.Type_ E)<|zv (env0:=[]) (st0:=(sU c d e f i D n.2 [])) (zo [.old 0,.old 1,.dead,.old 4])<|zx ?_
   obtain rfl:=sm h
   exact ⟨_,y,zad [.old 0,.old 1,.dead,.old 3]⟩
  ·refine A ?_
   refine zeh h y (fun q h=>?_) fun q h=>?_
   ·obtain ⟨o,F,h⟩:=bs h
    refine A ?_
    refine zv (env0:=[(83,.mpt 0 0 0),(88,.isl 1 (map zw [b.C,a.2.1.Type_]))]) (st0:=(sV c d e f i l (j||(!(a.2.2&&(a.2.1.Static == ((b.Op == (40:Int))||(b.Op == (41:Int))))))) [])) (zo [.old 0,.old 1,.old 2])<|u<|sx [0,1,2] (zG c d e f i l (j||(!(a.2.2&&(a.2.1.Static == ((b.Op == (40:Int))||(b.Op == (41:Int))))))) [b.C,a.2.1.Type_] F)<|zv (env0:=[]) (st0:=(sV c d e f i o.1 o.2 [])) (zo [.old 0,.old 1,.old 2])<|zx ?_
    obtain rfl:=sm h
    exact ⟨_,y,zad [.old 0,.old 1,.dead,.old 2]⟩
   ·refine A ?_
    refine zeh h y (fun s h=>?_) fun s h=>?_
    ·obtain ⟨G,H,h⟩:=bs h
     refine A ?_
     refine u<|sx [0,1,2] (zA c d e f i l (j||(!(a.2.2&&(a.2.1.Static == ((b.Op == (40:Int))||(b.Op == (41:Int))))))) a.2.1.Type_ H)<|zv (env0:=[]) (st0:=(sU c d e f i G (j||(!(a.2.2&&(a.2.1.Static == ((b.Op == (40:Int))||(b.Op == (41:Int))))))) [])) (zo [.old 0,.old 1,.dead,.old 5])<|zx ?_
     obtain rfl:=sm h
     exact ⟨_,y,zad [.old 0,.old 1,.dead,.old 3]⟩
    ·obtain ⟨p,I,h⟩:=bs h
     refine A ?_
     refine zv (env0:=[(65,.mpt 0 0 0),(68,.isl 1 (map zw [a.2.1.Type_]))]) (st0:=(sV c d e f i l (j||(!(a.2.2&&(a.2.1.Static == ((b.Op == (40:Int))||(b.Op == (41:Int))))))) [])) (zo [.old 0,.old 1,.old 2])<|u<|sx [0,1,2] (zG c d e f i l (j||(!(a.2.2&&(a.2.1.Static == ((b.Op == (40:Int))||(b.Op == (41:Int))))))) [a.2.1.Type_] I)<|zv (env0:=[]) (st0:=(sV c d e f i p.1 p.2 [])) (zo [.old 0,.old 1,.old 2])<|zx ?_
     obtain rfl:=sm h
     exact ⟨_,y,zad [.old 0,.old 1,.dead,.old 2]⟩
def zaT(a:zb):Bool:=
  (!(a.Name == [36,105,110,105,116]))
theorem zi7(a:zb){r:Bool}(h:zaT a=r):zam Tryz.prog 161 [.agg (zd a)] (bA r):=by
 refine zh Tryz.func161 y kz y y ?_
 unfold zaT at h
 refine A ?_
 refine A ?_
 refine zy ?_
 obtain rfl:=h
 exact ⟨_,y,zad []⟩
instance (a:zb):PF Tryz.prog 161 [.agg (zd a)] (some (zaT a)) bA:=.of fun _=>zi7 a
def zq8:Option (T0×zb×Bool):=
  some ([],(zb.mk [] [] [] false false 0 0 [] [] []),false)
def zfQ(l:List za)(m:T2)(e:T1)(n:T0)(a:Int):Option (Sum (Int) (Sum (Unit) (T0×zb×Bool))):=
  cond (decide (a<(length e:Int))) ((idx e a).bind fun d=>(zO l m d).bind fun b=>(ze7 b.1 n).bind fun c=>(cond (decide (0≤c)) ((idx b.1.Methods c).bind fun f=>some (zaT f)) (some false)).bind fun i=>cond i ((idx b.1.Methods c).bind fun j=>some (.inr (.inr (d,j,true)))) (some (.inl (IntKind.i64.wrap (a+1))))) (some (.inr (.inl ())))
def ziS(a:List za)(c:T2)(d:T1)(e:T0):Option (T0×zb×Bool):=
  (zl (fun z=>zfQ a c d e z) 0).bind fun o=>zD o (fun b=>zq8) some
instance (i:List za)(l:T2)(d:T1)(e:T0):PF Tryz.prog 160 [.ipt 2 [[.isl 6 (map zc i),.imp (map (rKV (fun x=>iA x)) l)]] 0 0,.isl 1 (map zw d),sA e,.fn (.func 161) [] []] (ziS i l d e) (fun r=>(.tup [sA r.1,.agg (zd r.2.1),bA r.2.2])):=⟨fun r h=>by
 refine zh Tryz.func160 y kz y y<|A ?_
 refine zf<|A ?_
 obtain ⟨o,ho,h⟩:=bs h
 refine lpB ho (fun z=>[(0,.ipt 2 [[.isl 6 (map zc i),.imp (map (rKV (fun x=>iA x)) l)]] 0 0),(2,sA e),(3,.fn (.func 161) [] []),(9,.mpt 0 0 0),(16,.isl 1 (map zw d)),(17,iA (length d:Int)),(18,iA z)]) (fun z=>[some (10,[[sA [],.lit (.slice none 0 0),sA [],bA false,bA false,iA 0,iA 0,.lit (.slice none 0 0),.lit (.slice none 0 0),.lit (.slice none 0 0)]])]) (fun b=>[(9,.mpt 0 0 0)]) (fun b=>[some (10,[[sA [],.lit (.slice none 0 0),sA [],bA false,bA false,iA 0,iA 0,.lit (.slice none 0 0),.lit (.slice none 0 0),.lit (.slice none 0 0)]])]) (pG Tryz.f160 (fun r=>.tup [sA r.1,.agg (zd r.2.1),bA r.2.2])) (zaf [.old 0]) ?_ ?_
 ·rintro C r h
  refine A ?_
  refine zf ?_
  refine zeh h y (fun m h=>?_) fun m h=>?_
  ·refine ze<|zf<|zi ?_
   obtain ⟨D,E,h⟩:=bs h
   refine A ?_
   obtain ⟨p,F,h⟩:=bs h
   refine A ?_
   obtain ⟨G,q,h⟩:=bs h
   refine rg y<|u<|ld ti y y<|u<|mv y<|u<|pc (zgH p.1 e q) y y y<|u<|asg y<|zx ?_
   obtain ⟨s,c,h⟩:=bs h
   refine rg y<|u<|mv y<|u<|geq ti y y<|u<|mv y<|ziU (x:=s) (j:=2) 7 y y y y y gpn (fun a=>by replace c:=bT a c;obtain ⟨v,f,c⟩:=bs c;obtain rfl:=sm c;exact g y a<|mv y<|g y a<|fa ti y y y<|g y a<|ld ti y y<|g y a<|mv y<|g y a<|ixI ti y ti y y y f<|g y a<|ldI ti y (zaj f).2.2 y<|g y a<|pc (zi7 v y) y y y<|zx (eg [34,35,36,37,38,39,40] 7 y y y y)) (fun hb=>(sm (bF hb c)).symm)<|zx ?_
   refine zeh h y (fun n h=>?_) fun n h=>?_
   ·obtain ⟨B,H,h⟩:=bs h
    refine rdA [(8,_),(9,_),(10,_)] [some (10,[(zd B)])] [7] [0,1,2,3,4,5,6] [(8,_),(47,_),(46,_),(45,_),(44,_),(43,_),(42,_)] 1 (zcq (z:=by exact ⟨(fun _ _=>⟨_,y,y,sto ti y y y<|⟨.any,[8],[(10,_)],y,y,y,t,zcw (z:=zaf [.old 0])⟩⟩),t⟩)) ?_
    refine zy ?_
    obtain rfl:=sm h
    exact ⟨_,y,_,y,zad []⟩
   ·refine ze<|A ?_
    obtain rfl:=sm h
    exact ⟨_,y,zo [.old 0]⟩
  ·refine zq ?_
   obtain rfl:=sm h
   exact ⟨y,_,y,zo [.old 0]⟩
 ·rintro ⟨⟩ rfl
  refine zn<|A ?_
  exact RT0⟩
def zgv(b:List za)(c:T2)(d:T0)(e:T0):Option (T0×zb×Bool):=
  (zaH b c d).bind fun f=>(ziS b c f e).bind fun a=>some (a.1,a.2.1,a.2.2)
instance (a:List za)(b:T2)(d:T0)(c:T0):PF Tryz.prog 95 [.ipt 2 [[.isl 6 (map zc a),.imp (map (rKV (fun x=>iA x)) b)]] 0 0,sA d,sA c] (zgv a b d c) (fun r=>(.tup [sA r.1,.agg (zd r.2.1),bA r.2.2])):=⟨fun r h=>by
 refine zh Tryz.func95 y kz y y<|A ?_
 obtain ⟨e,f,i,j,h⟩:=bs2 h
 refine A ?_
 refine u<|sx [] (za1 a b d f)<|zv (env0:=[(2,sA c),(7,.mpt 0 0 0),(9,.ipt 2 [[.isl 6 (map zc a),.imp (map (rKV (fun x=>iA x)) b)]] 0 0),(12,.msl 1 0 (length e))]) (st0:=[some (10,[[sA [],.lit (.slice none 0 0),sA [],bA false,bA false,iA 0,iA 0,.lit (.slice none 0 0),.lit (.slice none 0 0),.lit (.slice none 0 0)]]),some (1,map zw e)]) (zo [.old 0,.old 1])<|u<|mv y<|zv (env0:=[(7,.mpt 0 0 0),(9,.ipt 2 [[.isl 6 (map zc a),.imp (map (rKV (fun x=>iA x)) b)]] 0 0),(12,.isl 1 (map zw e)),(13,sA c)]) (st0:=[some (10,[[sA [],.lit (.slice none 0 0),sA [],bA false,bA false,iA 0,iA 0,.lit (.slice none 0 0),.lit (.slice none 0 0),.lit (.slice none 0 0)]])]) (zo [.old 0])<|A ?_
 exact RT0⟩
def zft(a:zb):Bool:=
  true
theorem znT(a:zb){r:Bool}(h:zft a=r):zam Tryz.prog 234 [.agg (zd a)] (bA r):=by
 refine zh Tryz.func234 y kz y y ?_
 unfold zft at h
 refine A ?_
 refine A ?_
 refine zy ?_
 obtain rfl:=h
 exact ⟨_,y,zad []⟩
instance (a:zb):PF Tryz.prog 234 [.agg (zd a)] (some (zft a)) bA:=.of fun _=>znT a
def zq9:Option (T0×zb×Bool):=
  some ([],(zb.mk [] [] [] false false 0 0 [] [] []),false)
def zfR(l:List za)(m:T2)(e:T1)(n:T0)(a:Int):Option (Sum (Int) (Sum (Unit) (T0×zb×Bool))):=
  cond (decide (a<(length e:Int))) ((idx e a).bind fun d=>(zO l m d).bind fun b=>(ze7 b.1 n).bind fun c=>(cond (decide (0≤c)) ((idx b.1.Methods c).bind fun f=>some (zft f)) (some false)).bind fun i=>cond i ((idx b.1.Methods c).bind fun j=>some (.inr (.inr (d,j,true)))) (some (.inl (IntKind.i64.wrap (a+1))))) (some (.inr (.inl ())))
def zkr(a:List za)(c:T2)(d:T1)(e:T0):Option (T0×zb×Bool):=
  (zl (fun z=>zfR a c d e z) 0).bind fun o=>zD o (fun b=>zq9) some
instance (i:List za)(l:T2)(d:T1)(e:T0):PF Tryz.prog 160 [.ipt 2 [[.isl 6 (map zc i),.imp (map (rKV (fun x=>iA x)) l)]] 0 0,.isl 1 (map zw d),sA e,.fn (.func 234) [] []] (zkr i l d e) (fun r=>(.tup [sA r.1,.agg (zd r.2.1),bA r.2.2])):=⟨fun r h=>by
 refine zh Tryz.func160 y kz y y<|A ?_
 refine zf<|A ?_
 obtain ⟨o,ho,h⟩:=bs h
 refine lpB ho (fun z=>[(0,.ipt 2 [[.isl 6 (map zc i),.imp (map (rKV (fun x=>iA x)) l)]] 0 0),(2,sA e),(3,.fn (.func 234) [] []),(9,.mpt 0 0 0),(16,.isl 1 (map zw d)),(17,iA (length d:Int)),(18,iA z)]) (fun z=>[some (10,[[sA [],.lit (.slice none 0 0),sA [],bA false,bA false,iA 0,iA 0,.lit (.slice none 0 0),.lit (.slice none 0 0),.lit (.slice none 0 0)]])]) (fun b=>[(9,.mpt 0 0 0)]) (fun b=>[some (10,[[sA [],.lit (.slice none 0 0),sA [],bA false,bA false,iA 0,iA 0,.lit (.slice none 0 0),.lit (.slice none 0 0),.lit (.slice none 0 0)]])]) (pG Tryz.f160 (fun r=>.tup [sA r.1,.agg (zd r.2.1),bA r.2.2])) (zaf [.old 0]) ?_ ?_
 ·rintro C r h
  refine A ?_
  refine zf ?_
  refine zeh h y (fun m h=>?_) fun m h=>?_
  ·refine ze<|zf<|zi ?_
   obtain ⟨D,E,h⟩:=bs h
   refine A ?_
   obtain ⟨p,F,h⟩:=bs h
   refine A ?_
   obtain ⟨G,q,h⟩:=bs h
   refine rg y<|u<|ld ti y y<|u<|mv y<|u<|pc (zgH p.1 e q) y y y<|u<|asg y<|zx ?_
   obtain ⟨s,c,h⟩:=bs h
   refine rg y<|u<|mv y<|u<|geq ti y y<|u<|mv y<|ziU (x:=s) (j:=2) 7 y y y y y gpn (fun a=>by replace c:=bT a c;obtain ⟨v,f,c⟩:=bs c;obtain rfl:=sm c;exact g y a<|mv y<|g y a<|fa ti y y y<|g y a<|ld ti y y<|g y a<|mv y<|g y a<|ixI ti y ti y y y f<|g y a<|ldI ti y (zaj f).2.2 y<|g y a<|pc (znT v y) y y y<|zx (eg [34,35,36,37,38,39,40] 7 y y y y)) (fun hb=>(sm (bF hb c)).symm)<|zx ?_
   refine zeh h y (fun n h=>?_) fun n h=>?_
   ·obtain ⟨B,H,h⟩:=bs h
    refine rdA [(8,_),(9,_),(10,_)] [some (10,[(zd B)])] [7] [0,1,2,3,4,5,6] [(8,_),(47,_),(46,_),(45,_),(44,_),(43,_),(42,_)] 1 (zcq (z:=by exact ⟨(fun _ _=>⟨_,y,y,sto ti y y y<|⟨.any,[8],[(10,_)],y,y,y,t,zcw (z:=zaf [.old 0])⟩⟩),t⟩)) ?_
    refine zy ?_
    obtain rfl:=sm h
    exact ⟨_,y,_,y,zad []⟩
   ·refine ze<|A ?_
    obtain rfl:=sm h
    exact ⟨_,y,zo [.old 0]⟩
  ·refine zq ?_
   obtain rfl:=sm h
   exact ⟨y,_,y,zo [.old 0]⟩
 ·rintro ⟨⟩ rfl
  refine zn<|A ?_
  exact RT0⟩
def ziR(a:List za)(b:T2)(c:T0)(e:T0):Option (T0×zb×Bool):=
  (zO a b c).bind fun f=>cond (!f.1.Interface) (some ([],(zb.mk [] [] [] false false 0 0 [] [] []),false)) ((zdZ a b c).bind fun i=>(zh9 16 [c] i).bind fun j=>(zkr a b j e).bind fun d=>some (d.1,d.2.1,d.2.2))
instance (a:List za)(b:T2)(c:T0)(d:T0):PF Tryz.prog 163 [.ipt 2 [[.isl 6 (map zc a),.imp (map (rKV (fun x=>iA x)) b)]] 0 0,sA c,sA d] (ziR a b c d) (fun r=>(.tup [sA r.1,.agg (zd r.2.1),bA r.2.2])):=⟨fun r h=>by
 refine zh Tryz.func163 y kz y y<|A ?_
 obtain ⟨n,o,h⟩:=bs h
 refine A ?_
 refine zf<|A ?_
 refine zeh h y (fun e h=>?_) fun e h=>?_
 ·refine A ?_
  exact RT0
 ·refine ze ?_
  obtain ⟨p,i,j,m,q,s,h⟩:=bs3 h
  refine A ?_
  refine u<|sx [] (zgM a b c i)<|u<|apM (l:=[c]) (f:=zw) 4 ti y ti y y (by decide) ti y y y y (roM y) (fun _=>y) y m<|u<|mv y<|zv (env0:=[(7,.mpt 0 0 0),(21,.ipt 2 [[.isl 6 (map zc a),.imp (map (rKV (fun x=>iA x)) b)]] 0 0),(27,.isl 1 (map zw j)),(28,sA d)]) (st0:=[some (10,[[sA [],.lit (.slice none 0 0),sA [],bA false,bA false,iA 0,iA 0,.lit (.slice none 0 0),.lit (.slice none 0 0),.lit (.slice none 0 0)]])]) (zo [.old 0])<|A ?_
  exact RT0⟩
def za2(e:List za)(f:T2)(i:T0)(j:zb)(l:T1)(b:zb)(c:T1)(a:Bool):Option (T1×Bool):=
  cond (!(b.Ret == [86])) ((zB e f i j l c a b.Ret).bind fun d=>some (d,a)) (some (c,a))
def zbF(b:List za)(c:T2)(e:T0)(i:zb)(j:T1)(m:zp)(n:T0)(f:zb)(d:T1×Bool)(o:Bool):Option (T1×Bool):=
  cond o ((zJ b c e i j d.1 d.2 [m.C]).bind fun l=>za2 b c e i j f l.1 l.2) (cond (m.Op == (44:Int)) ((zak b c e i j d.1 d.2).bind fun a=>(zfq b c a.1 m.C).bind fun p=>cond p ((zfq b c a.1 e).bind fun q=>cond q ((zaH b c e).bind fun s=>(zP s n).bind fun v=>za2 b c e i j f a.2.1 (a.2.2||(!v))) (za2 b c e i j f a.2.1 (a.2.2||(!false)))) (za2 b c e i j f a.2.1 (a.2.2||(!false)))) (za2 b c e i j f d.1 d.2))
def zb8(e:List za)(f:T2)(i:T0)(j:zb)(l:T1)(n:T1)(o:Bool)(b:zp)(c:T0)(a:zb)(m:Bool):Option (T1×Bool):=
  (zJ e f i j l n (o||(!(m&&(a.Static == (b.Op == (42:Int)))))) a.Params).bind fun d=>cond (b.Op == (43:Int)) (zbF e f i j l b c a d (b.Op == (43:Int))) (zbF e f i j l b c a d (b.Op == (45:Int)))
def zdw(c:List za)(d:T2)(f:T0)(i:zb)(j:T1)(l:T1)(m:Bool)(a:zp):Option (T1×Bool):=
  (zgv c d a.C a.M).bind fun e=>cond (a.Op == (45:Int)) ((ziR c d a.C a.M).bind fun b=>zb8 c d f i j l m a b.1 b.2.1 b.2.2) (zb8 c d f i j l m a e.1 e.2.1 (e.2.2&&(!e.2.1.Abstract)))
theorem zmr(c:List za)(d:T2)(e:T0)(f:zb)(i:T1)(p:T1)(q:Bool)(l:zp){r:T1×Bool}(h:zdw c d e f i p q l=some r):SC Tryz.prog 145 [.mpt 0 0 0,.agg (zt l)] (tV c d e f i p q []) (.tup []) (tU c d e f i r.1 r.2 []):=by
 refine ⟨⟨t,zia (sz:=1) (fun _=>y),t,zia (sz:=1) (fun _=>y),t⟩,zX Tryz.func145 y kz y ?_⟩
 refine A ?_
 obtain ⟨E,q1,h⟩:=bs h
 refine rdA [(0,_),(3,_),(4,_),(5,_),(6,_)] (sV c d e f i p q [some (4,[(zt l)]),some (10,[(zd E.2.1)])]) [13,15] [0,1,2,3,4,5,6,7,8,9,10,11,12] [(20,_),(19,_),(18,_),(8,_),(17,_),(16,_),(15,_),(14,_),(13,_),(12,_),(11,_),(10,_),(9,_)] 2 (zcq (z:=by exact ⟨(fun _ _=>⟨_,y,y,al 4 ti y<|⟨(.mpt 4 0 0),[14],[(4,_),(5,_)],y,y,y,y,zcq (z:=by exact ⟨nv,(fun _ _=>⟨_,y,y,sto ti y y y<|⟨.any,[16],[(6,_)],y,y,y,t,zcw (z:=zaf [.old 0,.old 1,.old 2,.old 3,.old 4])⟩⟩),t⟩)⟩⟩),nw,t⟩)) ?_
 refine A ?_
 refine zal (X:=T0×zb×Bool) (fun z=>[(0,.mpt 0 0 0),(3,.mpt 3 0 0),(4,sA z.1),(5,.mpt 4 0 0),(6,bA z.2.2)]) (fun z=>(sV c d e f i p q [some (4,[(zt l)]),some (10,[(zd z.2.1)])])) (fun z=>zb8 c d e f i p q l z.1 z.2.1 z.2.2=some r) ?_ ?_
 ·refine A ?_
  refine zeh h y (fun N h=>?_) fun N h=>?_
  ·obtain ⟨v,q4,h⟩:=bs h
   refine zjQ [(0,_),(3,_),(4,_),(5,_),(6,_)] (sV c d e f i p q [some (4,[(zt l)]),some (10,[(zd v.2.1)])]) [14] [0,1,2,3,4,5,6,7,8,9,10,11,12,13] [(4,_),(42,_),(41,_),(40,_),(30,_),(39,_),(38,_),(37,_),(36,_),(35,_),(34,_),(33,_),(32,_),(31,_)] 1 (zcq (z:=by exact ⟨(fun _ _=>⟨_,y,y,sto ti y y y<|⟨.any,[15],[(6,_)],y,y,y,t,zcw (z:=zaf [.old 0,.old 1,.old 2,.old 3,.old 4])⟩⟩),t⟩)) ?_
   exact ⟨⟨v.1,v.2.1,v.2.2⟩,h,zo [.old 0,.old 1,.old 2,.old 3,.old 4]⟩
  ·refine ze ?_
   exact ⟨⟨E.1,E.2.1,(E.2.2&&(!E.2.1.Abstract))⟩,h,zo [.old 0,.old 1,.old 2,.old 3,.old 4]⟩
 ·rintro ⟨o,j,F⟩ h
  refine A ?_
  refine u<|sx [0,1,2] (zu c d e f i p q (F&&(j.Static == (l.Op == (42:Int)))) y)<|zv (env0:=[(0,.mpt 0 0 0),(3,.mpt 3 0 0),(4,sA o),(5,.mpt 4 0 0)]) (st0:=(sV c d e f i p (q||(!(F&&(j.Static == (l.Op == (42:Int)))))) [some (4,[(zt l)]),some (10,[(zd j)])])) (zo [.old 0,.old 1,.old 2,.old 3,.old 4])<|zx ?_
  obtain ⟨m,W,h⟩:=bs h
  refine A ?_
  refine u<|sx [0,1,2] (zG c d e f i p (q||(!(F&&(j.Static == (l.Op == (42:Int)))))) j.Params W)<|zv (env0:=[(0,.mpt 0 0 0),(3,.mpt 3 0 0),(4,sA o),(5,.mpt 4 0 0)]) (st0:=(sV c d e f i m.1 m.2 [some (4,[(zt l)]),some (10,[(zd j)])])) (zo [.old 0,.old 1,.old 2,.old 3,.old 4])<|zx ?_
  refine zal (X:=T1×Bool) (fun z=>[(0,.mpt 0 0 0),(5,.mpt 3 0 0)]) (fun z=>(sV c d e f i z.1 z.2 [some (10,[(zd j)])])) (fun z=>za2 c d e f i j z.1 z.2=some r) ?_ ?_
  ·refine A ?_
   refine zi ?_
   refine zal (X:=Bool) (fun z=>[(0,.mpt 0 0 0),(3,.mpt 3 0 0),(4,sA o),(5,.mpt 4 0 0),(59,iA l.Op),(60,bA z)]) (fun z=>(sV c d e f i m.1 m.2 [some (4,[(zt l)]),some (10,[(zd j)])])) (fun z=>zbF c d e f i l o j m z=some r) ?_ ?_
   ·refine A ?_
    refine zeh h y (fun O h=>?_) fun O h=>?_
    ·refine ze ?_
     exact ⟨(l.Op == (43:Int)),h,zo [.old 0,.old 1,.old 2,.old 3,.old 4]⟩
    ·refine A ?_
     exact (⟨(l.Op == (45:Int)),h,zo [.old 0,.old 1,.old 2,.old 3,.old 4]⟩)
   ·rintro Z h
    refine zeh h y (fun P h=>?_) fun P h=>?_
    ·obtain ⟨B,Y,h⟩:=bs h
     refine A ?_
     exact zv (env0:=[(0,.mpt 0 0 0),(5,.mpt 3 0 0),(63,.mpt 0 0 0),(66,.isl 1 (map zw [l.C]))]) (st0:=(sV c d e f i m.1 m.2 [some (10,[(zd j)])])) (zo [.old 0,.old 1,.old 2,.old 4])<|u<|sx [0,1,2] (zG c d e f i m.1 m.2 [l.C] Y)<|zv (env0:=[(0,.mpt 0 0 0),(5,.mpt 3 0 0)]) (st0:=(sV c d e f i B.1 B.2 [some (10,[(zd j)])])) (zo [.old 0,.old 1,.old 2,.old 3])<|zx (⟨⟨B.1,B.2⟩,h,zo [.old 0,.old 1,.old 2,.old 3]⟩)
    ·refine A ?_
     refine zeh h y (fun L h=>?_) fun L h=>?_
     ·obtain ⟨a,Q,h⟩:=bs h
      refine rg y<|u<|mv y<|u<|sx [0,1,2] (zaC c d e f i m.1 m.2 Q)<|zv (env0:=[(0,.mpt 0 0 0),(3,.mpt 3 0 0),(4,sA o),(5,.mpt 4 0 0),(71,sA a.1)]) (st0:=(sV c d e f i a.2.1 a.2.2 [some (4,[(zt l)]),some (10,[(zd j)])])) (zo [.old 0,.old 1,.old 2,.old 3,.old 4])<|A ?_
      obtain ⟨G,I,h⟩:=bs h
      rcases bb G with s |s
      ·replace h:=bT s h
       obtain ⟨H,q14,h⟩:=bs h
       rcases bb H with n |n
       ·replace h:=bT n h
        obtain ⟨J,R,D,S,h⟩:=bs2 h
        refine zjQ [(0,.mpt 0 0 0),(5,.mpt 3 0 0)] (sV c d e f i a.2.1 (a.2.2||(!D)) [some (10,[(zd j)])]) [30,34] [0,1,2,3,4,5,6,7,8,9,10,11,12,13,14,15,16,17,18,19,20,21,22,23,24,25,26,27,28,29,31] [(103,_),(101,_),(100,_),(99,_),(98,_),(97,_),(96,_),(95,_),(94,_),(93,_),(92,_),(91,_),(90,_),(89,_),(88,_),(87,_),(86,_),(85,_),(84,_),(83,_),(82,_),(81,_),(80,_),(79,_),(78,_),(77,_),(76,_),(75,_),(74,_),(73,_),(72,_)] 2 (zcq (z:=by exact ⟨(fun _ _=>⟨_,y,cg (b:=H) y n,sx [] (za1 c d e R)<|⟨(.msl 5 0 (length J)),[32,33],[(105,_),(104,_),(102,_)],y,y,y,y,zcq ⟨(by exact fun _=>pag (b:=H) y y y y n y (pcs (zaw J o S) y y (.cons (zhE y (fun _=>y)) (.cons (si y) .nil)) zbI<|w)),peC,peC,peC,peC,peC,peC,peC,peC,peC,peC,peC,peC,peC,peC,peC,peC,peC,peC,peC,peC,peC,peC,peC,peC,peC,peC,peC,peC,peC,peC,peC,peC,t⟩ (by exact ⟨nv,(fun _ _=>⟨_,y,y,sc [0,1,2] (args:=[.mpt 0 0 0,bA D]) (zu c d e f i a.2.1 a.2.2 D y) y y y y ⟨(.mpt y),(rnI y),t⟩ ⟨⟨_,y,(zya y ⟨(.msl y),(.msl y),(rnI y),t⟩)⟩,⟨y,mkI (fun _=>y)⟩,⟨y,mkI (fun _=>y)⟩,t⟩<|⟨(.tup []),[],[(106,_)],y,y,y,y,zcw (z:=zaf [.old 0,.old 1,.old 2,.old 4])⟩⟩),t⟩)⟩⟩),nw,t⟩)) ?_
        exact ⟨⟨a.2.1,(a.2.2||(!D))⟩,h,zo [.old 0,.old 1,.old 2,.old 3]⟩
       ·replace h:=bF n h
        refine zjQ [(0,.mpt 0 0 0),(5,.mpt 3 0 0)] (sV c d e f i a.2.1 (a.2.2||(!false)) [some (10,[(zd j)])]) [34] [0,1,2,3,4,5,6,7,8,9,10,11,12,13,14,15,16,17,18,19,20,21,22,23,24,25,26,27,28,29,30,31,32,33] [(105,_),(104,_),(103,_),(102,_),(101,_),(100,_),(99,_),(98,_),(97,_),(96,_),(95,_),(94,_),(93,_),(92,_),(91,_),(90,_),(89,_),(88,_),(87,_),(86,_),(85,_),(84,_),(83,_),(82,_),(81,_),(80,_),(79,_),(78,_),(77,_),(76,_),(75,_),(74,_),(73,_),(72,_)] 1 (zcq (z:=by exact ⟨(fun _ _=>⟨_,y,y,sc [0,1,2] (args:=[.mpt 0 0 0,bA false]) (zu c d e f i a.2.1 a.2.2 false y) y y y y ⟨(.mpt y),(rnI y),t⟩ ⟨⟨_,y,(zya y ⟨(.msl y),(.msl y),(rnI y),t⟩)⟩,⟨y,mkI (fun _=>y)⟩,⟨y,mkI (fun _=>y)⟩,t⟩<|⟨(.tup []),[],[(106,_)],y,y,y,y,zcw (z:=zaf [.old 0,.old 1,.old 2,.old 4])⟩⟩),t⟩)) ?_
        exact ⟨⟨a.2.1,(a.2.2||(!false))⟩,h,zo [.old 0,.old 1,.old 2,.old 3]⟩
      ·replace h:=bF s h
       refine zjQ [(0,.mpt 0 0 0),(5,.mpt 3 0 0)] (sV c d e f i a.2.1 (a.2.2||(!false)) [some (10,[(zd j)])]) [34] [33,32,31,30,29,28,27,26,25,24,23,22,21,20,19,18,17,16,15,14,13,12,11,10,9,8,7,6,5,4,3,2,1,0] [(105,bA false),(104,.lit undef),(103,.lit undef),(102,.lit undef),(101,.lit undef),(100,.lit undef),(99,.lit undef),(98,.lit undef),(97,.lit undef),(96,.lit undef),(95,.lit undef),(94,.lit undef),(93,bA false),(92,bA false),(91,.lit undef),(90,.lit undef),(89,.lit undef),(88,.lit undef),(87,.lit undef),(86,.lit undef),(85,.lit undef),(84,.lit undef),(83,.lit undef),(82,.lit undef),(81,bA G),(80,bA G),(79,sA l.C),(78,.mpt 3 0 2),(77,sA a.1),(76,.ipt 2 [[.isl 6 (map zc c),.imp (map (rKV (fun x=>iA x)) d)]] 0 0),(75,.mpt 0 0 0),(74,.mpt 0 0 0),(73,.mpt 0 0 0),(72,.mpt 0 0 0)] 1 (zwp ⟨pe,pe,pe,pe,pe,pe,pe,pe,pe,pe,pe,pe,pe,pe,pe,pe,pe,pe,pe,pe,pe,pe,pe,pe,pe,(pb y (pc (zja c d a.1 l.C I) y y y w)),(pb y (ld ti y y w)),(pb y (fa ti y y y w)),pe,(pb y (ld ti y y w)),(pb y (fa ti y y y w)),pe,pe,pe,t⟩ ⟨(fun _ _=>⟨_,y,y,sc [0,1,2] (args:=[.mpt 0 0 0,bA false]) (zu c d e f i a.2.1 a.2.2 false y) y y y y ⟨(.mpt y),(rnI y),t⟩ ⟨⟨_,y,(zya y ⟨(.msl y),(.msl y),(rnI y),t⟩)⟩,⟨y,mkI (fun _=>y)⟩,⟨y,mkI (fun _=>y)⟩,t⟩<|⟨(.tup []),[],[(106,.tup [])],y,y,kz,y,zvj ⟨pe,pe,pe,pe,pe,pe,pe,pe,pe,pe,pe,pe,pe,pe,pe,pe,pe,pe,pe,pe,pe,pe,pe,pe,pe,(pb y (pc (zja c d a.1 l.C I) y y y w)),(pb y (ld ti y y w)),(pb y (fa ti y y y w)),pe,(pb y (ld ti y y w)),(pb y (fa ti y y y w)),pe,pe,pe,t⟩ (zo [.old 0,.old 1,.old 2,.old 4])⟩⟩),t⟩) ?_
       exact ⟨⟨a.2.1,(a.2.2||(!false))⟩,h,zo [.old 0,.old 1,.old 2,.old 3]⟩
     ·refine ze ?_
      exact ⟨⟨m.1,m.2⟩,h,zo [.old 0,.old 1,.old 2,.old 4]⟩
  ·rintro ⟨T,K⟩ h
   refine A ?_
   refine zeh h y (fun M h=>?_) fun M h=>?_
   ·obtain ⟨U,V,h⟩:=bs h
    refine A ?_
    refine u<|sx [0,1,2] (zA c d e f i T K j.Ret V)<|zv (env0:=[]) (st0:=(sU c d e f i U K [])) (zo [.old 0,.old 1,.dead,.old 4])<|zx ?_
    obtain rfl:=sm h
    exact ⟨_,y,zad [.old 0,.old 1,.dead,.old 3]⟩
   ·refine ze ?_
    obtain rfl:=sm h
    exact ⟨_,y,zad [.old 0,.old 1,.dead,.old 2]⟩
def zd8(e:List za)(f:T2)(i:T0)(a:zb)(j:T1)(c:T1)(d:Bool)(l:Int):Option (T1×Bool):=
  cond (l == (46:Int)) (some (c,(d||(!(a.Ret == [86]))))) (cond (l == (47:Int)) ((zJ e f i a j c (d||(!(a.Ret == [73]))) ([[73]])).bind fun m=>some (m.1,m.2)) ((zlx a.Ret).bind fun n=>(zJ e f i a j c (d||(!n)) [a.Ret]).bind fun b=>some (b.1,b.2)))
theorem znj(b:List za)(c:T2)(d:T0)(a:zb)(e:T1)(f:T1)(i:Bool)(m:Int){r:T1×Bool}(h:zd8 b c d a e f i m=some r):SC Tryz.prog 146 [.mpt 0 0 0,iA m] (tV b c d a e f i []) (.tup []) (tV b c d a e r.1 r.2 []):=by
 refine ⟨⟨t,zia (sz:=1) (fun _=>y),zia (sz:=1) (fun _=>y),t⟩,zX Tryz.func146 y kz y ?_⟩
 refine zi<|A ?_
 refine zeh h y (fun n h=>?_) fun n h=>?_
 ·refine A ?_
  refine u<|sx [0,1,2] (zu b c d a e f i (a.Ret == [86]) y)<|zv (env0:=[]) (st0:=(sV b c d a e f (i||(!(a.Ret == [86]))) [])) (zo [.old 0,.old 1,.old 2])<|zx ?_
  obtain rfl:=sm h
  exact ⟨_,y,zad [.old 0,.old 1,.old 2]⟩
 ·refine A ?_
  refine zeh h y (fun o h=>?_) fun o h=>?_
  ·refine A ?_
   refine u<|sx [0,1,2] (zu b c d a e f i (a.Ret == [73]) y)<|zv (env0:=[(0,.mpt 0 0 0)]) (st0:=(sV b c d a e f (i||(!(a.Ret == [73]))) [])) (zo [.old 0,.old 1,.old 2])<|zx ?_
   obtain ⟨p,q,h⟩:=bs h
   refine A ?_
   refine zv (env0:=[(42,.mpt 0 0 0),(43,.isl 1 (map zw ([[73]])))]) (st0:=(sV b c d a e f (i||(!(a.Ret == [73]))) [])) (zo [.old 0,.old 1,.old 2])<|u<|sx [0,1,2] (zG b c d a e f (i||(!(a.Ret == [73]))) ([[73]]) q)<|zv (env0:=[]) (st0:=(sV b c d a e p.1 p.2 [])) (zo [.old 0,.old 1,.old 2])<|zx ?_
   obtain rfl:=sm h
   exact ⟨_,y,zad [.old 0,.old 1,.old 2]⟩
  ·obtain ⟨j,v,h⟩:=bs h
   refine A ?_
   refine u<|sx [0,1,2] (zu b c d a e f i j y)<|zv (env0:=[(0,.mpt 0 0 0)]) (st0:=(sV b c d a e f (i||(!j)) [])) (zo [.old 0,.old 1,.old 2])<|zx ?_
   obtain ⟨l,s,h⟩:=bs h
   refine A ?_
   refine zv (env0:=[(12,.mpt 0 0 0),(18,.isl 1 (map zw [a.Ret]))]) (st0:=(sV b c d a e f (i||(!j)) [])) (zo [.old 0,.old 1,.old 2])<|u<|sx [0,1,2] (zG b c d a e f (i||(!j)) [a.Ret] s)<|zv (env0:=[]) (st0:=(sV b c d a e l.1 l.2 [])) (zo [.old 0,.old 1,.old 2])<|zx ?_
   obtain rfl:=sm h
   exact ⟨_,y,zad [.old 0,.old 1,.old 2]⟩
def zns(a:T0):Option (T0):=
  (ziH a).bind fun b=>(cond (!b) (some true) ((zCw [91] a).bind fun c=>(ziH c).bind fun d=>some (!d))).bind fun e=>cond e (some []) ((zCw [91] a).bind fun f=>some f)
instance (a:T0):PF Tryz.prog 214 [sA a] (zns a) sA:=⟨fun r h=>by
 refine zh Tryz.func214 y kz y y<|A ?_
 refine zf ?_
 obtain ⟨c,d,e,f,h⟩:=bs2 h
 refine A ?_
 refine zeh h y (fun b h=>?_) fun b h=>?_
 ·refine A ?_
  exact RT0
 ·refine ze ?_
  obtain ⟨i,j,h⟩:=bs h
  refine A ?_
  exact RT0⟩
def zej(c:List za)(d:T2)(e:T0)(f:zb)(i:T1)(j:T1)(l:Bool):Option (T0×T1×Bool):=
  (zak c d e f i j l).bind fun a=>(zhh a.1).bind fun b=>cond (a.1 == [78]) (some (a.1,a.2.1,(a.2.2||(!((a.1 == [78])||(b.2&&(!(b.1 == [73])))))))) (some (b.1,a.2.1,(a.2.2||(!((a.1 == [78])||(b.2&&(!(b.1 == [73]))))))))
theorem zh8(b:List za)(c:T2)(d:T0)(e:zb)(f:T1)(j:T1)(l:Bool){r:T0×T1×Bool}(h:zej b c d e f j l=some r):SC Tryz.prog 215 [.mpt 0 0 0] (tV b c d e f j l []) (sA r.1) (tV b c d e f r.2.1 r.2.2 []):=by
 refine ⟨⟨t,zia (sz:=1) (fun _=>y),zia (sz:=1) (fun _=>y),t⟩,zX Tryz.func215 y kz y ?_⟩
 refine A ?_
 obtain ⟨a,n,h⟩:=bs h
 refine rg y<|u<|mv y<|u<|sx [0,1,2] (zaC b c d e f j l n)<|zv (env0:=[(0,.mpt 0 0 0),(7,sA a.1)]) (st0:=(sV b c d e f a.2.1 a.2.2 [])) (zo [.old 0,.old 1,.old 2])<|A ?_
 obtain ⟨i,o,h⟩:=bs h
 refine A ?_
 refine A ?_
 refine u<|sx [0,1,2] (zu b c d e f a.2.1 a.2.2 ((a.1 == [78])||(i.2&&(!(i.1 == [73])))) y)<|zv (env0:=[(3,sA a.1),(4,sA i.1)]) (st0:=(sV b c d e f a.2.1 (a.2.2||(!((a.1 == [78])||(i.2&&(!(i.1 == [73])))))) [])) (zo [.old 0,.old 1,.old 2])<|zx ?_
 refine zf<|A ?_
 refine zeh h y (fun m h=>?_) fun m h=>?_
 ·refine A ?_
  exact RT3
 ·refine ze<|A ?_
  exact RT3
def zaB(a:List za)(b:T2)(c:T0)(d:zb)(e:T1)(i:T1)(j:Bool)(l:zp):Option (T1×Bool):=
  cond (l.Op == (49:Int)) ((zJ a b c d e i j ([[73]])).bind fun E=>(zB a b c d e E.1 E.2 [91,73]).bind fun F=>some (F,E.2)) (cond (l.Op == (50:Int)) ((zns l.C).bind fun n=>(cond (!(n == [])) ((zdD a b n).bind fun G=>some G) (some false)).bind fun H=>(zJ a b c d e i (j||(!H)) ([[73]])).bind fun o=>(zB a b c d e o.1 o.2 n).bind fun I=>some (I,o.2)) (cond (l.Op == (51:Int)) ((zak a b c d e i j).bind fun f=>(zhh f.1).bind fun q=>(zB a b c d e f.2.1 (f.2.2||(!(q.2||(f.1 == [78])))) [73]).bind fun J=>some (J,(f.2.2||(!(q.2||(f.1 == [78])))))) (cond (l.Op == (52:Int)) ((zJ a b c d e i j ([[91,73],[73]])).bind fun p=>(zB a b c d e p.1 p.2 [73]).bind fun K=>some (K,p.2)) (cond (l.Op == (53:Int)) ((zJ a b c d e i j ([[91,73],[73],[73]])).bind fun s=>some (s.1,s.2)) (cond (l.Op == (54:Int)) ((zJ a b c d e i j ([[73]])).bind fun v=>(zej a b c d e v.1 v.2).bind fun m=>(zB a b c d e m.2.1 m.2.2 m.1).bind fun L=>some (L,m.2.2)) ((zb6 a b c d e i j).bind fun x=>(zJ a b c d e x.2.1 x.2.2 ([[73]])).bind fun B=>(zej a b c d e B.1 B.2).bind fun D=>some (D.2.1,D.2.2)))))))
theorem zlc(a:List za)(b:T2)(c:T0)(d:zb)(e:T1)(i:T1)(j:Bool)(I:zp){r:T1×Bool}(h:zaB a b c d e i j I=some r):SC Tryz.prog 147 [.mpt 0 0 0,.agg (zt I)] (tV a b c d e i j []) (.tup []) (tU a b c d e r.1 r.2 []):=by
 refine ⟨⟨t,zia (sz:=1) (fun _=>y),t,zia (sz:=1) (fun _=>y),t⟩,zX Tryz.func147 y kz y ?_⟩
 refine A ?_
 refine A ?_
 refine zi<|A ?_
 refine zeh h y (fun J h=>?_) fun J h=>?_
 ·obtain ⟨B,q2,h⟩:=bs h
  refine A ?_
  refine zv (env0:=[(0,.mpt 0 0 0),(19,.mpt 0 0 0),(20,.isl 1 (map zw ([[73]])))]) (st0:=(sV a b c d e i j [])) (zo [.old 0,.old 1,.old 2])<|u<|sx [0,1,2] (zG a b c d e i j ([[73]]) q2)<|zv (env0:=[(0,.mpt 0 0 0)]) (st0:=(sV a b c d e B.1 B.2 [])) (zo [.old 0,.old 1,.old 2])<|zx ?_
  obtain ⟨K,q3,h⟩:=bs h
  refine rl y<|u<|mv y<|u<|sx [0,1,2] (zA a b c d e B.1 B.2 [91,73] q3)<|zv (env0:=[]) (st0:=(sU a b c d e K B.2 [])) (zo [.old 0,.old 1,.dead,.old 3])<|zx ?_
  obtain rfl:=sm h
  exact ⟨_,y,zad [.old 0,.old 1,.dead,.old 3]⟩
 ·refine A ?_
  refine zeh h y (fun L h=>?_) fun L h=>?_
  ·obtain ⟨p,q5,h⟩:=bs h
   refine A ?_
   obtain ⟨q,q8,h⟩:=bs h
   refine A ?_
   refine u<|sx [0,1,2] (zu a b c d e i j q y)<|zv (env0:=[(0,.mpt 0 0 0),(4,sA p)]) (st0:=(sV a b c d e i (j||(!q)) [])) (zo [.old 0,.old 1,.old 2])<|zx ?_
   obtain ⟨n,q9,h⟩:=bs h
   refine A ?_
   refine zv (env0:=[(0,.mpt 0 0 0),(4,sA p),(41,.mpt 0 0 0),(42,.isl 1 (map zw ([[73]])))]) (st0:=(sV a b c d e i (j||(!q)) [])) (zo [.old 0,.old 1,.old 2])<|u<|sx [0,1,2] (zG a b c d e i (j||(!q)) ([[73]]) q9)<|zv (env0:=[(0,.mpt 0 0 0),(4,sA p)]) (st0:=(sV a b c d e n.1 n.2 [])) (zo [.old 0,.old 1,.old 2])<|zx ?_
   obtain ⟨M,N,h⟩:=bs h
   refine A ?_
   refine u<|sx [0,1,2] (zA a b c d e n.1 n.2 p N)<|zv (env0:=[]) (st0:=(sU a b c d e M n.2 [])) (zo [.old 0,.old 1,.dead,.old 3])<|zx ?_
   obtain rfl:=sm h
   exact ⟨_,y,zad [.old 0,.old 1,.dead,.old 3]⟩
  ·refine A ?_
   refine zeh h y (fun E h=>?_) fun E h=>?_
   ·obtain ⟨f,O,h⟩:=bs h
    refine rg y<|u<|mv y<|u<|sx [0,1,2] (zaC a b c d e i j O)<|zv (env0:=[(0,.mpt 0 0 0),(50,sA f.1)]) (st0:=(sV a b c d e f.2.1 f.2.2 [])) (zo [.old 0,.old 1,.old 2])<|A ?_
    obtain ⟨s,q13,h⟩:=bs h
    refine A ?_
    refine A ?_
    refine u<|sx [0,1,2] (zu a b c d e f.2.1 f.2.2 (s.2||(f.1 == [78])) y)<|zv (env0:=[(0,.mpt 0 0 0)]) (st0:=(sV a b c d e f.2.1 (f.2.2||(!(s.2||(f.1 == [78])))) [])) (zo [.old 0,.old 1,.old 2])<|zx ?_
    obtain ⟨P,Q,h⟩:=bs h
    refine rl y<|u<|mv y<|u<|sx [0,1,2] (zA a b c d e f.2.1 (f.2.2||(!(s.2||(f.1 == [78])))) [73] Q)<|zv (env0:=[]) (st0:=(sU a b c d e P (f.2.2||(!(s.2||(f.1 == [78])))) [])) (zo [.old 0,.old 1,.dead,.old 3])<|zx ?_
    obtain rfl:=sm h
    exact ⟨_,y,zad [.old 0,.old 1,.dead,.old 3]⟩
   ·refine A ?_
    refine zeh h y (fun F h=>?_) fun F h=>?_
    ·obtain ⟨o,R,h⟩:=bs h
     refine A ?_
     refine zv (env0:=[(0,.mpt 0 0 0),(67,.mpt 0 0 0),(68,.isl 1 (map zw ([[91,73],[73]])))]) (st0:=(sV a b c d e i j [])) (zo [.old 0,.old 1,.old 2])<|u<|sx [0,1,2] (zG a b c d e i j ([[91,73],[73]]) R)<|zv (env0:=[(0,.mpt 0 0 0)]) (st0:=(sV a b c d e o.1 o.2 [])) (zo [.old 0,.old 1,.old 2])<|zx ?_
     obtain ⟨S,T,h⟩:=bs h
     refine rl y<|u<|mv y<|u<|sx [0,1,2] (zA a b c d e o.1 o.2 [73] T)<|zv (env0:=[]) (st0:=(sU a b c d e S o.2 [])) (zo [.old 0,.old 1,.dead,.old 3])<|zx ?_
     obtain rfl:=sm h
     exact ⟨_,y,zad [.old 0,.old 1,.dead,.old 3]⟩
    ·refine A ?_
     refine zeh h y (fun G h=>?_) fun G h=>?_
     ·obtain ⟨C,U,h⟩:=bs h
      refine A ?_
      refine zv (env0:=[(74,.mpt 0 0 0),(75,.isl 1 (map zw ([[91,73],[73],[73]])))]) (st0:=(sV a b c d e i j [])) (zo [.old 0,.old 1,.old 2])<|u<|sx [0,1,2] (zG a b c d e i j ([[91,73],[73],[73]]) U)<|zv (env0:=[]) (st0:=(sV a b c d e C.1 C.2 [])) (zo [.old 0,.old 1,.old 2])<|zx ?_
      obtain rfl:=sm h
      exact ⟨_,y,zad [.old 0,.old 1,.dead,.old 2]⟩
     ·refine A ?_
      refine zeh h y (fun H h=>?_) fun H h=>?_
      ·obtain ⟨v,V,h⟩:=bs h
       refine A ?_
       refine zv (env0:=[(0,.mpt 0 0 0),(79,.mpt 0 0 0),(80,.isl 1 (map zw ([[73]])))]) (st0:=(sV a b c d e i j [])) (zo [.old 0,.old 1,.old 2])<|u<|sx [0,1,2] (zG a b c d e i j ([[73]]) V)<|zv (env0:=[(0,.mpt 0 0 0)]) (st0:=(sV a b c d e v.1 v.2 [])) (zo [.old 0,.old 1,.old 2])<|zx ?_
       obtain ⟨l,W,X,Y,h⟩:=bs2 h
       refine rl y<|u<|mv y<|u<|mv y<|u<|sx [0,1,2] (zh8 a b c d e v.1 v.2 W)<|zv (env0:=[(82,.mpt 0 0 0),(84,sA l.1)]) (st0:=(sV a b c d e l.2.1 l.2.2 [])) (zo [.old 0,.old 1,.old 2])<|u<|sx [0,1,2] (zA a b c d e l.2.1 l.2.2 l.1 Y)<|zv (env0:=[]) (st0:=(sU a b c d e X l.2.2 [])) (zo [.old 0,.old 1,.dead,.old 3])<|zx ?_
       obtain rfl:=sm h
       exact ⟨_,y,zad [.old 0,.old 1,.dead,.old 3]⟩
      ·obtain ⟨m,Z,h⟩:=bs h
       refine rg y<|u<|mv y<|u<|sx [0,1,2] (zdY a b c d e i j Z)<|zv (env0:=[(0,.mpt 0 0 0)]) (st0:=(sV a b c d e m.2.1 m.2.2 [])) (zo [.old 0,.old 1,.old 2])<|zx ?_
       obtain ⟨x,q26,h⟩:=bs h
       refine A ?_
       refine zv (env0:=[(0,.mpt 0 0 0),(12,.mpt 0 0 0),(13,.isl 1 (map zw ([[73]])))]) (st0:=(sV a b c d e m.2.1 m.2.2 [])) (zo [.old 0,.old 1,.old 2])<|u<|sx [0,1,2] (zG a b c d e m.2.1 m.2.2 ([[73]]) q26)<|zv (env0:=[(0,.mpt 0 0 0)]) (st0:=(sV a b c d e x.1 x.2 [])) (zo [.old 0,.old 1,.old 2])<|zx ?_
       obtain ⟨D,q27,h⟩:=bs h
       refine rl y<|u<|mv y<|u<|sx [0,1,2] (zh8 a b c d e x.1 x.2 q27)<|zv (env0:=[]) (st0:=(sV a b c d e D.2.1 D.2.2 [])) (zo [.old 0,.old 1,.old 2])<|zx ?_
       obtain rfl:=sm h
       exact ⟨_,y,zad [.old 0,.old 1,.dead,.old 2]⟩
def za3(b:List za)(c:T2)(e:T0)(f:zb)(i:T1)(m:T1)(j:Bool)(l:zp)(v:Bool):Option (T1×Bool):=
  cond v ((zb6 b c e f i m j).bind fun a=>(zdD b c l.C).bind fun d=>cond (l.Op == (56:Int)) ((zB b c e f i a.2.1 (a.2.2||(!d)) l.C).bind fun p=>some (p,(a.2.2||(!d)))) ((zB b c e f i a.2.1 (a.2.2||(!d)) [73]).bind fun q=>some (q,(a.2.2||(!d))))) (cond (l.Op == (58:Int)) ((zJ b c e f i m j ([[84,104,114,111,119,110]])).bind fun n=>some (n.1,n.2)) (cond (l.Op == (59:Int)) ((zB b c e f i m j [73]).bind fun s=>some (s,j)) ((zJ b c e f i m j ([[73]])).bind fun o=>some (o.1,o.2))))
def zbS(b:List za)(c:T2)(d:T0)(e:zb)(f:T1)(i:T1)(j:Bool)(a:zp):Option (T1×Bool):=
  cond (a.Op == (56:Int)) (za3 b c d e f i j a (a.Op == (56:Int))) (za3 b c d e f i j a (a.Op == (57:Int)))
theorem zmt(a:List za)(b:T2)(c:T0)(d:zb)(e:T1)(j:T1)(i:Bool)(l:zp){r:T1×Bool}(h:zbS a b c d e j i l=some r):SC Tryz.prog 148 [.mpt 0 0 0,.agg (zt l)] (tV a b c d e j i []) (.tup []) (tU a b c d e r.1 r.2 []):=by
 refine ⟨⟨t,zia (sz:=1) (fun _=>y),t,zia (sz:=1) (fun _=>y),t⟩,zX Tryz.func148 y kz y ?_⟩
 refine A ?_
 refine A ?_
 refine zi ?_
 refine zal (X:=Bool) (fun z=>[(0,.mpt 0 0 0),(3,.mpt 3 0 0),(5,iA l.Op),(9,bA z)]) (fun z=>(sV a b c d e j i [some (4,[(zt l)])])) (fun z=>za3 a b c d e j i l z=some r) ?_ ?_
 ·refine A ?_
  refine zeh h y (fun q h=>?_) fun q h=>?_
  ·refine ze ?_
   exact ⟨(l.Op == (56:Int)),h,zo [.old 0,.old 1,.old 2,.old 3]⟩
  ·refine A ?_
   exact (⟨(l.Op == (57:Int)),h,zo [.old 0,.old 1,.old 2,.old 3]⟩)
 ·rintro L h
  refine zeh h y (fun s h=>?_) fun s h=>?_
  ·obtain ⟨f,H,h⟩:=bs h
   refine rg y<|u<|mv y<|u<|sx [0,1,2] (zdY a b c d e j i H)<|zv (env0:=[(0,.mpt 0 0 0),(3,.mpt 3 0 0)]) (st0:=(sV a b c d e f.2.1 f.2.2 [some (4,[(zt l)])])) (zo [.old 0,.old 1,.old 2,.old 3])<|zx ?_
   obtain ⟨m,M,h⟩:=bs h
   refine rdA [(0,_),(3,_)] (sV a b c d e f.2.1 (f.2.2||(!m)) [some (4,[(zt l)])]) [8] [0,1,2,3,4,5,6,7] [(21,_),(20,_),(19,_),(18,_),(17,_),(16,_),(15,_),(14,_)] 1 (zcq (z:=by exact ⟨(fun _ _=>⟨_,y,y,sx [0,1,2] (zu a b c d e f.2.1 f.2.2 m y)<|⟨(.tup []),[],[(22,_)],y,y,y,y,zcw (z:=zaf [.old 0,.old 1,.old 2,.old 3])⟩⟩),t⟩)) ?_
   refine A ?_
   refine zeh h y (fun v h=>?_) fun v h=>?_
   ·obtain ⟨x,I,h⟩:=bs h
    refine A ?_
    refine u<|sx [0,1,2] (zA a b c d e f.2.1 (f.2.2||(!m)) l.C I)<|zv (env0:=[]) (st0:=(sU a b c d e x (f.2.2||(!m)) [])) (zo [.old 0,.old 1,.dead,.old 4])<|zx ?_
    obtain rfl:=sm h
    exact ⟨_,y,zad [.old 0,.old 1,.dead,.old 3]⟩
   ·obtain ⟨B,J,h⟩:=bs h
    refine rl y<|u<|mv y<|u<|sx [0,1,2] (zA a b c d e f.2.1 (f.2.2||(!m)) [73] J)<|zv (env0:=[]) (st0:=(sU a b c d e B (f.2.2||(!m)) [])) (zo [.old 0,.old 1,.dead,.old 4])<|zx ?_
    obtain rfl:=sm h
    exact ⟨_,y,zad [.old 0,.old 1,.dead,.old 3]⟩
  ·refine A ?_
   refine zeh h y (fun D h=>?_) fun D h=>?_
   ·obtain ⟨n,K,h⟩:=bs h
    refine A ?_
    refine zv (env0:=[(34,.mpt 0 0 0),(35,.isl 1 (map zw ([[84,104,114,111,119,110]])))]) (st0:=(sV a b c d e j i [])) (zo [.old 0,.old 1,.old 2])<|u<|sx [0,1,2] (zG a b c d e j i ([[84,104,114,111,119,110]]) K)<|zv (env0:=[]) (st0:=(sV a b c d e n.1 n.2 [])) (zo [.old 0,.old 1,.old 2])<|zx ?_
    obtain rfl:=sm h
    exact ⟨_,y,zad [.old 0,.old 1,.dead,.old 2]⟩
   ·refine A ?_
    refine zeh h y (fun p h=>?_) fun p h=>?_
    ·obtain ⟨E,F,h⟩:=bs h
     refine rl y<|u<|mv y<|u<|sx [0,1,2] (zA a b c d e j i [73] F)<|zv (env0:=[]) (st0:=(sU a b c d e E i [])) (zo [.old 0,.old 1,.dead,.old 4])<|zx ?_
     obtain rfl:=sm h
     exact ⟨_,y,zad [.old 0,.old 1,.dead,.old 3]⟩
    ·obtain ⟨o,G,h⟩:=bs h
     refine A ?_
     refine zv (env0:=[(6,.mpt 0 0 0),(7,.isl 1 (map zw ([[73]])))]) (st0:=(sV a b c d e j i [])) (zo [.old 0,.old 1,.old 2])<|u<|sx [0,1,2] (zG a b c d e j i ([[73]]) G)<|zv (env0:=[]) (st0:=(sV a b c d e o.1 o.2 [])) (zo [.old 0,.old 1,.old 2])<|zx ?_
     obtain rfl:=sm h
     exact ⟨_,y,zad [.old 0,.old 1,.dead,.old 2]⟩
def zg(c:List za)(d:T2)(e:T0)(f:zb)(a:T1)(i:T1)(j:Bool)(b:zp):Option (T1×T1×Bool):=
  cond (zaA b.Op 1 7) ((zaY c d e f a i j b).bind fun E=>some (E.1,E.2.1,E.2.2)) (cond (b.Op == (13:Int)) ((zJ c d e f a i j ([[73]])).bind fun l=>(zB c d e f a l.1 l.2 [73]).bind fun F=>some (a,F,l.2)) (cond (zaA b.Op 8 19) ((zJ c d e f a i j ([[73],[73]])).bind fun m=>(zB c d e f a m.1 m.2 [73]).bind fun G=>some (a,G,m.2)) (cond (b.Op == (20:Int)) (some (a,i,j)) (cond (zaA b.Op 21 26) ((zJ c d e f a i j ([[73]])).bind fun n=>some (a,n.1,n.2)) (cond (zaA b.Op 27 32) ((zJ c d e f a i j ([[73],[73]])).bind fun o=>some (a,o.1,o.2)) (cond (zaA b.Op 33 34) ((zb6 c d e f a i j).bind fun p=>some (a,p.2.1,p.2.2)) (cond (zaA b.Op 35 36) ((zb6 c d e f a i j).bind fun q=>(zb6 c d e f a q.2.1 q.2.2).bind fun s=>some (a,s.2.1,s.2.2)) (cond ((b.Op == (37:Int))||(zaA b.Op 38 41)) ((zek c d e f a i j b).bind fun v=>some (a,v.1,v.2)) (cond (zaA b.Op 42 45) ((zdw c d e f a i j b).bind fun x=>some (a,x.1,x.2)) (cond (zaA b.Op 46 48) ((zd8 c d e f a i j b.Op).bind fun B=>some (a,B.1,B.2)) (cond (zaA b.Op 49 55) ((zaB c d e f a i j b).bind fun C=>some (a,C.1,C.2)) ((zbS c d e f a i j b).bind fun D=>some (a,D.1,D.2)))))))))))))
theorem zni(a:List za)(b:T2)(c:T0)(d:zb)(e:T1)(f:T1)(i:Bool)(j:zp){r:T1×T1×Bool}(h:zg a b c d e f i j=some r):SC Tryz.prog 86 [.mpt 0 0 0,.agg (zt j)] (tV a b c d e f i []) (.tup []) [.one 15 (vK a b c d (.msl 3 0 (length r.1)) (.msl 4 0 (length r.2.1)) (bA r.2.2)),.no,.no,.many 1 (map zw r.1),.many 1 (map zw r.2.1)]:=by
 refine ⟨⟨t,t,t,zia (sz:=1) (fun _=>y),zia (sz:=1) (fun _=>y),t⟩,zX Tryz.func86 y kz y ?_⟩
 refine A ?_
 refine A ?_
 refine zi<|A ?_
 refine zeh h y (fun N h=>?_) fun N h=>?_
 ·obtain ⟨o,q2,h⟩:=bs h
  refine A ?_
  refine u<|sx [0,1,2] (zms a b c d e f i j q2)<|zv (env0:=[]) (st0:=[some (15,[(vK a b c d (.msl 3 0 (length o.1)) (.msl 4 0 (length o.2.1)) (bA o.2.2))]),none,none,some (1,map zw o.1),some (1,map zw o.2.1)]) (zo [.old 0,.dead,.dead,.old 4,.old 5])<|zx ?_
  obtain rfl:=sm h
  exact ⟨_,y,zad [.old 0,.dead,.dead,.old 3,.old 4]⟩
 ·refine A ?_
  refine zeh h y (fun O h=>?_) fun O h=>?_
  ·obtain ⟨l,q4,h⟩:=bs h
   refine A ?_
   refine zv (env0:=[(0,.mpt 0 0 0),(19,.mpt 0 0 0),(20,.isl 1 (map zw ([[73]])))]) (st0:=(sV a b c d e f i [])) (zo [.old 0,.old 1,.old 2])<|u<|sx [0,1,2] (zG a b c d e f i ([[73]]) q4)<|zv (env0:=[(0,.mpt 0 0 0)]) (st0:=(sV a b c d e l.1 l.2 [])) (zo [.old 0,.old 1,.old 2])<|zx ?_
   obtain ⟨P,q5,h⟩:=bs h
   refine rl y<|u<|mv y<|u<|sx [0,1,2] (zA a b c d e l.1 l.2 [73] q5)<|zv (env0:=[]) (st0:=(sU a b c d e P l.2 [])) (zo [.old 0,.old 1,.dead,.old 3])<|zx ?_
   obtain rfl:=sm h
   exact ⟨_,y,zad [.old 0,.dead,.dead,.old 1,.old 3]⟩
  ·refine A ?_
   refine zeh h y (fun Q h=>?_) fun Q h=>?_
   ·obtain ⟨m,q7,h⟩:=bs h
    refine A ?_
    refine zv (env0:=[(0,.mpt 0 0 0),(27,.mpt 0 0 0),(28,.isl 1 (map zw ([[73],[73]])))]) (st0:=(sV a b c d e f i [])) (zo [.old 0,.old 1,.old 2])<|u<|sx [0,1,2] (zG a b c d e f i ([[73],[73]]) q7)<|zv (env0:=[(0,.mpt 0 0 0)]) (st0:=(sV a b c d e m.1 m.2 [])) (zo [.old 0,.old 1,.old 2])<|zx ?_
    obtain ⟨R,q8,h⟩:=bs h
    refine rl y<|u<|mv y<|u<|sx [0,1,2] (zA a b c d e m.1 m.2 [73] q8)<|zv (env0:=[]) (st0:=(sU a b c d e R m.2 [])) (zo [.old 0,.old 1,.dead,.old 3])<|zx ?_
    obtain rfl:=sm h
    exact ⟨_,y,zad [.old 0,.dead,.dead,.old 1,.old 3]⟩
   ·refine A ?_
    refine zeh h y (fun S h=>?_) fun S h=>?_
    ·refine ze ?_
     obtain rfl:=sm h
     exact ⟨_,y,zad [.old 0,.dead,.dead,.old 1,.old 2]⟩
    ·refine A ?_
     refine zeh h y (fun F h=>?_) fun F h=>?_
     ·obtain ⟨p,T,h⟩:=bs h
      refine A ?_
      refine zv (env0:=[(38,.mpt 0 0 0),(39,.isl 1 (map zw ([[73]])))]) (st0:=(sV a b c d e f i [])) (zo [.old 0,.old 1,.old 2])<|u<|sx [0,1,2] (zG a b c d e f i ([[73]]) T)<|zv (env0:=[]) (st0:=(sV a b c d e p.1 p.2 [])) (zo [.old 0,.old 1,.old 2])<|zx ?_
      obtain rfl:=sm h
      exact ⟨_,y,zad [.old 0,.dead,.dead,.old 1,.old 2]⟩
     ·refine A ?_
      refine zeh h y (fun G h=>?_) fun G h=>?_
      ·obtain ⟨q,U,h⟩:=bs h
       refine A ?_
       refine zv (env0:=[(44,.mpt 0 0 0),(45,.isl 1 (map zw ([[73],[73]])))]) (st0:=(sV a b c d e f i [])) (zo [.old 0,.old 1,.old 2])<|u<|sx [0,1,2] (zG a b c d e f i ([[73],[73]]) U)<|zv (env0:=[]) (st0:=(sV a b c d e q.1 q.2 [])) (zo [.old 0,.old 1,.old 2])<|zx ?_
       obtain rfl:=sm h
       exact ⟨_,y,zad [.old 0,.dead,.dead,.old 1,.old 2]⟩
      ·refine A ?_
       refine zeh h y (fun H h=>?_) fun H h=>?_
       ·obtain ⟨s,V,h⟩:=bs h
        refine rl y<|u<|mv y<|u<|sx [0,1,2] (zdY a b c d e f i V)<|zv (env0:=[]) (st0:=(sV a b c d e s.2.1 s.2.2 [])) (zo [.old 0,.old 1,.old 2])<|zx ?_
        obtain rfl:=sm h
        exact ⟨_,y,zad [.old 0,.dead,.dead,.old 1,.old 2]⟩
       ·refine A ?_
        refine zeh h y (fun I h=>?_) fun I h=>?_
        ·obtain ⟨n,W,h⟩:=bs h
         refine rg y<|u<|mv y<|u<|sx [0,1,2] (zdY a b c d e f i W)<|zv (env0:=[(0,.mpt 0 0 0)]) (st0:=(sV a b c d e n.2.1 n.2.2 [])) (zo [.old 0,.old 1,.old 2])<|zx ?_
         obtain ⟨v,X,h⟩:=bs h
         refine rl y<|u<|mv y<|u<|sx [0,1,2] (zdY a b c d e n.2.1 n.2.2 X)<|zv (env0:=[]) (st0:=(sV a b c d e v.2.1 v.2.2 [])) (zo [.old 0,.old 1,.old 2])<|zx ?_
         obtain rfl:=sm h
         exact ⟨_,y,zad [.old 0,.dead,.dead,.old 1,.old 2]⟩
        ·refine A ?_
         refine zeh h y (fun J h=>?_) fun J h=>?_
         ·obtain ⟨x,Y,h⟩:=bs h
          refine A ?_
          refine u<|sx [0,1,2] (zlU a b c d e f i j Y)<|zv (env0:=[]) (st0:=(sU a b c d e x.1 x.2 [])) (zo [.old 0,.old 1,.dead,.old 4])<|zx ?_
          obtain rfl:=sm h
          exact ⟨_,y,zad [.old 0,.dead,.dead,.old 1,.old 3]⟩
         ·refine A ?_
          refine zeh h y (fun K h=>?_) fun K h=>?_
          ·obtain ⟨B,Z,h⟩:=bs h
           refine A ?_
           refine u<|sx [0,1,2] (zmr a b c d e f i j Z)<|zv (env0:=[]) (st0:=(sU a b c d e B.1 B.2 [])) (zo [.old 0,.old 1,.dead,.old 4])<|zx ?_
           obtain rfl:=sm h
           exact ⟨_,y,zad [.old 0,.dead,.dead,.old 1,.old 3]⟩
          ·refine A ?_
           refine zeh h y (fun L h=>?_) fun L h=>?_
           ·obtain ⟨C,q25,h⟩:=bs h
            refine rl y<|u<|mv y<|u<|mv y<|u<|sx [0,1,2] (znj a b c d e f i j.Op q25)<|zv (env0:=[]) (st0:=(sV a b c d e C.1 C.2 [])) (zo [.old 0,.old 1,.old 2])<|zx ?_
            obtain rfl:=sm h
            exact ⟨_,y,zad [.old 0,.dead,.dead,.old 1,.old 2]⟩
           ·refine A ?_
            refine zeh h y (fun M h=>?_) fun M h=>?_
            ·obtain ⟨D,q27,h⟩:=bs h
             refine A ?_
             refine u<|sx [0,1,2] (zlc a b c d e f i j q27)<|zv (env0:=[]) (st0:=(sU a b c d e D.1 D.2 [])) (zo [.old 0,.old 1,.dead,.old 4])<|zx ?_
             obtain rfl:=sm h
             exact ⟨_,y,zad [.old 0,.dead,.dead,.old 1,.old 3]⟩
            ·obtain ⟨E,q28,h⟩:=bs h
             refine A ?_
             refine u<|sx [0,1,2] (zmt a b c d e f i j q28)<|zv (env0:=[]) (st0:=(sU a b c d e E.1 E.2 [])) (zo [.old 0,.old 1,.dead,.old 4])<|zx ?_
             obtain rfl:=sm h
             exact ⟨_,y,zad [.old 0,.dead,.dead,.old 1,.old 3]⟩
def zlb(b:T1)(c:T1)(a:Bool):Option (Bool):=
  some (!a)
def ze5(e:zb)(b:Int)(c:zp)(a:T1×T1×Bool)(d:Bool):Option (Sum (T1×T1×Bool×Bool×Int) (Sum (T1×T1×Bool) (Bool))):=
  some (.inl (a.1,a.2.1,(d||(!(decide (((length a.2.1):Int)≤e.Stack)))),(!(zjP c.Op)),(IntKind.i64.wrap (b+1))))
def zaG(i:T0)(d:zH)(e:zb)(j:T1)(m:T1)(n:Bool)(o:Bool)(a:Int):Option (Sum (T1×T1×Bool×Bool×Int) (Sum (T1×T1×Bool) (Bool))):=
  cond (decide (a<(length e.Code:Int))) ((idx e.Code a).bind fun f=>(zfE d.l d.at_ i e j m n a o).bind fun b=>cond b.2.2 (some (.inr (.inr false))) ((zel d.l d.at_ i e b.1 b.2.1 b.2.2 a).bind fun p=>(zg d.l d.at_ i e b.1 b.2.1 p f).bind fun c=>cond (zfA f.Op) ((zdy d.l d.at_ i e c.1 c.2.1 c.2.2 f.A).bind fun q=>ze5 e a f c q) (ze5 e a f c c.2.2))) (some (.inr (.inl (j,m,n))))
def zqi(e:T0)(f:zH)(i:zb)(a:Bool)(c:Bool)(d:T1):Option (Bool):=
  (zl (fun z=>zaG e f i z.1 z.2.1 z.2.2.1 z.2.2.2.1 z.2.2.2.2) (d,[],(a||(!c)),true,0)).bind fun o=>zD o (fun b=>zlb b.1 b.2.1 b.2.2) some
def zjd(c:zb)(a:T1):Option (Sum (T1) (Sum (T1) (Bool))):=
  cond (decide (((length a):Int)<c.Locals)) ((zh9 16 a ([[84]])).bind fun b=>some (.inl b)) (some (.inr (.inl a)))
def zgq(i:T0)(j:zH)(a:zb)(c:Bool)(d:Bool)(e:T1):Option (Bool):=
  (zh9 16 e a.Params).bind fun f=>(zl (fun z=>zjd a z) f).bind fun o=>zD o (fun b=>zqi i j a c d b) some
def zgp(e:T0)(a:zH)(b:zb)(c:Bool):Option (Bool):=
  (zh7 b.Params a.l a.at_).bind fun d=>cond (!b.Static) ((zh9 16 ([]:T1) [e]).bind fun f=>zgq e a b c d f) (zgq e a b c d [])
def zjc(d:T0)(b:zH)(a:zb)(c:Bool):Option (Bool):=
  cond (a.Ret == [86]) (zgp d b a (c||(!true))) ((zch b.l b.at_ a.Ret a.Ret).bind fun e=>zgp d b a (c||(!e)))
def zed(b:zH)(e:zb)(c:Bool)(a:Int):Option (Sum (Bool×Int) (Sum (Bool) (Bool))):=
  cond (decide (a<(length e.Maps:Int))) ((idx e.Maps a).bind fun d=>(zjA d.Locals b.l b.at_).bind fun f=>(cond f ((zjA d.Stack b.l b.at_).bind fun i=>some i) (some false)).bind fun j=>some (.inl ((c||(!j)),(IntKind.i64.wrap (a+1))))) (some (.inr (.inl c)))
def zbX(i:Option zH)(e:T0)(a:Int):Option (Bool):=
  zuB i (none) (fun c=>(zO c.l c.at_ e).bind fun d=>(cond (((!d.2)||(decide (a<0)))||(decide ((length d.1.Methods:Int)≤a))) (some true) ((idx d.1.Methods a).bind fun j=>some j.Abstract)).bind fun m=>cond m (some false) ((idx d.1.Methods a).bind fun f=>(zl (fun z=>zed c f z.1 z.2) (false,0)).bind fun o=>zD o (fun b=>zjc e c f b) some))
theorem zc2(M:Option zH)(d:T0)(T:Int){r:Bool}(h:zbX M d T=some r):zam Tryz.prog 40 [ziT 2 zbl M,sA d,iA T] (bA r):=by
 refine zh Tryz.func40 y kz y y ?_
 unfold zbX at h
 rcases M with _ |a
 ·replace h:=oeN h
  cases h
 ·replace h:=oeS h
  refine A ?_
  obtain ⟨v5,q1,h⟩:=bs h
  refine rg y<|u<|ld ti y y<|u<|mv y<|u<|pc (ziO a.l a.at_ d q1) y y y<|u<|mv y<|u<|ex y y<|u<|ex y y<|u<|al 1 ti y<|u<|sto ti y y y<|u<|asg y<|zx ?_
  refine zf ?_
  obtain ⟨v7,q6,h⟩:=bs h
  refine A ?_
  refine zeh h y (fun U h=>?_) fun U h=>?_
  ·refine A ?_
   exact RT0
  ·refine ze ?_
   obtain ⟨c,q8,h⟩:=bs h
   refine rdA [(1,sA d),(3,.mpt 0 0 0),(9,.mpt 1 0 0)] [some (1,[[.ipt 2 [[.isl 6 (map zc a.l),.imp (map (rKV (fun x=>iA x)) a.at_)]] 0 0]]),some (15,[(vK a.l a.at_ d c (.lit (.slice none 0 0)) (.lit (.slice none 0 0)) (bA false))])] [8] [0,1,2,3,4,5,6,7] [(50,_),(49,_),(48,_),(47,_),(46,_),(45,_),(44,_),(43,_)] 1 (zcq (z:=by exact ⟨(fun _ _=>⟨_,y,y,bx 2 15 y y y y<|⟨(.mpt 2 0 0),[9],[(9,_),(51,_)],y,y,y,y,zcw (z:=zaf [.old 0,.old 2])⟩⟩),t⟩)) ?_
   refine zf<|A ?_
   obtain ⟨o,ho,h⟩:=bs h
   refine lpB ho (fun z=>[(1,sA d),(3,.mpt 0 0 0),(9,.mpt 1 0 0),(56,.isl 3 (map zK c.Maps)),(57,iA (length c.Maps:Int)),(58,iA z.2)]) (fun z=>[some (1,[[.ipt 2 [[.isl 6 (map zc a.l),.imp (map (rKV (fun x=>iA x)) a.at_)]] 0 0]]),some (15,[(vK a.l a.at_ d c (.msl 2 0 0) (.msl 3 0 0) (bA z.1))]),some (1,map zw []),some (1,map zw [])]) (fun b=>[(1,sA d),(3,.mpt 0 0 0),(9,.mpt 1 0 0)]) (fun b=>[some (1,[[.ipt 2 [[.isl 6 (map zc a.l),.imp (map (rKV (fun x=>iA x)) a.at_)]] 0 0]]),some (15,[(vK a.l a.at_ d c (.msl 2 0 0) (.msl 3 0 0) (bA b))]),some (1,map zw []),some (1,map zw [])]) (pG Tryz.f40 bA) ⟨[.old 0,.old 1,.fresh 1,.fresh 1],ce y y<|cv y (.mpt y)<|cv y (.mpt y)<|ce y y<|ce y y<|ce y y<|cn,y,⟨⟨_,y,zhR ⟨ci y,t⟩⟩,⟨_,y,zhR (zyO y (by exact ⟨.nilown y,.nilown y,ci y,t⟩))⟩,w,w,t⟩,y,k⟩ ?_ ?_
   ·rintro ⟨G,V⟩ r h
    refine A ?_
    refine zf ?_
    refine zeh h y (fun N h=>?_) fun N h=>?_
    ·refine ze<|zf<|zi ?_
     obtain ⟨H,q16,h⟩:=bs h
     refine A ?_
     refine A ?_
     obtain ⟨v18,W,E,B,h⟩:=bs2 h
     refine A ?_
     refine u<|pcs (zlS H.Locals a.l a.at_ W) y y (.cons (si y) (.cons (zfZ t ⟨(zbk y ⟨(si y),t⟩),t⟩) .nil)) zbI<|u<|mv y<|ziU (x:=E) (j:=5) 4 y y y y y gpn (fun v=>by replace B:=bT v B;obtain ⟨v19,Y,B⟩:=bs B;obtain rfl:=sm B;exact g y v<|fa ti y y y<|g y v<|ld ti y y<|g y v<|mv y<|g y v<|pcs (zlS H.Stack a.l a.at_ Y) y y (.cons (si y) (.cons (zfZ t ⟨(zbk y ⟨(si y),t⟩),t⟩) .nil)) zbI<|zx (eg [69,70,71,72] 4 y y y y)) (fun hb=>(sm (bF hb B)).symm)<|u<|sx [1,2,3] (zu a.l a.at_ d c [] [] G E y)<|zv (env0:=[(1,sA d),(3,.mpt 0 0 0),(9,.mpt 1 0 0),(56,.isl 3 (map zK c.Maps)),(57,iA (length c.Maps:Int)),(58,iA V)]) (st0:=[some (1,[[.ipt 2 [[.isl 6 (map zc a.l),.imp (map (rKV (fun x=>iA x)) a.at_)]] 0 0]]),some (15,[(vK a.l a.at_ d c (.msl 2 0 0) (.msl 3 0 0) (bA (G||(!E))))]),some (1,map zw []),some (1,map zw [])]) (zo [.old 0,.old 1,.old 2,.old 3])<|zx ?_
     refine A ?_
     obtain rfl:=sm h
     exact ⟨_,y,zo [.old 0,.old 1,.old 2,.old 3]⟩
    ·refine zq ?_
     obtain rfl:=sm h
     exact ⟨y,_,y,zo [.old 0,.old 1,.old 2,.old 3]⟩
   ·rintro D rfl
    refine zn ?_
    refine zal (X:=Bool) (fun z=>[(1,sA d),(3,.mpt 0 0 0),(9,.mpt 1 0 0)]) (fun z=>[some (1,[[.ipt 2 [[.isl 6 (map zc a.l),.imp (map (rKV (fun x=>iA x)) a.at_)]] 0 0]]),some (15,[(vK a.l a.at_ d c (.msl 2 0 0) (.msl 3 0 0) (bA z))]),some (1,map zw []),some (1,map zw [])]) (fun z=>zgp d a c z=some r) ?_ ?_
    ·rcases bb (c.Ret == [86]) with e |e
     ·replace h:=bT e h
      exact rdQ [21] [0,1,2,3,4,5,6,7,8,9,10,11,12,13,14,15,16,17,18,19,20] [(96,_),(95,_),(94,_),(93,_),(92,_),(91,_),(90,_),(89,_),(88,_),(87,_),(86,_),(85,_),(84,_),(83,_),(82,_),(81,_),(80,_),(79,_),(78,_),(77,_),(76,_)] 1 (zcq (z:=by exact ⟨(fun _ _=>⟨_,y,y,sc [1,2,3] (args:=[.mpt 1 0 0,bA true]) (zu a.l a.at_ d c [] [] D true y) y y y y ⟨(.mpt y),(rnI y),t⟩ ⟨⟨_,y,(zya y ⟨(.msl y),(.msl y),(rnI y),t⟩)⟩,⟨y,mkI (fun _=>y)⟩,⟨y,mkI (fun _=>y)⟩,t⟩<|⟨(.tup []),[],[(97,_)],y,y,y,y,zcw (z:=by exact ⟨(D||(!true)),h,zaf [.old 0,.old 1,.old 2,.old 3]⟩)⟩⟩),t⟩))
     ·replace h:=bF e h
      obtain ⟨C,Z,h⟩:=bs h
      exact zc1 [21] [20,19,18,17,16,15,14,13,12,11,10,9,8,7,6,5,4,3,2,1,0] [(96,bA C),(95,bA C),(94,sA c.Ret),(93,.mpt 1 0 4),(92,.mpt 1 0 2),(91,.mpt 1 0 0),(90,.mpt 1 0 0),(89,sA c.Ret),(88,.mpt 1 0 4),(87,.mpt 1 0 2),(86,.mpt 1 0 0),(85,.mpt 1 0 0),(84,.ipt 2 [[.isl 6 (map zc a.l),.imp (map (rKV (fun x=>iA x)) a.at_)]] 0 0),(83,bA (c.Ret == [86])),(82,bA (c.Ret == [86])),(81,sA c.Ret),(80,.mpt 1 0 4),(79,.mpt 1 0 2),(78,.mpt 1 0 0),(77,.mpt 1 0 0),(76,.mpt 1 0 0)] 1 kz kz y kz (zwp ⟨pe,(fun _=>pag (b:=(c.Ret == [86])) y y y y e y (pc (zc9 a.l a.at_ c.Ret c.Ret Z) y y y<|w)),(fun _=>pag (b:=(c.Ret == [86])) y y y y e y (ld ti y y<|w)),(fun _=>pag (b:=(c.Ret == [86])) y y y y e y (fa ti y y y<|w)),(fun _=>pag (b:=(c.Ret == [86])) y y y y e y (fa ti y y y<|w)),pe,pe,(fun _=>pag (b:=(c.Ret == [86])) y y y y e y (ld ti y y<|w)),(fun _=>pag (b:=(c.Ret == [86])) y y y y e y (fa ti y y y<|w)),(fun _=>pag (b:=(c.Ret == [86])) y y y y e y (fa ti y y y<|w)),pe,pe,(fun _=>pag (b:=(c.Ret == [86])) y y y y e y (ld ti y y<|w)),pe,(pb y (seq ti y y w)),(pb y (ld ti y y w)),(pb y (fa ti y y y w)),(pb y (fa ti y y y w)),pe,pe,pe,t⟩ ⟨(fun _ _=>⟨_,y,y,sc [1,2,3] (args:=[.mpt 1 0 0,bA C]) (zu a.l a.at_ d c [] [] D C y) y y y y ⟨(.mpt y),(rnI y),t⟩ ⟨⟨_,y,(zya y ⟨(.msl y),(.msl y),(rnI y),t⟩)⟩,⟨y,mkI (fun _=>y)⟩,⟨y,mkI (fun _=>y)⟩,t⟩<|⟨(.tup []),[],[(97,.tup [])],y,y,kz,y,zvj ⟨pe,pe,(fun _=>pag (b:=(c.Ret == [86])) y y y y e y (ld ti y y<|w)),(fun _=>pag (b:=(c.Ret == [86])) y y y y e y (fa ti y y y<|w)),(fun _=>pag (b:=(c.Ret == [86])) y y y y e y (fa ti y y y<|w)),pe,pe,(fun _=>pag (b:=(c.Ret == [86])) y y y y e y (ld ti y y<|w)),(fun _=>pag (b:=(c.Ret == [86])) y y y y e y (fa ti y y y<|w)),(fun _=>pag (b:=(c.Ret == [86])) y y y y e y (fa ti y y y<|w)),pe,pe,(fun _=>pag (b:=(c.Ret == [86])) y y y y e y (ld ti y y<|w)),pe,(pb y (seq ti y y w)),(pb y (ld ti y y w)),(pb y (fa ti y y y w)),(pb y (fa ti y y y w)),pe,pe,pe,t⟩ ⟨(D||(!C)),h,zo [.old 0,.old 1,.old 2,.old 3]⟩⟩⟩),t⟩)
    ·rintro p h
     obtain ⟨q,q23,h⟩:=bs h
     refine A ?_
     refine u<|pcs (zmb c.Params a.l a.at_ q23) y y (.cons (si y) (.cons (zfZ t ⟨(zbk y ⟨(si y),t⟩),t⟩) .nil)) zbI<|u<|sx [1,2,3] (zu a.l a.at_ d c [] [] p q y)<|zv (env0:=[(1,sA d),(9,.mpt 0 0 0)]) (st0:=[some (15,[(vK a.l a.at_ d c (.msl 1 0 0) (.msl 2 0 0) (bA (p||(!q))))]),some (1,map zw []),some (1,map zw [])]) (zo [.old 1,.old 2,.old 3])<|zx ?_
     refine zal (X:=T1) (fun z=>[(9,.mpt 0 0 0)]) (fun z=>[some (15,[(vK a.l a.at_ d c (.msl 1 0 (length z)) (.msl 2 0 0) (bA (p||(!q))))]),some (1,map zw z),some (1,map zw [])]) (fun z=>zgq d a c p q z=some r) ?_ ?_
     ·refine A ?_
      refine zeh h y (fun O h=>?_) fun O h=>?_
      ·obtain ⟨v25,q25,h⟩:=bs h
       refine A ?_
       refine u<|apM 4 ti y ti y y (by decide) ti y y y y (roX (f:=zw) (z:=[d]) y y) (fun _=>y) y q25<|A ?_
       exact (⟨v25,h,zo [.old 0,.old 4,.old 2]⟩)
      ·refine ze ?_
       exact ⟨[],h,zo [.old 0,.old 1,.old 2]⟩
     ·rintro v26 h
      obtain ⟨F,q26,h⟩:=bs h
      refine rdA [(9,_)] [some (15,[(vK a.l a.at_ d c (.msl 1 0 (length F)) (.msl 2 0 0) (bA (p||(!q))))]),some (1,map zw F),some (1,map zw [])] [10,13] [0,1,2,3,4,5,6,7,8,9] [(132,_),(131,_),(130,_),(129,_),(128,_),(127,_),(126,_),(125,_),(124,_),(123,_)] 2 (zcq (z:=by exact ⟨(fun _ _=>⟨_,y,y,apM 3 ti y ti y y (by decide) ti y y y y roI (fun _=>y) y q26<|⟨(.msl 3 0 (length F)),[11,12],[(135,_),(134,_),(133,_)],y,y,y,y,zcq (z:=by exact ⟨nv,(fun _ _=>⟨_,y,y,sto ti y y y<|⟨.any,[],[],y,y,y,t,zcw (z:=zaf [.old 0,.old 3,.old 2])⟩⟩),t⟩)⟩⟩),nw,t⟩)) ?_
      obtain ⟨o,ho,h⟩:=bs h
      refine lpA ho (fun z=>[(9,.mpt 0 0 0)]) (fun z=>[some (15,[(vK a.l a.at_ d c (.msl 1 0 (length z)) (.msl 2 0 0) (bA (p||(!q))))]),some (1,map zw z),some (1,map zw [])]) (fun b=>[(9,.mpt 0 0 0)]) (fun b=>[some (15,[(vK a.l a.at_ d c (.msl 1 0 (length b)) (.msl 2 0 0) (bA (p||(!q))))]),some (1,map zw b),some (1,map zw [])]) (pG Tryz.f40 bA) (zaf [.old 0,.old 1,.old 2]) ?_ ?_
      ·rintro I r h
       refine zf ?_
       refine rdA [(9,_),(146,_)] [some (15,[(vK a.l a.at_ d c (.msl 1 0 (length I)) (.msl 2 0 0) (bA (p||(!q))))]),some (1,map zw I),some (1,map zw [])] [] [0,1,2,3,4,5,6,7,8,9,10] [(146,_),(145,_),(144,_),(143,_),(142,_),(141,_),(140,_),(139,_),(138,_),(137,_),(136,_)] 0 (zcw (z:=zaf [.old 0,.old 1,.old 2])) ?_
       refine zeh h y (fun P h=>?_) fun P h=>?_
       ·refine ze<|zi ?_
        obtain ⟨v31,q30,h⟩:=bs h
        refine A ?_
        refine u<|apM 4 ti y ti y y (by decide) ti y y y y (roX (f:=zw) (z:=[[84]]) y y) (fun _=>y) y q30<|A ?_
        obtain rfl:=sm h
        exact ⟨_,y,zo [.old 0,.old 4,.old 2]⟩
       ·refine zq ?_
        obtain rfl:=sm h
        exact ⟨y,_,y,zo [.old 0,.old 1,.old 2]⟩
      ·rintro v32 rfl
       refine A ?_
       refine zf<|A ?_
       obtain ⟨o,ho,h⟩:=bs h
       refine lpB ho (fun z=>[(9,.mpt 0 0 0),(13,bA z.2.2.2.1),(160,.isl 4 (map zt c.Code)),(161,iA (length c.Code:Int)),(162,iA z.2.2.2.2)]) (fun z=>(sV a.l a.at_ d c z.1 z.2.1 z.2.2.1 [])) (fun b=>[(9,.mpt 0 0 0)]) (fun b=>(sV a.l a.at_ d c b.1 b.2.1 b.2.2 [])) (pG Tryz.f40 bA) (zaf [.old 0,.old 1,.old 2]) ?_ ?_
       ·rintro ⟨v44,v45,v46,v47,s⟩ r h
        refine A ?_
        refine zf ?_
        refine zeh h y (fun Q h=>?_) fun Q h=>?_
        ·refine ze<|zf<|zi ?_
         obtain ⟨n,q40,h⟩:=bs h
         refine A ?_
         obtain ⟨m,q41,h⟩:=bs h
         refine A ?_
         refine u<|sx [0,1,2] (zlT a.l a.at_ d c v44 v45 v46 s v47 q41)<|zv (env0:=[(9,.mpt 0 0 0),(14,iA s),(15,.mpt 3 0 0),(160,.isl 4 (map zt c.Code)),(161,iA (length c.Code:Int)),(162,iA s)]) (st0:=(sV a.l a.at_ d c m.1 m.2.1 m.2.2 [some (4,[(zt n)])])) (zo [.old 0,.old 4,.old 5,.old 3])<|zx ?_
         refine zf<|A ?_
         refine zeh h y (fun R h=>?_) fun R h=>?_
         ·refine A ?_
          refine zy ?_
          obtain rfl:=sm h
          exact ⟨_,y,_,y,zad []⟩
         ·refine ze ?_
          obtain ⟨J,q43,h⟩:=bs h
          refine rg y<|u<|mv y<|u<|mv y<|u<|sx [0,1,2] (zlW a.l a.at_ d c m.1 m.2.1 m.2.2 s q43)<|zv (env0:=[(9,.mpt 0 0 0),(15,.mpt 3 0 0),(160,.isl 4 (map zt c.Code)),(161,iA (length c.Code:Int)),(162,iA s)]) (st0:=(sV a.l a.at_ d c m.1 m.2.1 J [some (4,[(zt n)])])) (zo [.old 0,.old 1,.old 2,.old 3])<|zx ?_
          obtain ⟨i,q44,h⟩:=bs h
          refine A ?_
          refine u<|sx [0,1,2] (zni a.l a.at_ d c m.1 m.2.1 J n q44)<|zv (env0:=[(9,.mpt 0 0 0),(15,.mpt 3 0 0),(160,.isl 4 (map zt c.Code)),(161,iA (length c.Code:Int)),(162,iA s)]) (st0:=(sV a.l a.at_ d c i.1 i.2.1 i.2.2 [some (4,[(zt n)])])) (zo [.old 0,.old 4,.old 5,.old 3])<|zx ?_
          refine zal (X:=Bool) (fun z=>[(9,.mpt 0 0 0),(15,.mpt 3 0 0),(160,.isl 4 (map zt c.Code)),(161,iA (length c.Code:Int)),(162,iA s)]) (fun z=>(sV a.l a.at_ d c i.1 i.2.1 z [some (4,[(zt n)])])) (fun z=>ze5 c s n i z=some r) ?_ ?_
          ·refine A ?_
           refine zeh h y (fun S h=>?_) fun S h=>?_
           ·obtain ⟨K,q46,h⟩:=bs h
            refine zjQ [(9,_),(15,_),(160,_),(161,_),(162,_)] (sV a.l a.at_ d c i.1 i.2.1 K [some (4,[(zt n)])]) [7] [0,1,2,3,4,5,6] [(190,_),(189,_),(188,_),(187,_),(186,_),(185,_),(184,_)] 1 (zcq (z:=by exact ⟨(fun _ _=>⟨_,y,y,sx [0,1,2] (zij a.l a.at_ d c i.1 i.2.1 i.2.2 n.A q46)<|⟨(.tup []),[],[(191,_)],y,y,y,y,zcw (z:=zaf [.old 0,.old 1,.old 2,.old 3])⟩⟩),t⟩)) ?_
            exact ⟨K,h,zo [.old 0,.old 1,.old 2,.old 3]⟩
           ·refine ze ?_
            exact ⟨i.2.2,h,zo [.old 0,.old 1,.old 2,.old 3]⟩
          ·rintro L h
           refine rdA [(9,_),(15,_),(160,_),(161,_),(162,_)] (sV a.l a.at_ d c i.1 i.2.1 (L||(!(decide (((length i.2.1):Int)≤c.Stack)))) [some (4,[(zt n)])]) [12] [0,1,2,3,4,5,6,7,8,9,10,11] [(203,_),(202,_),(201,_),(200,_),(199,_),(198,_),(197,_),(196,_),(195,_),(194,_),(193,_),(192,_)] 1 (zcq (z:=by exact ⟨(fun _ _=>⟨_,y,y,sx [0,1,2] (zu a.l a.at_ d c i.1 i.2.1 L (decide (((length i.2.1):Int)≤c.Stack)) y)<|⟨(.tup []),[],[(204,_)],y,y,y,y,zcw (z:=zaf [.old 0,.old 1,.old 2,.old 3])⟩⟩),t⟩)) ?_
           refine A ?_
           refine A ?_
           obtain rfl:=sm h
           exact ⟨_,y,zo [.old 0,.old 1,.old 2]⟩
        ·refine zq ?_
         obtain rfl:=sm h
         exact ⟨y,_,y,zo [.old 0,.old 1,.old 2]⟩
       ·rintro ⟨v55,v56,v57⟩ rfl
        refine zn<|A ?_
        exact RT0
instance (a:Option zH)(b:T0)(c:Int):PF Tryz.prog 40 [ziT 2 zbl a,sA b,iA c] (zbX a b c) bA:=⟨fun _=>zc2 a b c⟩
def zoj:Option (Bool):=
  (zko ([(za.mk [70,97,99,101] [79,98,106,101,99,116] true [] [] ([(zb.mk [102] [] [73] false true 0 0 [] [] [])])),(za.mk [65,97] [79,98,106,101,99,116] false ([[70,97,99,101]]) ([(zk.mk [120] [73] false),(zk.mk [115] [73] true)]) ([(zb.mk [102] [] [73] false false 1 1 ([(zp.mk 1 5 [] []),(zp.mk 47 0 [] [])]) [] [])])),(za.mk [66,98] [65,97] false [] ([(zk.mk [121] [91,65,97] false)]) ([(zb.mk [109,97,105,110] [] [86] true false 0 0 ([(zp.mk 46 0 [] [])]) [] [])]))])).bind fun a=>(zko ([(za.mk [70,97,99,101] [79,98,106,101,99,116] true [] [] ([(zb.mk [102] [] [73] false true 0 0 [] [] [])])),(za.mk [65,97] [79,98,106,101,99,116] false ([[70,97,99,101]]) ([(zk.mk [120] [73] false),(zk.mk [115] [73] true)]) ([(zb.mk [102] [] [73] false false 1 1 ([(zp.mk 2 0 [] []),(zp.mk 47 0 [] [])]) [] [])])),(za.mk [66,98] [65,97] false [] ([(zk.mk [121] [91,65,97] false)]) ([(zb.mk [109,97,105,110] [] [86] true false 0 0 ([(zp.mk 46 0 [] [])]) [] [])]))])).bind fun b=>cond ((!(a.2 == (0:Int)))||(!(b.2 == (0:Int)))) (some false) ((cond (znt) ((zbX a.1 [65,97] 0).bind fun j=>some j) (some false)).bind fun l=>(cond l ((zbX a.1 [66,98] 0).bind fun m=>some m) (some false)).bind fun n=>(cond n ((zbX b.1 [65,97] 0).bind fun o=>some (!o)) (some false)).bind fun p=>(cond p ((zbX a.1 [70,97,99,101] 0).bind fun q=>some (!q)) (some false)).bind fun c=>(cond c ((zbX a.1 [65,97] 1).bind fun d=>some (!d)) (some false)).bind fun e=>(cond e ((zbX a.1 [90,122] 0).bind fun f=>some (!f)) (some false)).bind fun i=>some i)
theorem zrY{r:Bool}(h:zoj=some r):zam Tryz.prog 37 [] (bA r):=by
 refine zh Tryz.func37 y kz y y<|A ?_
 obtain ⟨f,H,h⟩:=bs h
 refine rg y<|u<|sx [] (zjM y)<|zv (env0:=[(7,.msl 0 0 3)]) (st0:=[some (6,[[sA [70,97,99,101],sA [79,98,106,101,99,116],bA true,.lit (.slice none 0 0),.lit (.slice none 0 0),.msl 1 0 1],[sA [65,97],sA [79,98,106,101,99,116],bA false,.msl 2 0 1,.msl 3 0 2,.msl 4 0 1],[sA [66,98],sA [65,97],bA false,.lit (.slice none 0 0),.msl 6 0 1,.msl 7 0 1]]),some (10,[[sA [102],.lit (.slice none 0 0),sA [73],bA false,bA true,iA 0,iA 0,.lit (.slice none 0 0),.lit (.slice none 0 0),.lit (.slice none 0 0)]]),some (1,[[sA [70,97,99,101]]]),some (3,[[sA [120],sA [73],bA false],[sA [115],sA [73],bA true]]),some (10,[[sA [102],.lit (.slice none 0 0),sA [73],bA false,bA false,iA 1,iA 1,.msl 5 0 2,.lit (.slice none 0 0),.lit (.slice none 0 0)]]),some (4,[[iA 1,iA 5,sA [],sA []],[iA 47,iA 0,sA [],sA []]]),some (3,[[sA [121],sA [91,65,97],bA false]]),some (10,[[sA [109,97,105,110],.lit (.slice none 0 0),sA [86],bA true,bA false,iA 0,iA 0,.msl 8 0 1,.lit (.slice none 0 0),.lit (.slice none 0 0)]]),some (4,[[iA 46,iA 0,sA [],sA []]])]) (zo [.old 0,.old 1,.old 2,.old 3,.old 4,.old 5,.old 6,.old 7,.old 8])<|zv (env0:=[(7,.isl 6 (map zc ([(za.mk [70,97,99,101] [79,98,106,101,99,116] true [] [] ([(zb.mk [102] [] [73] false true 0 0 [] [] [])])),(za.mk [65,97] [79,98,106,101,99,116] false ([[70,97,99,101]]) ([(zk.mk [120] [73] false),(zk.mk [115] [73] true)]) ([(zb.mk [102] [] [73] false false 1 1 ([(zp.mk 1 5 [] []),(zp.mk 47 0 [] [])]) [] [])])),(za.mk [66,98] [65,97] false [] ([(zk.mk [121] [91,65,97] false)]) ([(zb.mk [109,97,105,110] [] [86] true false 0 0 ([(zp.mk 46 0 [] [])]) [] [])]))])))]) (st0:=[]) (zo [])<|u<|pc (zof ([(za.mk [70,97,99,101] [79,98,106,101,99,116] true [] [] ([(zb.mk [102] [] [73] false true 0 0 [] [] [])])),(za.mk [65,97] [79,98,106,101,99,116] false ([[70,97,99,101]]) ([(zk.mk [120] [73] false),(zk.mk [115] [73] true)]) ([(zb.mk [102] [] [73] false false 1 1 ([(zp.mk 1 5 [] []),(zp.mk 47 0 [] [])]) [] [])])),(za.mk [66,98] [65,97] false [] ([(zk.mk [121] [91,65,97] false)]) ([(zb.mk [109,97,105,110] [] [86] true false 0 0 ([(zp.mk 46 0 [] [])]) [] [])]))]) H) y y y<|A ?_
 refine rg y<|u<|sx [] (zjM y)<|zv (env0:=[(1,ziT 2 zbl f.1),(2,iA f.2),(11,.msl 0 0 3)]) (st0:=[some (6,[[sA [70,97,99,101],sA [79,98,106,101,99,116],bA true,.lit (.slice none 0 0),.lit (.slice none 0 0),.msl 1 0 1],[sA [65,97],sA [79,98,106,101,99,116],bA false,.msl 2 0 1,.msl 3 0 2,.msl 4 0 1],[sA [66,98],sA [65,97],bA false,.lit (.slice none 0 0),.msl 6 0 1,.msl 7 0 1]]),some (10,[[sA [102],.lit (.slice none 0 0),sA [73],bA false,bA true,iA 0,iA 0,.lit (.slice none 0 0),.lit (.slice none 0 0),.lit (.slice none 0 0)]]),some (1,[[sA [70,97,99,101]]]),some (3,[[sA [120],sA [73],bA false],[sA [115],sA [73],bA true]]),some (10,[[sA [102],.lit (.slice none 0 0),sA [73],bA false,bA false,iA 1,iA 1,.msl 5 0 2,.lit (.slice none 0 0),.lit (.slice none 0 0)]]),some (4,[[iA 1,iA 5,sA [],sA []],[iA 47,iA 0,sA [],sA []]]),some (3,[[sA [121],sA [91,65,97],bA false]]),some (10,[[sA [109,97,105,110],.lit (.slice none 0 0),sA [86],bA true,bA false,iA 0,iA 0,.msl 8 0 1,.lit (.slice none 0 0),.lit (.slice none 0 0)]]),some (4,[[iA 46,iA 0,sA [],sA []]])]) (zo [.old 0,.old 1,.old 2,.old 3,.old 4,.old 5,.old 6,.old 7,.old 8])<|A ?_
 refine rg y<|u<|mv y<|u<|ixX ti y ti y y y<|A ?_
 refine u<|ixX ti y ti y y y<|A ?_
 refine u<|ixX ti y ti y y y<|A ?_
 obtain ⟨I,J,h⟩:=bs h
 refine rg y<|u<|mv y<|zv (env0:=[(1,ziT 2 zbl f.1),(2,iA f.2),(22,.isl 6 (map zc ([(za.mk [70,97,99,101] [79,98,106,101,99,116] true [] [] ([(zb.mk [102] [] [73] false true 0 0 [] [] [])])),(za.mk [65,97] [79,98,106,101,99,116] false ([[70,97,99,101]]) ([(zk.mk [120] [73] false),(zk.mk [115] [73] true)]) ([(zb.mk [102] [] [73] false false 1 1 ([(zp.mk 2 0 [] []),(zp.mk 47 0 [] [])]) [] [])])),(za.mk [66,98] [65,97] false [] ([(zk.mk [121] [91,65,97] false)]) ([(zb.mk [109,97,105,110] [] [86] true false 0 0 ([(zp.mk 46 0 [] [])]) [] [])]))])))]) (st0:=[]) (zo [])<|u<|pc (zof ([(za.mk [70,97,99,101] [79,98,106,101,99,116] true [] [] ([(zb.mk [102] [] [73] false true 0 0 [] [] [])])),(za.mk [65,97] [79,98,106,101,99,116] false ([[70,97,99,101]]) ([(zk.mk [120] [73] false),(zk.mk [115] [73] true)]) ([(zb.mk [102] [] [73] false false 1 1 ([(zp.mk 2 0 [] []),(zp.mk 47 0 [] [])]) [] [])])),(za.mk [66,98] [65,97] false [] ([(zk.mk [121] [91,65,97] false)]) ([(zb.mk [109,97,105,110] [] [86] true false 0 0 ([(zp.mk 46 0 [] [])]) [] [])]))]) J) y y y<|A ?_
 refine zf<|A ?_
 refine zeh h y (fun s h=>?_) fun s h=>?_
 ·refine A ?_
  exact RT0
 ·refine ze ?_
  obtain ⟨K,o,L,a,M,b,v,c,h⟩:=bs4 h
  obtain ⟨B,d,C,e,h⟩:=bs2 h
  refine rg y<|u<|pc (zoV y) y y y<|u<|mv y<|ziU (x:=K) (j:=1) 2 y y y y y gpn (fun p=>by replace o:=bT p o;obtain ⟨R,N,o⟩:=bs o;obtain rfl:=sm o;exact g y p<|mv y<|g y p<|pc (zc2 f.1 [65,97] 0 N) y y (ztN (zpX (fun _=>y)) (y))<|zx (eg [34,35] 2 y y y y)) (fun hb=>(sm (bF hb o)).symm)<|u<|mv y<|ziU (x:=L) (j:=5) 2 y y y y y gpn (fun q=>by replace a:=bT q a;obtain ⟨S,O,a⟩:=bs a;obtain rfl:=sm a;exact g y q<|mv y<|g y q<|pc (zc2 f.1 [66,98] 0 O) y y (ztN (zpX (fun _=>y)) (y))<|zx (eg [38,39] 2 y y y y)) (fun hb=>(sm (bF hb a)).symm)<|u<|mv y<|ziU (x:=M) (j:=9) 3 y y y y y gpn (fun i=>by replace b:=bT i b;obtain ⟨T,D,b⟩:=bs b;obtain rfl:=sm b;exact g y i<|mv y<|g y i<|pc (zc2 I.1 [65,97] 0 D) y y (ztN (zpX (fun _=>y)) (y))<|g y i<|nt y<|zx (eg [42,43,44] 3 y y y y)) (fun hb=>(sm (bF hb b)).symm)<|u<|mv y<|ziU (x:=v) (j:=14) 3 y y y y y gpn (fun l=>by replace c:=bT l c;obtain ⟨U,E,c⟩:=bs c;obtain rfl:=sm c;exact g y l<|mv y<|g y l<|pc (zc2 f.1 [70,97,99,101] 0 E) y y (ztN (zpX (fun _=>y)) (y))<|g y l<|nt y<|zx (eg [47,48,49] 3 y y y y)) (fun hb=>(sm (bF hb c)).symm)<|u<|mv y<|ziU (x:=B) (j:=19) 3 y y y y y gpn (fun m=>by replace d:=bT m d;obtain ⟨P,F,d⟩:=bs d;obtain rfl:=sm d;exact g y m<|mv y<|g y m<|pc (zc2 f.1 [65,97] 1 F) y y (ztN (zpX (fun _=>y)) (y))<|g y m<|nt y<|zx (eg [52,53,54] 3 y y y y)) (fun hb=>(sm (bF hb d)).symm)<|u<|mv y<|ziU (x:=C) (j:=24) 3 y y y y y gpn (fun n=>by replace e:=bT n e;obtain ⟨Q,G,e⟩:=bs e;obtain rfl:=sm e;exact g y n<|mv y<|g y n<|pc (zc2 f.1 [90,122] 0 G) y y (ztN (zpX (fun _=>y)) (y))<|g y n<|nt y<|zx (eg [57,58,59] 3 y y y y)) (fun hb=>(sm (bF hb e)).symm)<|u<|asg y<|zx ?_
  exact RT0
instance:PF Tryz.prog 37 [] (zoj) bA:=⟨fun _=>zrY ⟩
structure zbu where
  C:T0
  M:T0
def zgO(x:zbu):List AV:=[sA x.C,sA x.M]
def zmJ(a:T1):Option (T1):=
  some a
def zbO(b:List za)(c:T1)(a:Int):Option (Sum (T1×Int) (Sum (T1) (T1))):=
  cond (decide (a<(length b:Int))) ((idx b a).bind fun e=>(zh9 16 c [e.Name]).bind fun d=>some (.inl (d,(IntKind.i64.wrap (a+1))))) (some (.inr (.inl c)))
def zfb(a:List za)(c:T2):Option (T1):=
  (zl (fun z=>zbO a z.1 z.2) ([],0)).bind fun o=>zD o (fun b=>zmJ b) some
theorem ziP(a:List za)(c:T2){r:T1}(h:zfb a c=some r):SC Tryz.prog 61 [.ipt 2 [[.isl 6 (map zc a),.imp (map (rKV (fun x=>iA x)) c)]] 0 0] [] (.msl 0 0 (length r)) [.many 1 (map zw r)]:=by
 refine ⟨⟨zia (sz:=1) (fun _=>y),t⟩,zX Tryz.func61 y kz y ?_⟩
 refine A ?_
 refine zf<|A ?_
 refine znf y (fun hx=>by cases hx) (fun _=>?_)
 refine ze<|A ?_
 refine zf<|A ?_
 obtain ⟨o,ho,h⟩:=bs h
 refine lpB ho (fun z=>[(3,.msl 0 0 (length z.1)),(11,.isl 6 (map zc a)),(12,iA (length a:Int)),(13,iA z.2)]) (fun z=>[some (1,map zw z.1)]) (fun b=>[(3,.msl 0 0 (length b))]) (fun b=>[some (1,map zw b)]) (pF Tryz.f61 (fun r=>.msl 0 0 (length r)) fun r=>[some (1,map zw r)]) ⟨[.fresh 1],cv y (.nilown y)<|ce y y<|ce y y<|ce y y<|cn,y,⟨w,t⟩,y,k⟩ ?_ ?_
 ·rintro ⟨m,n⟩ r h
  refine A ?_
  refine zf ?_
  refine zeh h y (fun d h=>?_) fun d h=>?_
  ·refine ze<|zf<|zi ?_
   obtain ⟨e,p,h⟩:=bs h
   refine A ?_
   obtain ⟨j,i,h⟩:=bs h
   refine A ?_
   refine u<|apM 3 ti y ti y y (by decide) ti y y y y (roX (f:=zw) (z:=[e.Name]) y y) (fun _=>y) y i<|A ?_
   refine A ?_
   obtain rfl:=sm h
   exact ⟨_,y,zo [.old 3]⟩
  ·refine zq ?_
   obtain rfl:=sm h
   exact ⟨y,_,y,zo [.old 0]⟩
 ·rintro l rfl
  refine zn<|A ?_
  exact RT1
def zer(a:T0)(b:List za)(c:T2):Option (Bool):=
  (cond ((!(a == [86]))&&(!(a == []))) ((zdD b c a).bind fun d=>some (!d)) (some false)).bind fun e=>some e
instance (a:T0)(b:List za)(c:T2):PF Tryz.prog 216 [sA a,.ipt 1 [[.ipt 2 [[.isl 6 (map zc b),.imp (map (rKV (fun x=>iA x)) c)]] 0 0]] 0 0] (zer a b c) bA:=⟨fun r h=>by
 refine zh Tryz.func216 y kz y y<|A ?_
 obtain ⟨d,e,h⟩:=bs h
 refine A ?_
 exact RT0⟩
def zkF(a:zk)(b:List za)(c:T2):Option (Bool):=
  (zer a.Type_ b c).bind fun d=>some d
instance (a:zk)(b:List za)(c:T2):PF Tryz.prog 217 [.agg (zE a),.ipt 1 [[.fn (.func 216) [] [.ipt 1 [[.ipt 2 [[.isl 6 (map zc b),.imp (map (rKV (fun x=>iA x)) c)]] 0 0]] 0 0]]] 0 0] (zkF a b c) bA:=⟨fun r h=>by
 refine zh Tryz.func217 y kz y y<|A ?_
 obtain ⟨d,e,h⟩:=bs h
 refine A ?_
 exact RT0⟩
def zc0:Option (Int):=
  some (-1)
def zaF(b:List zk)(c:List za)(d:T2)(a:Int):Option (Sum (Int) (Sum (Unit) (Int))):=
  cond (decide (a<(length b:Int))) ((idx b a).bind fun e=>(zkF e c d).bind fun f=>cond f (some (.inr (.inr a))) (some (.inl (IntKind.i64.wrap (a+1))))) (some (.inr (.inl ())))
def zbR(a:List zk)(c:List za)(d:T2):Option (Int):=
  (zl (fun z=>zaF a c d z) 0).bind fun o=>zD o (fun b=>zc0) some
instance (a:List zk)(c:List za)(d:T2):PF Tryz.prog 241 [.isl 3 (map zE a),.fn (.func 217) [] [.ipt 1 [[.fn (.func 216) [] [.ipt 1 [[.ipt 2 [[.isl 6 (map zc c),.imp (map (rKV (fun x=>iA x)) d)]] 0 0]] 0 0]]] 0 0]] (zbR a c d) iA:=⟨fun r h=>by
 refine zh Tryz.func241 y kz y y<|A ?_
 refine zf<|A ?_
 obtain ⟨o,ho,h⟩:=bs h
 refine lpB ho (fun z=>[(0,.isl 3 (map zE a)),(1,.fn (.func 217) [] [.ipt 1 [[.fn (.func 216) [] [.ipt 1 [[.ipt 2 [[.isl 6 (map zc c),.imp (map (rKV (fun x=>iA x)) d)]] 0 0]] 0 0]]] 0 0]),(7,iA (length a:Int)),(8,iA z)]) (fun z=>[]) (fun b=>[]) (fun b=>[]) (pG Tryz.f241 iA) (zaf []) ?_ ?_
 ·rintro i r h
  refine A ?_
  refine zf ?_
  refine zeh h y (fun e h=>?_) fun e h=>?_
  ·refine ze<|zf<|zi<|A ?_
   obtain ⟨j,l,m,n,h⟩:=bs2 h
   refine A ?_
   refine zeh h y (fun f h=>?_) fun f h=>?_
   ·refine A ?_
    refine zy ?_
    obtain rfl:=sm h
    exact ⟨_,y,_,y,zad []⟩
   ·refine ze<|A ?_
    obtain rfl:=sm h
    exact ⟨_,y,zo []⟩
  ·refine zq ?_
   obtain rfl:=sm h
   exact ⟨y,_,y,zo []⟩
 ·rintro ⟨⟩ rfl
  refine zn<|A ?_
  exact RT0⟩
def zag(a:List zk)(b:List za)(c:T2):Option (Bool):=
  (zbR a b c).bind fun d=>some (decide (0≤d))
theorem zcu(a:List zk)(b:List za)(c:T2){r:Bool}(h:zag a b c=some r):zam Tryz.prog 176 [.isl 3 (map zE a),.fn (.func 217) [] [.ipt 1 [[.fn (.func 216) [] [.ipt 1 [[.ipt 2 [[.isl 6 (map zc b),.imp (map (rKV (fun x=>iA x)) c)]] 0 0]] 0 0]]] 0 0]] (bA r):=by
 refine zh Tryz.func176 y kz y y<|A ?_
 obtain ⟨d,e,h⟩:=bs h
 refine A ?_
 exact RT0
instance (a:List zk)(b:List za)(c:T2):PF Tryz.prog 176 [.isl 3 (map zE a),.fn (.func 217) [] [.ipt 1 [[.fn (.func 216) [] [.ipt 1 [[.ipt 2 [[.isl 6 (map zc b),.imp (map (rKV (fun x=>iA x)) c)]] 0 0]] 0 0]]] 0 0]] (zag a b c) bA:=⟨fun _=>zcu a b c⟩
def zi3(a:zR)(b:List za)(c:T2):Option (Bool):=
  (zer a.C b c).bind fun d=>some d
instance (a:zR)(b:List za)(c:T2):PF Tryz.prog 220 [.agg (z6 a),.ipt 1 [[.fn (.func 216) [] [.ipt 1 [[.ipt 2 [[.isl 6 (map zc b),.imp (map (rKV (fun x=>iA x)) c)]] 0 0]] 0 0]]] 0 0] (zi3 a b c) bA:=⟨fun r h=>by
 refine zh Tryz.func220 y kz y y<|A ?_
 obtain ⟨d,e,h⟩:=bs h
 refine A ?_
 exact RT0⟩
def zdB:Option (Int):=
  some (-1)
def zaS(b:List zR)(c:List za)(d:T2)(a:Int):Option (Sum (Int) (Sum (Unit) (Int))):=
  cond (decide (a<(length b:Int))) ((idx b a).bind fun e=>(zi3 e c d).bind fun f=>cond f (some (.inr (.inr a))) (some (.inl (IntKind.i64.wrap (a+1))))) (some (.inr (.inl ())))
def zb1(a:List zR)(c:List za)(d:T2):Option (Int):=
  (zl (fun z=>zaS a c d z) 0).bind fun o=>zD o (fun b=>zdB) some
instance (a:List zR)(c:List za)(d:T2):PF Tryz.prog 263 [.isl 4 (map z6 a),.fn (.func 220) [] [.ipt 1 [[.fn (.func 216) [] [.ipt 1 [[.ipt 2 [[.isl 6 (map zc c),.imp (map (rKV (fun x=>iA x)) d)]] 0 0]] 0 0]]] 0 0]] (zb1 a c d) iA:=⟨fun r h=>by
 refine zh Tryz.func263 y kz y y<|A ?_
 refine zf<|A ?_
 obtain ⟨o,ho,h⟩:=bs h
 refine lpB ho (fun z=>[(0,.isl 4 (map z6 a)),(1,.fn (.func 220) [] [.ipt 1 [[.fn (.func 216) [] [.ipt 1 [[.ipt 2 [[.isl 6 (map zc c),.imp (map (rKV (fun x=>iA x)) d)]] 0 0]] 0 0]]] 0 0]),(7,iA (length a:Int)),(8,iA z)]) (fun z=>[]) (fun b=>[]) (fun b=>[]) (pG Tryz.f263 iA) (zaf []) ?_ ?_
 ·rintro i r h
  refine A ?_
  refine zf ?_
  refine zeh h y (fun e h=>?_) fun e h=>?_
  ·refine ze<|zf<|zi<|A ?_
   obtain ⟨j,l,m,n,h⟩:=bs2 h
   refine A ?_
   refine zeh h y (fun f h=>?_) fun f h=>?_
   ·refine A ?_
    refine zy ?_
    obtain rfl:=sm h
    exact ⟨_,y,_,y,zad []⟩
   ·refine ze<|A ?_
    obtain rfl:=sm h
    exact ⟨_,y,zo []⟩
  ·refine zq ?_
   obtain rfl:=sm h
   exact ⟨y,_,y,zo []⟩
 ·rintro ⟨⟩ rfl
  refine zn<|A ?_
  exact RT0⟩
def zaR(a:List zR)(b:List za)(c:T2):Option (Bool):=
  (zb1 a b c).bind fun d=>some (decide (0≤d))
instance (a:List zR)(b:List za)(c:T2):PF Tryz.prog 219 [.isl 4 (map z6 a),.fn (.func 220) [] [.ipt 1 [[.fn (.func 216) [] [.ipt 1 [[.ipt 2 [[.isl 6 (map zc b),.imp (map (rKV (fun x=>iA x)) c)]] 0 0]] 0 0]]] 0 0]] (zaR a b c) bA:=⟨fun r h=>by
 refine zh Tryz.func219 y kz y y<|A ?_
 obtain ⟨d,e,h⟩:=bs h
 refine A ?_
 exact RT0⟩
def zfN(a:Bool):Option (Bool):=
  some a
def zgJ(b:List za)(c:T2)(a:zp)(d:za×Bool)(e:Bool):Option (Bool):=
  cond e ((zgv b c a.C a.M).bind fun f=>zfN (f.2.2&&(!d.1.Interface))) (cond (a.Op == (45:Int)) ((ziR b c a.C a.M).bind fun i=>zfN i.2.2) (zfN true))
def zfM(b:List za)(c:T2)(a:zp)(d:za×Bool)(e:Bool):Option (Bool):=
  cond e ((zhW b c a.C a.M).bind fun f=>zfN f.2.2) (cond (a.Op == (42:Int)) (zgJ b c a d (a.Op == (42:Int))) (cond (a.Op == (43:Int)) (zgJ b c a d (a.Op == (43:Int))) (zgJ b c a d (a.Op == (44:Int)))))
def zkl(b:List za)(c:T2)(a:zp):Option (Bool):=
  (zO b c a.C).bind fun d=>cond (a.Op == (38:Int)) (zfM b c a d (a.Op == (38:Int))) (cond (a.Op == (39:Int)) (zfM b c a d (a.Op == (39:Int))) (cond (a.Op == (40:Int)) (zfM b c a d (a.Op == (40:Int))) (zfM b c a d (a.Op == (41:Int)))))
instance (b:List za)(c:T2)(a:zp):PF Tryz.prog 223 [.ipt 2 [[.isl 6 (map zc b),.imp (map (rKV (fun x=>iA x)) c)]] 0 0,.agg (zt a)] (zkl b c a) bA:=⟨fun r h=>by
 refine zh Tryz.func223 y kz y y<|A ?_
 obtain ⟨d,D,h⟩:=bs h
 refine A ?_
 refine A ?_
 refine zal (X:=Bool) (fun z=>[(7,bA z)]) (fun z=>[]) (fun z=>zfN z=some r) ?_ ?_
 ·refine A ?_
  refine zi ?_
  refine zal (X:=Bool) (fun z=>[(0,.ipt 2 [[.isl 6 (map zc b),.imp (map (rKV (fun x=>iA x)) c)]] 0 0),(3,.mpt 0 0 0),(5,.mpt 1 0 0),(7,bA true),(16,iA a.Op),(17,bA z)]) (fun z=>[some (4,[(zt a)]),some (6,[(zc d.1)])]) (fun z=>zfM b c a d z=some r) ?_ ?_
  ·refine A ?_
   refine zeh h y (fun f h=>?_) fun f h=>?_
   ·refine ze ?_
    exact ⟨(a.Op == (38:Int)),h,zo [.old 0,.old 1]⟩
   ·refine A ?_
    refine zeh h y (fun i h=>?_) fun i h=>?_
    ·refine ze ?_
     exact ⟨(a.Op == (39:Int)),h,zo [.old 0,.old 1]⟩
    ·refine A ?_
     refine zeh h y (fun j h=>?_) fun j h=>?_
     ·refine ze ?_
      exact ⟨(a.Op == (40:Int)),h,zo [.old 0,.old 1]⟩
     ·refine A ?_
      exact (⟨(a.Op == (41:Int)),h,zo [.old 0,.old 1]⟩)
  ·rintro E h
   refine zeh h y (fun l h=>?_) fun l h=>?_
   ·obtain ⟨p,F,h⟩:=bs h
    refine A ?_
    exact (⟨p.2.2,h,zo []⟩)
   ·refine zal (X:=Bool) (fun z=>[(0,.ipt 2 [[.isl 6 (map zc b),.imp (map (rKV (fun x=>iA x)) c)]] 0 0),(3,.mpt 0 0 0),(5,.mpt 1 0 0),(7,bA true),(16,iA a.Op),(32,bA z)]) (fun z=>[some (4,[(zt a)]),some (6,[(zc d.1)])]) (fun z=>zgJ b c a d z=some r) ?_ ?_
    ·refine A ?_
     refine zeh h y (fun m h=>?_) fun m h=>?_
     ·refine ze ?_
      exact ⟨(a.Op == (42:Int)),h,zo [.old 0,.old 1]⟩
     ·refine A ?_
      refine zeh h y (fun n h=>?_) fun n h=>?_
      ·refine ze ?_
       exact ⟨(a.Op == (43:Int)),h,zo [.old 0,.old 1]⟩
      ·refine A ?_
       exact (⟨(a.Op == (44:Int)),h,zo [.old 0,.old 1]⟩)
    ·rintro G h
     refine zeh h y (fun o h=>?_) fun o h=>?_
     ·obtain ⟨q,v,h⟩:=bs h
      refine A ?_
      refine A ?_
      exact (⟨(q.2.2&&(!d.1.Interface)),h,zo []⟩)
     ·refine A ?_
      refine zeh h y (fun e h=>?_) fun e h=>?_
      ·obtain ⟨s,B,h⟩:=bs h
       refine A ?_
       exact (⟨s.2.2,h,zo []⟩)
      ·refine ze ?_
       exact ⟨true,h,zo []⟩
 ·rintro C h
  refine A ?_
  exact RT0⟩
def zho(a:zp)(b:List za)(c:T2)(d:List za)(e:T2):Option (Bool):=
  (zer a.C b c).bind fun f=>(cond f (some true) ((zkl d e a).bind fun i=>some (!i))).bind fun j=>some j
instance (a:zp)(b:List za)(c:T2)(d:List za)(e:T2):PF Tryz.prog 222 [.agg (zt a),.ipt 1 [[.fn (.func 216) [] [.ipt 1 [[.ipt 2 [[.isl 6 (map zc b),.imp (map (rKV (fun x=>iA x)) c)]] 0 0]] 0 0]]] 0 0,.ipt 1 [[.ipt 2 [[.isl 6 (map zc d),.imp (map (rKV (fun x=>iA x)) e)]] 0 0]] 0 0] (zho a b c d e) bA:=⟨fun r h=>by
 refine zh Tryz.func222 y kz y y<|A ?_
 obtain ⟨f,i,j,l,h⟩:=bs2 h
 refine A ?_
 exact RT0⟩
def zd7:Option (Int):=
  some (-1)
def za0(b:List zp)(e:List za)(f:T2)(i:List za)(j:T2)(a:Int):Option (Sum (Int) (Sum (Unit) (Int))):=
  cond (decide (a<(length b:Int))) ((idx b a).bind fun c=>(zho c e f i j).bind fun d=>cond d (some (.inr (.inr a))) (some (.inl (IntKind.i64.wrap (a+1))))) (some (.inr (.inl ())))
def zcp(a:List zp)(c:List za)(d:T2)(e:List za)(f:T2):Option (Int):=
  (zl (fun z=>za0 a c d e f z) 0).bind fun o=>zD o (fun b=>zd7) some
instance (a:List zp)(c:List za)(d:T2)(e:List za)(f:T2):PF Tryz.prog 264 [.isl 4 (map zt a),.fn (.func 222) [] [.ipt 1 [[.fn (.func 216) [] [.ipt 1 [[.ipt 2 [[.isl 6 (map zc c),.imp (map (rKV (fun x=>iA x)) d)]] 0 0]] 0 0]]] 0 0,.ipt 1 [[.ipt 2 [[.isl 6 (map zc e),.imp (map (rKV (fun x=>iA x)) f)]] 0 0]] 0 0]] (zcp a c d e f) iA:=⟨fun r h=>by
 refine zh Tryz.func264 y kz y y<|A ?_
 refine zf<|A ?_
 obtain ⟨o,ho,h⟩:=bs h
 refine lpB ho (fun z=>[(0,.isl 4 (map zt a)),(1,.fn (.func 222) [] [.ipt 1 [[.fn (.func 216) [] [.ipt 1 [[.ipt 2 [[.isl 6 (map zc c),.imp (map (rKV (fun x=>iA x)) d)]] 0 0]] 0 0]]] 0 0,.ipt 1 [[.ipt 2 [[.isl 6 (map zc e),.imp (map (rKV (fun x=>iA x)) f)]] 0 0]] 0 0]),(7,iA (length a:Int)),(8,iA z)]) (fun z=>[]) (fun b=>[]) (fun b=>[]) (pG Tryz.f264 iA) (zaf []) ?_ ?_
 ·rintro n r h
  refine A ?_
  refine zf ?_
  refine zeh h y (fun i h=>?_) fun i h=>?_
  ·refine ze<|zf<|zi<|A ?_
   obtain ⟨l,p,m,q,h⟩:=bs2 h
   refine A ?_
   refine zeh h y (fun j h=>?_) fun j h=>?_
   ·refine A ?_
    refine zy ?_
    obtain rfl:=sm h
    exact ⟨_,y,_,y,zad []⟩
   ·refine ze<|A ?_
    obtain rfl:=sm h
    exact ⟨_,y,zo []⟩
  ·refine zq ?_
   obtain rfl:=sm h
   exact ⟨y,_,y,zo []⟩
 ·rintro ⟨⟩ rfl
  refine zn<|A ?_
  exact RT0⟩
def zaZ(a:List zp)(b:List za)(c:T2)(d:List za)(e:T2):Option (Bool):=
  (zcp a b c d e).bind fun f=>some (decide (0≤f))
instance (a:List zp)(b:List za)(c:T2)(d:List za)(e:T2):PF Tryz.prog 221 [.isl 4 (map zt a),.fn (.func 222) [] [.ipt 1 [[.fn (.func 216) [] [.ipt 1 [[.ipt 2 [[.isl 6 (map zc b),.imp (map (rKV (fun x=>iA x)) c)]] 0 0]] 0 0]]] 0 0,.ipt 1 [[.ipt 2 [[.isl 6 (map zc d),.imp (map (rKV (fun x=>iA x)) e)]] 0 0]] 0 0]] (zaZ a b c d e) bA:=⟨fun r h=>by
 refine zh Tryz.func221 y kz y y<|A ?_
 obtain ⟨f,i,h⟩:=bs h
 refine A ?_
 exact RT0⟩
def zeA:Option (Int):=
  some (-1)
def zbj(b:T1)(c:List za)(d:T2)(a:Int):Option (Sum (Int) (Sum (Unit) (Int))):=
  cond (decide (a<(length b:Int))) ((idx b a).bind fun e=>(zer e c d).bind fun f=>cond f (some (.inr (.inr a))) (some (.inl (IntKind.i64.wrap (a+1))))) (some (.inr (.inl ())))
def zcP(a:T1)(c:List za)(d:T2):Option (Int):=
  (zl (fun z=>zbj a c d z) 0).bind fun o=>zD o (fun b=>zeA) some
instance (a:T1)(c:List za)(d:T2):PF Tryz.prog 110 [.isl 1 (map zw a),.fn (.func 216) [] [.ipt 1 [[.ipt 2 [[.isl 6 (map zc c),.imp (map (rKV (fun x=>iA x)) d)]] 0 0]] 0 0]] (zcP a c d) iA:=⟨fun r h=>by
 refine zh Tryz.func110 y kz y y<|A ?_
 refine zf<|A ?_
 obtain ⟨o,ho,h⟩:=bs h
 refine lpB ho (fun z=>[(0,.isl 1 (map zw a)),(1,.fn (.func 216) [] [.ipt 1 [[.ipt 2 [[.isl 6 (map zc c),.imp (map (rKV (fun x=>iA x)) d)]] 0 0]] 0 0]),(7,iA (length a:Int)),(8,iA z)]) (fun z=>[]) (fun b=>[]) (fun b=>[]) (pG Tryz.f110 iA) (zaf []) ?_ ?_
 ·rintro i r h
  refine A ?_
  refine zf ?_
  refine zeh h y (fun e h=>?_) fun e h=>?_
  ·refine ze<|zf<|zi<|A ?_
   obtain ⟨j,l,m,n,h⟩:=bs2 h
   refine A ?_
   refine zeh h y (fun f h=>?_) fun f h=>?_
   ·refine A ?_
    refine zy ?_
    obtain rfl:=sm h
    exact ⟨_,y,_,y,zad []⟩
   ·refine ze<|A ?_
    obtain rfl:=sm h
    exact ⟨_,y,zo []⟩
  ·refine zq ?_
   obtain rfl:=sm h
   exact ⟨y,_,y,zo []⟩
 ·rintro ⟨⟩ rfl
  refine zn<|A ?_
  exact RT0⟩
def zbc(a:T1)(b:List za)(c:T2):Option (Bool):=
  (zcP a b c).bind fun d=>some (decide (0≤d))
instance (a:T1)(b:List za)(c:T2):PF Tryz.prog 56 [.isl 1 (map zw a),.fn (.func 216) [] [.ipt 1 [[.ipt 2 [[.isl 6 (map zc b),.imp (map (rKV (fun x=>iA x)) c)]] 0 0]] 0 0]] (zbc a b c) bA:=⟨fun r h=>by
 refine zh Tryz.func56 y kz y y<|A ?_
 obtain ⟨d,e,h⟩:=bs h
 refine A ?_
 exact RT0⟩
def ziG(a:zb)(b:List za)(c:T2)(e:List za)(f:T2):Option (Bool):=
  (zaR a.Traps b c).bind fun i=>(zaZ a.Code b c e f).bind fun j=>(zer a.Ret b c).bind fun l=>(cond l (some true) ((zbc a.Params b c).bind fun m=>some m)).bind fun d=>some ((d||i)||j)
instance (a:zb)(b:List za)(c:T2)(d:List za)(e:T2):PF Tryz.prog 218 [.agg (zd a),.ipt 1 [[.fn (.func 216) [] [.ipt 1 [[.ipt 2 [[.isl 6 (map zc b),.imp (map (rKV (fun x=>iA x)) c)]] 0 0]] 0 0]]] 0 0,.ipt 1 [[.ipt 2 [[.isl 6 (map zc d),.imp (map (rKV (fun x=>iA x)) e)]] 0 0]] 0 0] (ziG a b c d e) bA:=⟨fun r h=>by
 refine zh Tryz.func218 y kz y y<|A ?_
 obtain ⟨i,j,h⟩:=bs h
 refine A ?_
 obtain ⟨l,m,h⟩:=bs h
 refine A ?_
 obtain ⟨n,o,f,p,h⟩:=bs2 h
 refine A ?_
 exact RT0⟩
def zcA:Option (Int):=
  some (-1)
def zar(b:List zb)(e:List za)(f:T2)(i:List za)(j:T2)(a:Int):Option (Sum (Int) (Sum (Unit) (Int))):=
  cond (decide (a<(length b:Int))) ((idx b a).bind fun c=>(ziG c e f i j).bind fun d=>cond d (some (.inr (.inr a))) (some (.inl (IntKind.i64.wrap (a+1))))) (some (.inr (.inl ())))
def zbA(a:List zb)(c:List za)(d:T2)(e:List za)(f:T2):Option (Int):=
  (zl (fun z=>zar a c d e f z) 0).bind fun o=>zD o (fun b=>zcA) some
instance (a:List zb)(c:List za)(d:T2)(e:List za)(f:T2):PF Tryz.prog 244 [.isl 10 (map zd a),.fn (.func 218) [] [.ipt 1 [[.fn (.func 216) [] [.ipt 1 [[.ipt 2 [[.isl 6 (map zc c),.imp (map (rKV (fun x=>iA x)) d)]] 0 0]] 0 0]]] 0 0,.ipt 1 [[.ipt 2 [[.isl 6 (map zc e),.imp (map (rKV (fun x=>iA x)) f)]] 0 0]] 0 0]] (zbA a c d e f) iA:=⟨fun r h=>by
 refine zh Tryz.func244 y kz y y<|A ?_
 refine zf<|A ?_
 obtain ⟨o,ho,h⟩:=bs h
 refine lpB ho (fun z=>[(0,.isl 10 (map zd a)),(1,.fn (.func 218) [] [.ipt 1 [[.fn (.func 216) [] [.ipt 1 [[.ipt 2 [[.isl 6 (map zc c),.imp (map (rKV (fun x=>iA x)) d)]] 0 0]] 0 0]]] 0 0,.ipt 1 [[.ipt 2 [[.isl 6 (map zc e),.imp (map (rKV (fun x=>iA x)) f)]] 0 0]] 0 0]),(7,iA (length a:Int)),(8,iA z)]) (fun z=>[]) (fun b=>[]) (fun b=>[]) (pG Tryz.f244 iA) (zaf []) ?_ ?_
 ·rintro n r h
  refine A ?_
  refine zf ?_
  refine zeh h y (fun i h=>?_) fun i h=>?_
  ·refine ze<|zf<|zi<|A ?_
   obtain ⟨l,p,m,q,h⟩:=bs2 h
   refine A ?_
   refine zeh h y (fun j h=>?_) fun j h=>?_
   ·refine A ?_
    refine zy ?_
    obtain rfl:=sm h
    exact ⟨_,y,_,y,zad []⟩
   ·refine ze<|A ?_
    obtain rfl:=sm h
    exact ⟨_,y,zo []⟩
  ·refine zq ?_
   obtain rfl:=sm h
   exact ⟨y,_,y,zo []⟩
 ·rintro ⟨⟩ rfl
  refine zn<|A ?_
  exact RT0⟩
def z7(a:List zb)(b:List za)(c:T2)(d:List za)(e:T2):Option (Bool):=
  (zbA a b c d e).bind fun f=>some (decide (0≤f))
theorem zb9(a:List zb)(b:List za)(c:T2)(d:List za)(e:T2){r:Bool}(h:z7 a b c d e=some r):zam Tryz.prog 181 [.isl 10 (map zd a),.fn (.func 218) [] [.ipt 1 [[.fn (.func 216) [] [.ipt 1 [[.ipt 2 [[.isl 6 (map zc b),.imp (map (rKV (fun x=>iA x)) c)]] 0 0]] 0 0]]] 0 0,.ipt 1 [[.ipt 2 [[.isl 6 (map zc d),.imp (map (rKV (fun x=>iA x)) e)]] 0 0]] 0 0]] (bA r):=by
 refine zh Tryz.func181 y kz y y<|A ?_
 obtain ⟨f,i,h⟩:=bs h
 refine A ?_
 exact RT0
instance (a:List zb)(b:List za)(c:T2)(d:List za)(e:T2):PF Tryz.prog 181 [.isl 10 (map zd a),.fn (.func 218) [] [.ipt 1 [[.fn (.func 216) [] [.ipt 1 [[.ipt 2 [[.isl 6 (map zc b),.imp (map (rKV (fun x=>iA x)) c)]] 0 0]] 0 0]]] 0 0,.ipt 1 [[.ipt 2 [[.isl 6 (map zc d),.imp (map (rKV (fun x=>iA x)) e)]] 0 0]] 0 0]] (z7 a b c d e) bA:=⟨fun _=>zb9 a b c d e⟩
def ziM(a:List za)(b:T2)(c:za):Option (Bool):=
  (zag c.Fields a b).bind fun d=>(z7 c.Methods a b a b).bind fun e=>some ((!d)&&(!e))
theorem zmE(a:List za)(b:T2)(c:za){r:Bool}(h:ziM a b c=some r):zam Tryz.prog 154 [.ipt 2 [[.isl 6 (map zc a),.imp (map (rKV (fun x=>iA x)) b)]] 0 0,.agg (zc c)] (bA r):=by
 refine zh Tryz.func154 y kz y y<|A ?_
 refine A ?_
 obtain ⟨f,d,h⟩:=bs h
 refine A ?_
 refine u<|pcs (zcu c.Fields a b d) y y (.cons (si y) (.cons (zfZ t ⟨(zbk y ⟨(zfZ t ⟨(zbk y ⟨(si y),t⟩),t⟩),t⟩),t⟩) .nil)) zbI<|A ?_
 obtain ⟨i,e,h⟩:=bs h
 refine A ?_
 refine u<|pcs (zb9 c.Methods a b a b e) y y (.cons (si y) (.cons (zfZ t ⟨(zbk y ⟨(zfZ t ⟨(zbk y ⟨(si y),t⟩),t⟩),t⟩),(zbk y ⟨(si y),t⟩),t⟩) .nil)) zbI<|A ?_
 refine A ?_
 exact RT0
instance (a:List za)(b:T2)(c:za):PF Tryz.prog 154 [.ipt 2 [[.isl 6 (map zc a),.imp (map (rKV (fun x=>iA x)) b)]] 0 0,.agg (zc c)] (ziM a b c) bA:=⟨fun _=>zmE a b c⟩
def zi9:Option (Bool):=
  some true
def zcj(b:T1)(c:T1)(a:Int):Option (Sum (Int) (Sum (Unit) (Bool))):=
  cond (decide (a<(length b:Int))) ((idx b a).bind fun d=>(idx c a).bind fun e=>cond (!(d == e)) (some (.inr (.inr false))) (some (.inl (IntKind.i64.wrap (a+1))))) (some (.inr (.inl ())))
def zc5(a:T1)(c:T1):Option (Bool):=
  cond (!((length a:Int) == (length c:Int))) (some false) ((zl (fun z=>zcj a c z) 0).bind fun o=>zD o (fun b=>zi9) some)
instance (a:T1)(c:T1):PF Tryz.prog 237 [.isl 1 (map zw a),.isl 1 (map zw c)] (zc5 a c) bA:=⟨fun r h=>by
 refine zh Tryz.func237 y kz y y<|A ?_
 refine zf<|A ?_
 refine zeh h y (fun d h=>?_) fun d h=>?_
 ·refine A ?_
  exact RT0
 ·refine ze<|zf<|A ?_
  obtain ⟨o,ho,h⟩:=bs h
  refine lpB ho (fun z=>[(0,.isl 1 (map zw a)),(1,.isl 1 (map zw c)),(12,iA (length a:Int)),(13,iA z)]) (fun z=>[]) (fun b=>[]) (fun b=>[]) (pG Tryz.f237 bA) (zaf []) ?_ ?_
  ·rintro i r h
   refine A ?_
   refine zf ?_
   refine zeh h y (fun e h=>?_) fun e h=>?_
   ·refine ze<|zf<|zi<|A ?_
    obtain ⟨j,l,m,n,h⟩:=bs2 h
    refine rdA [(0,_),(1,_),(12,_),(13,_),(24,_)] [] [] [0,1,2,3,4,5,6,7,8] [(24,_),(23,_),(22,_),(21,_),(20,_),(19,_),(18,_),(17,_),(16,_)] 0 (zcw (z:=zaf [])) ?_
    refine zeh h y (fun f h=>?_) fun f h=>?_
    ·refine A ?_
     refine zy ?_
     obtain rfl:=sm h
     exact ⟨_,y,_,y,zad []⟩
    ·refine ze<|A ?_
     obtain rfl:=sm h
     exact ⟨_,y,zo []⟩
   ·refine zq ?_
    obtain rfl:=sm h
    exact ⟨y,_,y,zo []⟩
  ·rintro ⟨⟩ rfl
   refine zn<|A ?_
   exact RT0⟩
def ziq(a:zb)(b:zb):Option (Bool):=
  (zc5 a.Params b.Params).bind fun c=>some (c&&(a.Ret == b.Ret))
theorem zjp(a:zb)(b:zb){r:Bool}(h:ziq a b=some r):zam Tryz.prog 166 [.agg (zd a),.agg (zd b)] (bA r):=by
 refine zh Tryz.func166 y kz y y<|A ?_
 obtain ⟨c,d,h⟩:=bs h
 refine A ?_
 exact RT0
instance (a:zb)(b:zb):PF Tryz.prog 166 [.agg (zd a),.agg (zd b)] (ziq a b) bA:=⟨fun _=>zjp a b⟩
def zgD(a:zb)(b:T0)(j:T1)(l:T0)(c:Bool)(m:Bool)(n:Int)(o:Int)(p:List zp)(d:List zS)(e:List zR):Option (Bool):=
  (cond ((a.Name == b)&&(!(b == [36,105,110,105,116]))) ((ziq (zb.mk b j l c m n o p d e) a).bind fun f=>some (((!f)||c)||a.Static)) (some false)).bind fun i=>some i
instance (i:zb)(l:T0)(m:T1)(n:T0)(o:Bool)(p:Bool)(q:Int)(s:Int)(v:List zp)(c:List zS)(d:List zR):PF Tryz.prog 224 [.agg (zd i),.ipt 10 [[sA l,.isl 1 (map zw m),sA n,bA o,bA p,iA q,iA s,.isl 4 (map zt v),.isl 3 (map zK c),.isl 4 (map z6 d)]] 0 0] (zgD i l m n o p q s v c d) bA:=⟨fun r h=>by
 refine zh Tryz.func224 y kz y y<|A ?_
 obtain ⟨B,b,h⟩:=bs h
 refine A ?_
 refine ziU (x:=B) (j:=10) 12 y y y y y gpn (fun a=>by replace b:=bT a b;obtain ⟨D,C,b⟩:=bs b;obtain rfl:=sm b;exact g y a<|ld ti y y<|g y a<|ld ti y y<|g y a<|pc (zjp (zb.mk l m n o p q s v c d) i C) y y y<|g y a<|nt y<|g y a<|mv y<|ztr (j:=15) 2 y y y y y (gps y y a) (fun e=>g y e<|fa ti y y y<|g y e<|ld ti y y<|zx (egO [20,21] 2 e y y y y)) orT<|g y a<|mv y<|ztr (j:=19) 2 y y y y y (gps y y a) (fun f=>g y f<|fa ti y y y<|g y f<|ld ti y y<|zx (egO [24,25] 2 f y y y y)) orT<|zx (eg [15,16,17,18,19,20,21,22,23,24,25,26] 8 y y y y)) (fun hb=>(sm (bF hb b)).symm)<|A ?_
 exact RT0⟩
def zcB:Option (Int):=
  some (-1)
def zas(b:List zb)(i:T0)(j:T1)(l:T0)(m:Bool)(n:Bool)(o:Int)(p:Int)(q:List zp)(c:List zS)(d:List zR)(a:Int):Option (Sum (Int) (Sum (Unit) (Int))):=
  cond (decide (a<(length b:Int))) ((idx b a).bind fun e=>(zgD e i j l m n o p q c d).bind fun f=>cond f (some (.inr (.inr a))) (some (.inl (IntKind.i64.wrap (a+1))))) (some (.inr (.inl ())))
def zbB(d:List zb)(e:T0)(f:T1)(i:T0)(j:Bool)(l:Bool)(m:Int)(n:Int)(p:List zp)(a:List zS)(c:List zR):Option (Int):=
  (zl (fun z=>zas d e f i j l m n p a c z) 0).bind fun o=>zD o (fun b=>zcB) some
instance (d:List zb)(e:T0)(f:T1)(i:T0)(j:Bool)(l:Bool)(m:Int)(n:Int)(p:List zp)(a:List zS)(c:List zR):PF Tryz.prog 244 [.isl 10 (map zd d),.fn (.func 224) [] [.ipt 10 [[sA e,.isl 1 (map zw f),sA i,bA j,bA l,iA m,iA n,.isl 4 (map zt p),.isl 3 (map zK a),.isl 4 (map z6 c)]] 0 0]] (zbB d e f i j l m n p a c) iA:=⟨fun r h=>by
 refine zh Tryz.func244 y kz y y<|A ?_
 refine zf<|A ?_
 obtain ⟨o,ho,h⟩:=bs h
 refine lpB ho (fun z=>[(0,.isl 10 (map zd d)),(1,.fn (.func 224) [] [.ipt 10 [[sA e,.isl 1 (map zw f),sA i,bA j,bA l,iA m,iA n,.isl 4 (map zt p),.isl 3 (map zK a),.isl 4 (map z6 c)]] 0 0]),(7,iA (length d:Int)),(8,iA z)]) (fun z=>[]) (fun b=>[]) (fun b=>[]) (pG Tryz.f244 iA) (zaf []) ?_ ?_
 ·rintro v r h
  refine A ?_
  refine zf ?_
  refine zeh h y (fun q h=>?_) fun q h=>?_
  ·refine ze<|zf<|zi<|A ?_
   obtain ⟨x,C,B,D,h⟩:=bs2 h
   refine A ?_
   refine zeh h y (fun s h=>?_) fun s h=>?_
   ·refine A ?_
    refine zy ?_
    obtain rfl:=sm h
    exact ⟨_,y,_,y,zad []⟩
   ·refine ze<|A ?_
    obtain rfl:=sm h
    exact ⟨_,y,zo []⟩
  ·refine zq ?_
   obtain rfl:=sm h
   exact ⟨y,_,y,zo []⟩
 ·rintro ⟨⟩ rfl
  refine zn<|A ?_
  exact RT0⟩
def z8(d:List zb)(e:T0)(f:T1)(i:T0)(j:Bool)(l:Bool)(m:Int)(n:Int)(o:List zp)(a:List zS)(b:List zR):Option (Bool):=
  (zbB d e f i j l m n o a b).bind fun c=>some (decide (0≤c))
theorem zca(c:List zb)(d:T0)(e:T1)(f:T0)(i:Bool)(j:Bool)(l:Int)(m:Int)(n:List zp)(a:List zS)(b:List zR){r:Bool}(h:z8 c d e f i j l m n a b=some r):zam Tryz.prog 181 [.isl 10 (map zd c),.fn (.func 224) [] [.ipt 10 [[sA d,.isl 1 (map zw e),sA f,bA i,bA j,iA l,iA m,.isl 4 (map zt n),.isl 3 (map zK a),.isl 4 (map z6 b)]] 0 0]] (bA r):=by
 refine zh Tryz.func181 y kz y y<|A ?_
 obtain ⟨o,p,h⟩:=bs h
 refine A ?_
 exact RT0
instance (c:List zb)(d:T0)(e:T1)(f:T0)(i:Bool)(j:Bool)(l:Int)(m:Int)(n:List zp)(a:List zS)(b:List zR):PF Tryz.prog 181 [.isl 10 (map zd c),.fn (.func 224) [] [.ipt 10 [[sA d,.isl 1 (map zw e),sA f,bA i,bA j,iA l,iA m,.isl 4 (map zt n),.isl 3 (map zK a),.isl 4 (map z6 b)]] 0 0]] (z8 c d e f i j l m n a b) bA:=⟨fun _=>zca c d e f i j l m n a b⟩
def zn9:Option (Bool):=
  some true
def zjG(a:Int):Option (Sum (Int) (Sum (Unit) (Bool))):=
  some (.inl (IntKind.i64.wrap (a+1)))
def zc7(i:List za)(j:T2)(a:zb)(c:T1)(b:Int):Option (Sum (Int) (Sum (Unit) (Bool))):=
  cond (decide (b<(length c:Int))) ((idx c b).bind fun d=>(zO i j d).bind fun e=>(z8 e.1.Methods a.Name a.Params a.Ret a.Static a.Abstract a.Locals a.Stack a.Code a.Maps a.Traps).bind fun f=>cond f (some (.inr (.inr false))) (some (.inl (IntKind.i64.wrap (b+1))))) (some (.inr (.inl ())))
def zc8(e:List za)(f:T2)(d:za)(a:Int):Option (Sum (Int) (Sum (Unit) (Bool))):=
  cond (decide (a<(length d.Methods:Int))) ((idx d.Methods a).bind fun i=>(zaH e f d.Name).bind fun c=>(zkM c 1 (length c:Int)).bind fun j=>(zl (fun z=>zc7 e f i j z) 0).bind fun o=>zD o (fun b=>zjG a) (fun r=>some (.inr (.inr r)))) (some (.inr (.inl ())))
def zgk(a:List za)(c:T2)(d:za):Option (Bool):=
  (zl (fun z=>zc8 a c d z) 0).bind fun o=>zD o (fun b=>zn9) some
theorem zjH(e:List za)(f:T2)(d:za){r:Bool}(h:zgk e f d=some r):zam Tryz.prog 155 [.ipt 2 [[.isl 6 (map zc e),.imp (map (rKV (fun x=>iA x)) f)]] 0 0,.agg (zc d)] (bA r):=by
 refine zh Tryz.func155 y kz y y<|A ?_
 refine zf<|A ?_
 obtain ⟨o,ho,h⟩:=bs h
 refine lpB ho (fun z=>[(0,.ipt 2 [[.isl 6 (map zc e),.imp (map (rKV (fun x=>iA x)) f)]] 0 0),(3,.mpt 0 0 0),(12,.isl 10 (map zd d.Methods)),(13,iA (length d.Methods:Int)),(14,iA z)]) (fun z=>[some (6,[(zc d)])]) (fun b=>[]) (fun b=>[]) (pG Tryz.f155 bA) (zaf [.old 0]) ?_ ?_
 ·rintro i r h
  refine A ?_
  refine zf ?_
  refine zeh h y (fun n h=>?_) fun n h=>?_
  ·refine ze<|zf<|zi ?_
   obtain ⟨c,C,h⟩:=bs h
   refine A ?_
   obtain ⟨j,s,l,m,h⟩:=bs2 h
   refine A ?_
   refine u<|sx [] (za1 e f d.Name s)<|zv (env0:=[(0,.ipt 2 [[.isl 6 (map zc e),.imp (map (rKV (fun x=>iA x)) f)]] 0 0),(3,.mpt 0 0 0),(6,.mpt 1 0 0),(12,.isl 10 (map zd d.Methods)),(13,iA (length d.Methods:Int)),(14,iA i),(21,.msl 2 0 (length j))]) (st0:=[some (6,[(zc d)]),some (10,[(zd c)]),some (1,map zw j)]) (zo [.old 0,.old 1,.old 2])<|zv (env0:=[(0,.ipt 2 [[.isl 6 (map zc e),.imp (map (rKV (fun x=>iA x)) f)]] 0 0),(3,.mpt 0 0 0),(6,.mpt 1 0 0),(12,.isl 10 (map zd d.Methods)),(13,iA (length d.Methods:Int)),(14,iA i),(21,.isl 1 (map zw j))]) (st0:=[some (6,[(zc d)]),some (10,[(zd c)])]) (zo [.old 0,.old 1])<|u<|slI (a:=1) (b:=(length j:Int)) ti y ti y y (zlZ y m) y m<|A ?_
   obtain ⟨o,ho,h⟩:=bs h
   refine lpS ho (fun z=>[(0,.ipt 2 [[.isl 6 (map zc e),.imp (map (rKV (fun x=>iA x)) f)]] 0 0),(3,.mpt 0 0 0),(6,.mpt 1 0 0),(12,.isl 10 (map zd d.Methods)),(13,iA (length d.Methods:Int)),(14,iA i),(22,.isl 1 (map zw l)),(23,iA (length l:Int)),(24,iA z)]) (fun z=>[some (6,[(zc d)]),some (10,[(zd c)])]) (fun b=>[(0,.ipt 2 [[.isl 6 (map zc e),.imp (map (rKV (fun x=>iA x)) f)]] 0 0),(3,.mpt 0 0 0),(12,.isl 10 (map zd d.Methods)),(13,iA (length d.Methods:Int)),(14,iA i)]) (fun b=>[some (6,[(zc d)])]) (pG Tryz.f155 bA) (zaf [.old 0,.old 1]) ?_ ?_ ?_
   ·rintro D r h
    refine A ?_
    refine zf ?_
    refine zeh h y (fun p h=>?_) fun p h=>?_
    ·refine ze<|zf<|zi ?_
     obtain ⟨E,F,h⟩:=bs h
     refine A ?_
     obtain ⟨v,G,h⟩:=bs h
     refine A ?_
     obtain ⟨H,B,h⟩:=bs h
     refine A ?_
     refine u<|pcs (zca v.1.Methods c.Name c.Params c.Ret c.Static c.Abstract c.Locals c.Stack c.Code c.Maps c.Traps B) y y (.cons (si y) (.cons (zfZ t ⟨(zbk y ⟨(si y),(si y),(si y),(si y),(si y),(si y),(si y),(si y),(si y),(si y),t⟩),t⟩) .nil)) zbI<|zx ?_
     refine zeh h y (fun q h=>?_) fun q h=>?_
     ·refine A ?_
      refine zy ?_
      obtain rfl:=sm h
      exact ⟨_,y,_,y,zad []⟩
     ·refine ze<|A ?_
      obtain rfl:=sm h
      exact ⟨_,y,zo [.old 0,.old 1]⟩
    ·refine zq ?_
     obtain rfl:=sm h
     exact ⟨y,_,y,zo [.old 0]⟩
   ·rintro ⟨⟩ rfl
    refine zn<|A ?_
    obtain rfl:=sm h
    exact ⟨_,y,zo [.old 0]⟩
   ·rintro r' rfl env st hp
    obtain rfl:=sm h
    exact ⟨_,y,hp⟩
  ·refine zq ?_
   obtain rfl:=sm h
   exact ⟨y,_,y,zo []⟩
 ·rintro ⟨⟩ rfl
  refine zn<|A ?_
  exact RT0
instance (a:List za)(b:T2)(c:za):PF Tryz.prog 155 [.ipt 2 [[.isl 6 (map zc a),.imp (map (rKV (fun x=>iA x)) b)]] 0 0,.agg (zc c)] (zgk a b c) bA:=⟨fun _=>zjH a b c⟩
def ziF(a:zb)(b:T0)(i:T1)(j:T0)(l:Bool)(m:Bool)(n:Int)(o:Int)(p:List zp)(c:List zS)(d:List zR):Option (Bool):=
  (cond (a.Name == b) ((ziq (zb.mk b i j l m n o p c d) a).bind fun e=>some (!e)) (some false)).bind fun f=>some f
instance (e:zb)(f:T0)(i:T1)(l:T0)(m:Bool)(n:Bool)(o:Int)(p:Int)(q:List zp)(c:List zS)(d:List zR):PF Tryz.prog 225 [.agg (zd e),.ipt 10 [[sA f,.isl 1 (map zw i),sA l,bA m,bA n,iA o,iA p,.isl 4 (map zt q),.isl 3 (map zK c),.isl 4 (map z6 d)]] 0 0] (ziF e f i l m n o p q c d) bA:=⟨fun r h=>by
 refine zh Tryz.func225 y kz y y<|A ?_
 obtain ⟨s,b,h⟩:=bs h
 refine A ?_
 refine ziU (x:=s) (j:=5) 4 y y y y y gpn (fun a=>by replace b:=bT a b;obtain ⟨B,v,b⟩:=bs b;obtain rfl:=sm b;exact g y a<|ld ti y y<|g y a<|ld ti y y<|g y a<|pc (zjp (zb.mk f i l m n o p q c d) e v) y y y<|g y a<|nt y<|zx (eg [10,11,12,13] 4 y y y y)) (fun hb=>(sm (bF hb b)).symm)<|A ?_
 exact RT0⟩
def zcC:Option (Int):=
  some (-1)
def zat(b:List zb)(i:T0)(j:T1)(l:T0)(m:Bool)(n:Bool)(o:Int)(p:Int)(q:List zp)(c:List zS)(d:List zR)(a:Int):Option (Sum (Int) (Sum (Unit) (Int))):=
  cond (decide (a<(length b:Int))) ((idx b a).bind fun e=>(ziF e i j l m n o p q c d).bind fun f=>cond f (some (.inr (.inr a))) (some (.inl (IntKind.i64.wrap (a+1))))) (some (.inr (.inl ())))
def zbC(d:List zb)(e:T0)(f:T1)(i:T0)(j:Bool)(l:Bool)(m:Int)(n:Int)(p:List zp)(a:List zS)(c:List zR):Option (Int):=
  (zl (fun z=>zat d e f i j l m n p a c z) 0).bind fun o=>zD o (fun b=>zcC) some
instance (d:List zb)(e:T0)(f:T1)(i:T0)(j:Bool)(l:Bool)(m:Int)(n:Int)(p:List zp)(a:List zS)(c:List zR):PF Tryz.prog 244 [.isl 10 (map zd d),.fn (.func 225) [] [.ipt 10 [[sA e,.isl 1 (map zw f),sA i,bA j,bA l,iA m,iA n,.isl 4 (map zt p),.isl 3 (map zK a),.isl 4 (map z6 c)]] 0 0]] (zbC d e f i j l m n p a c) iA:=⟨fun r h=>by
 refine zh Tryz.func244 y kz y y<|A ?_
 refine zf<|A ?_
 obtain ⟨o,ho,h⟩:=bs h
 refine lpB ho (fun z=>[(0,.isl 10 (map zd d)),(1,.fn (.func 225) [] [.ipt 10 [[sA e,.isl 1 (map zw f),sA i,bA j,bA l,iA m,iA n,.isl 4 (map zt p),.isl 3 (map zK a),.isl 4 (map z6 c)]] 0 0]),(7,iA (length d:Int)),(8,iA z)]) (fun z=>[]) (fun b=>[]) (fun b=>[]) (pG Tryz.f244 iA) (zaf []) ?_ ?_
 ·rintro v r h
  refine A ?_
  refine zf ?_
  refine zeh h y (fun q h=>?_) fun q h=>?_
  ·refine ze<|zf<|zi<|A ?_
   obtain ⟨x,C,B,D,h⟩:=bs2 h
   refine A ?_
   refine zeh h y (fun s h=>?_) fun s h=>?_
   ·refine A ?_
    refine zy ?_
    obtain rfl:=sm h
    exact ⟨_,y,_,y,zad []⟩
   ·refine ze<|A ?_
    obtain rfl:=sm h
    exact ⟨_,y,zo []⟩
  ·refine zq ?_
   obtain rfl:=sm h
   exact ⟨y,_,y,zo []⟩
 ·rintro ⟨⟩ rfl
  refine zn<|A ?_
  exact RT0⟩
def zaa(d:List zb)(e:T0)(f:T1)(i:T0)(j:Bool)(l:Bool)(m:Int)(n:Int)(o:List zp)(a:List zS)(b:List zR):Option (Bool):=
  (zbC d e f i j l m n o a b).bind fun c=>some (decide (0≤c))
theorem zcb(c:List zb)(d:T0)(e:T1)(f:T0)(i:Bool)(j:Bool)(l:Int)(m:Int)(n:List zp)(a:List zS)(b:List zR){r:Bool}(h:zaa c d e f i j l m n a b=some r):zam Tryz.prog 181 [.isl 10 (map zd c),.fn (.func 225) [] [.ipt 10 [[sA d,.isl 1 (map zw e),sA f,bA i,bA j,iA l,iA m,.isl 4 (map zt n),.isl 3 (map zK a),.isl 4 (map z6 b)]] 0 0]] (bA r):=by
 refine zh Tryz.func181 y kz y y<|A ?_
 obtain ⟨o,p,h⟩:=bs h
 refine A ?_
 exact RT0
instance (c:List zb)(d:T0)(e:T1)(f:T0)(i:Bool)(j:Bool)(l:Int)(m:Int)(n:List zp)(a:List zS)(b:List zR):PF Tryz.prog 181 [.isl 10 (map zd c),.fn (.func 225) [] [.ipt 10 [[sA d,.isl 1 (map zw e),sA f,bA i,bA j,iA l,iA m,.isl 4 (map zt n),.isl 3 (map zK a),.isl 4 (map z6 b)]] 0 0]] (zaa c d e f i j l m n a b) bA:=⟨fun _=>zcb c d e f i j l m n a b⟩
def zbH(a:zb):Bool:=
  ((!a.Static)&&(!a.Abstract))
theorem zl4(a:zb){r:Bool}(h:zbH a=r):zam Tryz.prog 235 [.agg (zd a)] (bA r):=by
 refine zh Tryz.func235 y kz y y ?_
 unfold zbH at h
 refine A ?_
 refine A ?_
 refine zy ?_
 obtain rfl:=h
 exact ⟨_,y,zad []⟩
instance (a:zb):PF Tryz.prog 235 [.agg (zd a)] (some (zbH a)) bA:=.of fun _=>zl4 a
def zq5:Option (T0×zb×Bool):=
  some ([],(zb.mk [] [] [] false false 0 0 [] [] []),false)
def zfP(l:List za)(m:T2)(e:T1)(n:T0)(a:Int):Option (Sum (Int) (Sum (Unit) (T0×zb×Bool))):=
  cond (decide (a<(length e:Int))) ((idx e a).bind fun d=>(zO l m d).bind fun b=>(ze7 b.1 n).bind fun c=>(cond (decide (0≤c)) ((idx b.1.Methods c).bind fun f=>some (zbH f)) (some false)).bind fun i=>cond i ((idx b.1.Methods c).bind fun j=>some (.inr (.inr (d,j,true)))) (some (.inl (IntKind.i64.wrap (a+1))))) (some (.inr (.inl ())))
def zkq(a:List za)(c:T2)(d:T1)(e:T0):Option (T0×zb×Bool):=
  (zl (fun z=>zfP a c d e z) 0).bind fun o=>zD o (fun b=>zq5) some
instance (i:List za)(l:T2)(d:T1)(e:T0):PF Tryz.prog 160 [.ipt 2 [[.isl 6 (map zc i),.imp (map (rKV (fun x=>iA x)) l)]] 0 0,.isl 1 (map zw d),sA e,.fn (.func 235) [] []] (zkq i l d e) (fun r=>(.tup [sA r.1,.agg (zd r.2.1),bA r.2.2])):=⟨fun r h=>by
 refine zh Tryz.func160 y kz y y<|A ?_
 refine zf<|A ?_
 obtain ⟨o,ho,h⟩:=bs h
 refine lpB ho (fun z=>[(0,.ipt 2 [[.isl 6 (map zc i),.imp (map (rKV (fun x=>iA x)) l)]] 0 0),(2,sA e),(3,.fn (.func 235) [] []),(9,.mpt 0 0 0),(16,.isl 1 (map zw d)),(17,iA (length d:Int)),(18,iA z)]) (fun z=>[some (10,[[sA [],.lit (.slice none 0 0),sA [],bA false,bA false,iA 0,iA 0,.lit (.slice none 0 0),.lit (.slice none 0 0),.lit (.slice none 0 0)]])]) (fun b=>[(9,.mpt 0 0 0)]) (fun b=>[some (10,[[sA [],.lit (.slice none 0 0),sA [],bA false,bA false,iA 0,iA 0,.lit (.slice none 0 0),.lit (.slice none 0 0),.lit (.slice none 0 0)]])]) (pG Tryz.f160 (fun r=>.tup [sA r.1,.agg (zd r.2.1),bA r.2.2])) (zaf [.old 0]) ?_ ?_
 ·rintro C r h
  refine A ?_
  refine zf ?_
  refine zeh h y (fun m h=>?_) fun m h=>?_
  ·refine ze<|zf<|zi ?_
   obtain ⟨D,E,h⟩:=bs h
   refine A ?_
   obtain ⟨p,F,h⟩:=bs h
   refine A ?_
   obtain ⟨G,q,h⟩:=bs h
   refine rg y<|u<|ld ti y y<|u<|mv y<|u<|pc (zgH p.1 e q) y y y<|u<|asg y<|zx ?_
   obtain ⟨s,c,h⟩:=bs h
   refine rg y<|u<|mv y<|u<|geq ti y y<|u<|mv y<|ziU (x:=s) (j:=2) 7 y y y y y gpn (fun a=>by replace c:=bT a c;obtain ⟨v,f,c⟩:=bs c;obtain rfl:=sm c;exact g y a<|mv y<|g y a<|fa ti y y y<|g y a<|ld ti y y<|g y a<|mv y<|g y a<|ixI ti y ti y y y f<|g y a<|ldI ti y (zaj f).2.2 y<|g y a<|pc (zl4 v y) y y y<|zx (eg [34,35,36,37,38,39,40] 7 y y y y)) (fun hb=>(sm (bF hb c)).symm)<|zx ?_
   refine zeh h y (fun n h=>?_) fun n h=>?_
   ·obtain ⟨B,H,h⟩:=bs h
    refine rdA [(8,_),(9,_),(10,_)] [some (10,[(zd B)])] [7] [0,1,2,3,4,5,6] [(8,_),(47,_),(46,_),(45,_),(44,_),(43,_),(42,_)] 1 (zcq (z:=by exact ⟨(fun _ _=>⟨_,y,y,sto ti y y y<|⟨.any,[8],[(10,_)],y,y,y,t,zcw (z:=zaf [.old 0])⟩⟩),t⟩)) ?_
    refine zy ?_
    obtain rfl:=sm h
    exact ⟨_,y,_,y,zad []⟩
   ·refine ze<|A ?_
    obtain rfl:=sm h
    exact ⟨_,y,zo [.old 0]⟩
  ·refine zq ?_
   obtain rfl:=sm h
   exact ⟨y,_,y,zo [.old 0]⟩
 ·rintro ⟨⟩ rfl
  refine zn<|A ?_
  exact RT0⟩
def zhi(a:List za)(b:T2)(d:T0)(e:T0):Option (T0×Bool):=
  (zaH a b d).bind fun f=>(zkq a b f e).bind fun c=>some (c.1,c.2.2)
instance (a:List za)(b:T2)(d:T0)(c:T0):PF Tryz.prog 164 [.ipt 2 [[.isl 6 (map zc a),.imp (map (rKV (fun x=>iA x)) b)]] 0 0,sA d,sA c] (zhi a b d c) (fun r=>(.tup [sA r.1,bA r.2])):=⟨fun r h=>by
 refine zh Tryz.func164 y kz y y<|A ?_
 obtain ⟨e,f,i,j,h⟩:=bs2 h
 refine A ?_
 refine u<|sx [] (za1 a b d f)<|zv (env0:=[(2,sA c),(12,.ipt 2 [[.isl 6 (map zc a),.imp (map (rKV (fun x=>iA x)) b)]] 0 0),(15,.msl 0 0 (length e))]) (st0:=[some (1,map zw e)]) (zo [.old 0])<|u<|mv y<|zv (env0:=[(12,.ipt 2 [[.isl 6 (map zc a),.imp (map (rKV (fun x=>iA x)) b)]] 0 0),(15,.isl 1 (map zw e)),(16,sA c)]) (st0:=[]) (zo [])<|A ?_
 refine A ?_
 exact RT0⟩
def zkk(a:zb)(b:T0)(i:T1)(j:T0)(l:Bool)(m:Bool)(n:Int)(o:Int)(p:List zp)(c:List zS)(d:List zR):Option (Bool):=
  (cond (a.Name == b) ((ziq (zb.mk b i j l m n o p c d) a).bind fun e=>some e) (some false)).bind fun f=>some f
instance (e:zb)(f:T0)(i:T1)(l:T0)(m:Bool)(n:Bool)(o:Int)(p:Int)(q:List zp)(c:List zS)(d:List zR):PF Tryz.prog 265 [.agg (zd e),.ipt 10 [[sA f,.isl 1 (map zw i),sA l,bA m,bA n,iA o,iA p,.isl 4 (map zt q),.isl 3 (map zK c),.isl 4 (map z6 d)]] 0 0] (zkk e f i l m n o p q c d) bA:=⟨fun r h=>by
 refine zh Tryz.func265 y kz y y<|A ?_
 obtain ⟨s,b,h⟩:=bs h
 refine A ?_
 refine ziU (x:=s) (j:=5) 3 y y y y y gpn (fun a=>by replace b:=bT a b;obtain ⟨B,v,b⟩:=bs b;obtain rfl:=sm b;exact g y a<|ld ti y y<|g y a<|ld ti y y<|g y a<|pc (zjp (zb.mk f i l m n o p q c d) e v) y y y<|zx (eg [10,11,12] 3 y y y y)) (fun hb=>(sm (bF hb b)).symm)<|A ?_
 exact RT0⟩
def zcE:Option (Int):=
  some (-1)
def zav(b:List zb)(i:T0)(j:T1)(l:T0)(m:Bool)(n:Bool)(o:Int)(p:Int)(q:List zp)(c:List zS)(d:List zR)(a:Int):Option (Sum (Int) (Sum (Unit) (Int))):=
  cond (decide (a<(length b:Int))) ((idx b a).bind fun e=>(zkk e i j l m n o p q c d).bind fun f=>cond f (some (.inr (.inr a))) (some (.inl (IntKind.i64.wrap (a+1))))) (some (.inr (.inl ())))
def zbE(d:List zb)(e:T0)(f:T1)(i:T0)(j:Bool)(l:Bool)(m:Int)(n:Int)(p:List zp)(a:List zS)(c:List zR):Option (Int):=
  (zl (fun z=>zav d e f i j l m n p a c z) 0).bind fun o=>zD o (fun b=>zcE) some
instance (d:List zb)(e:T0)(f:T1)(i:T0)(j:Bool)(l:Bool)(m:Int)(n:Int)(p:List zp)(a:List zS)(c:List zR):PF Tryz.prog 244 [.isl 10 (map zd d),.fn (.func 265) [] [.ipt 10 [[sA e,.isl 1 (map zw f),sA i,bA j,bA l,iA m,iA n,.isl 4 (map zt p),.isl 3 (map zK a),.isl 4 (map z6 c)]] 0 0]] (zbE d e f i j l m n p a c) iA:=⟨fun r h=>by
 refine zh Tryz.func244 y kz y y<|A ?_
 refine zf<|A ?_
 obtain ⟨o,ho,h⟩:=bs h
 refine lpB ho (fun z=>[(0,.isl 10 (map zd d)),(1,.fn (.func 265) [] [.ipt 10 [[sA e,.isl 1 (map zw f),sA i,bA j,bA l,iA m,iA n,.isl 4 (map zt p),.isl 3 (map zK a),.isl 4 (map z6 c)]] 0 0]),(7,iA (length d:Int)),(8,iA z)]) (fun z=>[]) (fun b=>[]) (fun b=>[]) (pG Tryz.f244 iA) (zaf []) ?_ ?_
 ·rintro v r h
  refine A ?_
  refine zf ?_
  refine zeh h y (fun q h=>?_) fun q h=>?_
  ·refine ze<|zf<|zi<|A ?_
   obtain ⟨x,C,B,D,h⟩:=bs2 h
   refine A ?_
   refine zeh h y (fun s h=>?_) fun s h=>?_
   ·refine A ?_
    refine zy ?_
    obtain rfl:=sm h
    exact ⟨_,y,_,y,zad []⟩
   ·refine ze<|A ?_
    obtain rfl:=sm h
    exact ⟨_,y,zo []⟩
  ·refine zq ?_
   obtain rfl:=sm h
   exact ⟨y,_,y,zo []⟩
 ·rintro ⟨⟩ rfl
  refine zn<|A ?_
  exact RT0⟩
def zac(d:List zb)(e:T0)(f:T1)(i:T0)(j:Bool)(l:Bool)(m:Int)(n:Int)(o:List zp)(a:List zS)(b:List zR):Option (Bool):=
  (zbE d e f i j l m n o a b).bind fun c=>some (decide (0≤c))
theorem zcd(c:List zb)(d:T0)(e:T1)(f:T0)(i:Bool)(j:Bool)(l:Int)(m:Int)(n:List zp)(a:List zS)(b:List zR){r:Bool}(h:zac c d e f i j l m n a b=some r):zam Tryz.prog 181 [.isl 10 (map zd c),.fn (.func 265) [] [.ipt 10 [[sA d,.isl 1 (map zw e),sA f,bA i,bA j,iA l,iA m,.isl 4 (map zt n),.isl 3 (map zK a),.isl 4 (map z6 b)]] 0 0]] (bA r):=by
 refine zh Tryz.func181 y kz y y<|A ?_
 obtain ⟨o,p,h⟩:=bs h
 refine A ?_
 exact RT0
instance (c:List zb)(d:T0)(e:T1)(f:T0)(i:Bool)(j:Bool)(l:Int)(m:Int)(n:List zp)(a:List zS)(b:List zR):PF Tryz.prog 181 [.isl 10 (map zd c),.fn (.func 265) [] [.ipt 10 [[sA d,.isl 1 (map zw e),sA f,bA i,bA j,iA l,iA m,.isl 4 (map zt n),.isl 3 (map zK a),.isl 4 (map z6 b)]] 0 0]] (zac c d e f i j l m n a b) bA:=⟨fun _=>zcd c d e f i j l m n a b⟩
def zno(b:List za)(c:T2)(e:T0)(a:zb):Option (Bool):=
  (zhi b c e a.Name).bind fun d=>cond (!d.2) (some false) ((zO b c d.1).bind fun f=>(zac f.1.Methods a.Name a.Params a.Ret a.Static a.Abstract a.Locals a.Stack a.Code a.Maps a.Traps).bind fun i=>some i)
instance (b:List za)(c:T2)(d:T0)(a:zb):PF Tryz.prog 227 [.ipt 2 [[.isl 6 (map zc b),.imp (map (rKV (fun x=>iA x)) c)]] 0 0,sA d,.agg (zd a)] (zno b c d a) bA:=⟨fun r h=>by
 refine zh Tryz.func227 y kz y y<|A ?_
 obtain ⟨j,l,h⟩:=bs h
 refine A ?_
 refine zf<|A ?_
 refine zeh h y (fun e h=>?_) fun e h=>?_
 ·refine A ?_
  exact RT0
 ·refine ze ?_
  obtain ⟨f,m,h⟩:=bs h
  refine A ?_
  obtain ⟨n,i,h⟩:=bs h
  refine A ?_
  refine u<|pcs (zcd f.1.Methods a.Name a.Params a.Ret a.Static a.Abstract a.Locals a.Stack a.Code a.Maps a.Traps i) y y (.cons (si y) (.cons (zfZ t ⟨(zbk y ⟨(si y),(si y),(si y),(si y),(si y),(si y),(si y),(si y),(si y),(si y),t⟩),t⟩) .nil)) zbI<|A ?_
  exact RT0⟩
def zkE(b:zb)(c:List za)(d:T2)(e:T0)(f:T0)(i:Bool)(j:T1)(l:List zk)(m:List zb):Option (Bool):=
  (zno c d e b).bind fun a=>some (!a)
instance (a:zb)(b:List za)(c:T2)(d:T0)(e:T0)(f:Bool)(i:T1)(j:List zk)(l:List zb):PF Tryz.prog 226 [.agg (zd a),.ipt 1 [[.ipt 2 [[.isl 6 (map zc b),.imp (map (rKV (fun x=>iA x)) c)]] 0 0]] 0 0,.ipt 6 [[sA d,sA e,bA f,.isl 1 (map zw i),.isl 3 (map zE j),.isl 10 (map zd l)]] 0 0] (zkE a b c d e f i j l) bA:=⟨fun r h=>by
 refine zh Tryz.func226 y kz y y<|A ?_
 obtain ⟨m,n,h⟩:=bs h
 refine A ?_
 exact RT0⟩
def zcD:Option (Int):=
  some (-1)
def zau(b:List zb)(e:List za)(f:T2)(i:T0)(j:T0)(l:Bool)(m:T1)(n:List zk)(o:List zb)(a:Int):Option (Sum (Int) (Sum (Unit) (Int))):=
  cond (decide (a<(length b:Int))) ((idx b a).bind fun c=>(zkE c e f i j l m n o).bind fun d=>cond d (some (.inr (.inr a))) (some (.inl (IntKind.i64.wrap (a+1))))) (some (.inr (.inl ())))
def zbD(a:List zb)(c:List za)(d:T2)(e:T0)(f:T0)(i:Bool)(j:T1)(l:List zk)(m:List zb):Option (Int):=
  (zl (fun z=>zau a c d e f i j l m z) 0).bind fun o=>zD o (fun b=>zcD) some
instance (a:List zb)(c:List za)(d:T2)(e:T0)(f:T0)(i:Bool)(j:T1)(l:List zk)(m:List zb):PF Tryz.prog 244 [.isl 10 (map zd a),.fn (.func 226) [] [.ipt 1 [[.ipt 2 [[.isl 6 (map zc c),.imp (map (rKV (fun x=>iA x)) d)]] 0 0]] 0 0,.ipt 6 [[sA e,sA f,bA i,.isl 1 (map zw j),.isl 3 (map zE l),.isl 10 (map zd m)]] 0 0]] (zbD a c d e f i j l m) iA:=⟨fun r h=>by
 refine zh Tryz.func244 y kz y y<|A ?_
 refine zf<|A ?_
 obtain ⟨o,ho,h⟩:=bs h
 refine lpB ho (fun z=>[(0,.isl 10 (map zd a)),(1,.fn (.func 226) [] [.ipt 1 [[.ipt 2 [[.isl 6 (map zc c),.imp (map (rKV (fun x=>iA x)) d)]] 0 0]] 0 0,.ipt 6 [[sA e,sA f,bA i,.isl 1 (map zw j),.isl 3 (map zE l),.isl 10 (map zd m)]] 0 0]),(7,iA (length a:Int)),(8,iA z)]) (fun z=>[]) (fun b=>[]) (fun b=>[]) (pG Tryz.f244 iA) (zaf []) ?_ ?_
 ·rintro q r h
  refine A ?_
  refine zf ?_
  refine zeh h y (fun n h=>?_) fun n h=>?_
  ·refine ze<|zf<|zi<|A ?_
   obtain ⟨s,B,v,C,h⟩:=bs2 h
   refine A ?_
   refine zeh h y (fun p h=>?_) fun p h=>?_
   ·refine A ?_
    refine zy ?_
    obtain rfl:=sm h
    exact ⟨_,y,_,y,zad []⟩
   ·refine ze<|A ?_
    obtain rfl:=sm h
    exact ⟨_,y,zo []⟩
  ·refine zq ?_
   obtain rfl:=sm h
   exact ⟨y,_,y,zo []⟩
 ·rintro ⟨⟩ rfl
  refine zn<|A ?_
  exact RT0⟩
def zab(b:List zb)(c:List za)(d:T2)(e:T0)(f:T0)(i:Bool)(j:T1)(l:List zk)(m:List zb):Option (Bool):=
  (zbD b c d e f i j l m).bind fun a=>some (decide (0≤a))
theorem zcc(a:List zb)(b:List za)(c:T2)(d:T0)(e:T0)(f:Bool)(i:T1)(j:List zk)(l:List zb){r:Bool}(h:zab a b c d e f i j l=some r):zam Tryz.prog 181 [.isl 10 (map zd a),.fn (.func 226) [] [.ipt 1 [[.ipt 2 [[.isl 6 (map zc b),.imp (map (rKV (fun x=>iA x)) c)]] 0 0]] 0 0,.ipt 6 [[sA d,sA e,bA f,.isl 1 (map zw i),.isl 3 (map zE j),.isl 10 (map zd l)]] 0 0]] (bA r):=by
 refine zh Tryz.func181 y kz y y<|A ?_
 obtain ⟨m,n,h⟩:=bs h
 refine A ?_
 exact RT0
instance (a:List zb)(b:List za)(c:T2)(d:T0)(e:T0)(f:Bool)(i:T1)(j:List zk)(l:List zb):PF Tryz.prog 181 [.isl 10 (map zd a),.fn (.func 226) [] [.ipt 1 [[.ipt 2 [[.isl 6 (map zc b),.imp (map (rKV (fun x=>iA x)) c)]] 0 0]] 0 0,.ipt 6 [[sA d,sA e,bA f,.isl 1 (map zw i),.isl 3 (map zE j),.isl 10 (map zd l)]] 0 0]] (zab a b c d e f i j l) bA:=⟨fun _=>zcc a b c d e f i j l⟩
def zmC(d:List za)(e:T2)(a:za)(b:List zb):Option (Bool):=
  cond a.Interface (some true) ((zab b d e a.Name a.Super a.Interface a.Impl a.Fields a.Methods).bind fun c=>some (!c))
def zmB(a:Int)(b:List zb):Option (Sum ((List zb)×Int) (Sum ((List zb)) (Bool))):=
  some (.inl (b,(IntKind.i64.wrap (a+1))))
def zfK(d:za×Bool)(b:List zb)(c:Int):Option (Sum ((List zb)×Int) (Sum ((List zb)) (Bool))):=
  cond (decide (c<(length d.1.Methods:Int))) ((idx d.1.Methods c).bind fun a=>(zaa b a.Name a.Params a.Ret a.Static a.Abstract a.Locals a.Stack a.Code a.Maps a.Traps).bind fun e=>cond e (some (.inr (.inr false))) ((zh9 152 b [a]).bind fun f=>some (.inl (f,(IntKind.i64.wrap (c+1)))))) (some (.inr (.inl b)))
def zfL(i:List za)(j:T2)(d:T1)(c:List zb)(a:Int):Option (Sum ((List zb)×Int) (Sum ((List zb)) (Bool))):=
  cond (decide (a<((length d):Int))) ((idx d a).bind fun e=>(zO i j e).bind fun f=>(zl (fun z=>zfK f z.1 z.2) (c,0)).bind fun o=>zD o (fun b=>zmB a b) (fun r=>some (.inr (.inr r)))) (some (.inr (.inl c)))
def ziL(a:List za)(c:T2)(d:za):Option (Bool):=
  (zdZ a c d.Name).bind fun e=>(zl (fun z=>zfL a c e z.1 z.2) ([],0)).bind fun o=>zD o (fun b=>zmC a c d b) some
theorem zmD(e:List za)(i:T2)(c:za){r:Bool}(h:ziL e i c=some r):zam Tryz.prog 156 [.ipt 2 [[.isl 6 (map zc e),.imp (map (rKV (fun x=>iA x)) i)]] 0 0,.agg (zc c)] (bA r):=by
 refine zh Tryz.func156 y kz y y<|A ?_
 refine A ?_
 refine zf ?_
 obtain ⟨d,E,h⟩:=bs h
 refine A ?_
 refine u<|sx [] (zgM e i c.Name E)<|zv (env0:=[(2,.mpt 0 0 0),(3,.mpt 1 0 0),(5,.lit (.slice none 0 0)),(15,.msl 2 0 (length d))]) (st0:=[some (1,[[.ipt 2 [[.isl 6 (map zc e),.imp (map (rKV (fun x=>iA x)) i)]] 0 0]]),some (6,[(zc c)]),some (1,map zw d)]) (zo [.old 0,.old 1,.old 2])<|A ?_
 obtain ⟨o,ho,h⟩:=bs h
 refine lpB ho (fun z=>[(2,.mpt 0 0 0),(3,.mpt 1 0 0),(5,.msl 2 0 (length z.1)),(15,.msl 3 0 (length d)),(16,iA ((length d):Int)),(17,iA z.2)]) (fun z=>[some (1,[[.ipt 2 [[.isl 6 (map zc e),.imp (map (rKV (fun x=>iA x)) i)]] 0 0]]),some (6,[(zc c)]),some (10,map zd z.1),some (1,map zw d)]) (fun b=>[(2,.mpt 0 0 0),(3,.mpt 1 0 0),(5,.msl 2 0 (length b))]) (fun b=>[some (1,[[.ipt 2 [[.isl 6 (map zc e),.imp (map (rKV (fun x=>iA x)) i)]] 0 0]]),some (6,[(zc c)]),some (10,map zd b)]) (pG Tryz.f156 bA) ⟨[.old 0,.old 1,.fresh 10,.old 2],cv y (.mpt y)<|cv y (.mpt y)<|cv y (.nilown y)<|cv y (.msl y)<|ce y y<|ce y y<|cn,y,⟨⟨_,y,zhR ⟨ci y,t⟩⟩,⟨_,y,zhR (ciL y)⟩,w,⟨_,y,zi8 (fun _=>y)⟩,t⟩,y,k⟩ ?_ ?_
 ·rintro ⟨F,j⟩ r h
  refine A ?_
  refine zf ?_
  refine zeh h y (fun m h=>?_) fun m h=>?_
  ·refine ze<|zf<|zi ?_
   obtain ⟨G,H,h⟩:=bs h
   refine A ?_
   obtain ⟨l,I,h⟩:=bs h
   refine A ?_
   refine A ?_
   obtain ⟨o,ho,h⟩:=bs h
   refine lpS ho (fun z=>[(2,.mpt 0 0 0),(3,.mpt 1 0 0),(5,.msl 2 0 (length z.1)),(15,.msl 3 0 (length d)),(16,iA ((length d):Int)),(17,iA j),(28,.isl 10 (map zd l.1.Methods)),(29,iA (length l.1.Methods:Int)),(30,iA z.2)]) (fun z=>[some (1,[[.ipt 2 [[.isl 6 (map zc e),.imp (map (rKV (fun x=>iA x)) i)]] 0 0]]),some (6,[(zc c)]),some (10,map zd z.1),some (1,map zw d)]) (fun b=>[(2,.mpt 0 0 0),(3,.mpt 1 0 0),(5,.msl 2 0 (length b)),(15,.msl 3 0 (length d)),(16,iA ((length d):Int)),(17,iA j)]) (fun b=>[some (1,[[.ipt 2 [[.isl 6 (map zc e),.imp (map (rKV (fun x=>iA x)) i)]] 0 0]]),some (6,[(zc c)]),some (10,map zd b),some (1,map zw d)]) (pG Tryz.f156 bA) (zaf [.old 0,.old 1,.old 2,.old 3]) ?_ ?_ ?_
   ·rintro ⟨s,J⟩ r h
    refine A ?_
    refine zf ?_
    refine zeh h y (fun n h=>?_) fun n h=>?_
    ·refine ze<|zf<|zi ?_
     obtain ⟨a,K,h⟩:=bs h
     refine A ?_
     refine zf ?_
     obtain ⟨L,v,h⟩:=bs h
     refine A ?_
     refine u<|pcs (zcb s a.Name a.Params a.Ret a.Static a.Abstract a.Locals a.Stack a.Code a.Maps a.Traps v) y y (.cons (zhE y (fun _=>y)) (.cons (zfZ t ⟨(zbk y ⟨(si y),(si y),(si y),(si y),(si y),(si y),(si y),(si y),(si y),(si y),t⟩),t⟩) .nil)) zbI<|zx ?_
     refine zeh h y (fun p h=>?_) fun p h=>?_
     ·refine A ?_
      refine zy ?_
      obtain rfl:=sm h
      exact ⟨_,y,_,y,zad []⟩
     ·refine ze ?_
      obtain ⟨M,B,h⟩:=bs h
      refine A ?_
      refine u<|apM 6 ti y ti y y (by decide) ti y y y y (roX (f:=zd) (z:=[a]) y y) (fun _=>y) y B<|A ?_
      refine A ?_
      obtain rfl:=sm h
      exact ⟨_,y,zo [.old 0,.old 1,.old 6,.old 3]⟩
    ·refine zq ?_
     obtain rfl:=sm h
     exact ⟨y,_,y,zo [.old 0,.old 1,.old 2,.old 3]⟩
   ·rintro N rfl
    refine zn<|A ?_
    obtain rfl:=sm h
    exact ⟨_,y,zo [.old 0,.old 1,.old 2,.old 3]⟩
   ·rintro r' rfl env st hp
    obtain rfl:=sm h
    exact ⟨_,y,hp⟩
  ·refine zq ?_
   obtain rfl:=sm h
   exact ⟨y,_,y,zo [.old 0,.old 1,.old 2]⟩
 ·rintro C rfl
  refine zn<|zf<|A ?_
  refine zeh h y (fun q h=>?_) fun q h=>?_
  ·refine A ?_
   exact RT0
  ·refine ze ?_
   obtain ⟨O,D,h⟩:=bs h
   refine A ?_
   refine u<|pcs (zcc C e i c.Name c.Super c.Interface c.Impl c.Fields c.Methods D) y y (.cons (zhE y (fun _=>y)) (.cons (zfZ t ⟨(zbk y ⟨(si y),t⟩),(zbk y ⟨(si y),(si y),(si y),(si y),(si y),(si y),t⟩),t⟩) .nil)) zbI<|A ?_
   exact RT0
instance (a:List za)(b:T2)(c:za):PF Tryz.prog 156 [.ipt 2 [[.isl 6 (map zc a),.imp (map (rKV (fun x=>iA x)) b)]] 0 0,.agg (zc c)] (ziL a b c) bA:=⟨fun _=>zmD a b c⟩
def zp9:Option (Int):=
  some 0
def zeX(a:zH)(c:T1)(b:Int):Option (Sum (Int) (Sum (Unit) (Int))):=
  cond (decide (b<((length c):Int))) ((idx c b).bind fun e=>(zO a.l a.at_ e).bind fun d=>(zgk a.l a.at_ d.1).bind fun f=>(cond (!f) (some true) ((ziL a.l a.at_ d.1).bind fun i=>some (!i))).bind fun j=>cond j (some (.inr (.inr 1))) (some (.inl (IntKind.i64.wrap (b+1))))) (some (.inr (.inl ())))
def zl1(a:zH):Option (Int):=
  (zfb a.l a.at_).bind fun c=>(zl (fun z=>zeX a c z) 0).bind fun o=>zD o (fun b=>zp9) some
def zeW(a:zH)(c:T1)(b:Int):Option (Sum (Int) (Sum (Unit) (Int))):=
  cond (decide (b<((length c):Int))) ((idx c b).bind fun f=>(zO a.l a.at_ f).bind fun d=>(ziM a.l a.at_ d.1).bind fun e=>cond (!e) (some (.inr (.inr 4))) (some (.inl (IntKind.i64.wrap (b+1))))) (some (.inr (.inl ())))
def ze9(c:Option zH):Option (Int):=
  zuB c (none) (fun a=>(zfb a.l a.at_).bind fun d=>(zl (fun z=>zeW a d z) 0).bind fun o=>zD o (fun b=>zl1 a) some)
theorem zhn(m:Option zH){r:Int}(h:ze9 m=some r):zam Tryz.prog 92 [ziT 2 zbl m] (iA r):=by
 refine zh Tryz.func92 y kz y y ?_
 unfold ze9 at h
 rcases m with _ |a
 ·replace h:=oeN h
  cases h
 ·replace h:=oeS h
  refine A ?_
  refine zf ?_
  obtain ⟨f,G,h⟩:=bs h
  refine rg y<|u<|mv y<|u<|sx [] (ziP a.l a.at_ G)<|zv (env0:=[(0,.ipt 2 [[.isl 6 (map zc a.l),.imp (map (rKV (fun x=>iA x)) a.at_)]] 0 0),(12,.msl 0 0 (length f))]) (st0:=[some (1,map zw f)]) (zo [.old 0])<|A ?_
  obtain ⟨o,ho,h⟩:=bs h
  refine lpB ho (fun z=>[(0,.ipt 2 [[.isl 6 (map zc a.l),.imp (map (rKV (fun x=>iA x)) a.at_)]] 0 0),(12,.msl 0 0 (length f)),(13,iA ((length f):Int)),(14,iA z)]) (fun z=>[some (1,map zw f)]) (fun b=>[(0,.ipt 2 [[.isl 6 (map zc a.l),.imp (map (rKV (fun x=>iA x)) a.at_)]] 0 0)]) (fun b=>[]) (pG Tryz.f92 iA) (zaf [.old 0]) ?_ ?_
  ·rintro O r h
   refine A ?_
   refine zf ?_
   refine zeh h y (fun s h=>?_) fun s h=>?_
   ·refine ze<|zf<|zi ?_
    obtain ⟨P,Q,h⟩:=bs h
    refine A ?_
    obtain ⟨v,R,h⟩:=bs h
    refine A ?_
    obtain ⟨H,B,h⟩:=bs h
    refine rg y<|u<|mv y<|u<|ld ti y y<|u<|pc (zmE a.l a.at_ v.1 B) y y y<|u<|nt y<|zx ?_
    refine zeh h y (fun n h=>?_) fun n h=>?_
    ·refine A ?_
     refine zy ?_
     obtain rfl:=sm h
     exact ⟨_,y,_,y,zad []⟩
    ·refine ze<|A ?_
     obtain rfl:=sm h
     exact ⟨_,y,zo [.old 0]⟩
   ·refine zq ?_
    obtain rfl:=sm h
    exact ⟨y,_,y,zo []⟩
  ·rintro ⟨⟩ rfl
   refine zn<|zf ?_
   obtain ⟨e,C,h⟩:=bs h
   refine rg y<|u<|mv y<|u<|sx [] (ziP a.l a.at_ C)<|zv (env0:=[(0,.ipt 2 [[.isl 6 (map zc a.l),.imp (map (rKV (fun x=>iA x)) a.at_)]] 0 0),(30,.msl 0 0 (length e))]) (st0:=[some (1,map zw e)]) (zo [.old 0])<|A ?_
   obtain ⟨o,ho,h⟩:=bs h
   refine lpB ho (fun z=>[(0,.ipt 2 [[.isl 6 (map zc a.l),.imp (map (rKV (fun x=>iA x)) a.at_)]] 0 0),(30,.msl 0 0 (length e)),(31,iA ((length e):Int)),(32,iA z)]) (fun z=>[some (1,map zw e)]) (fun b=>[]) (fun b=>[]) (pG Tryz.f92 iA) (zaf [.old 0]) ?_ ?_
   ·rintro I r h
    refine A ?_
    refine zf ?_
    refine zeh h y (fun p h=>?_) fun p h=>?_
    ·refine ze<|zf<|zi ?_
     obtain ⟨J,K,h⟩:=bs h
     refine A ?_
     obtain ⟨i,L,h⟩:=bs h
     refine A ?_
     obtain ⟨M,D,E,d,h⟩:=bs2 h
     refine rg y<|u<|mv y<|u<|ld ti y y<|u<|pc (zjH a.l a.at_ i.1 D) y y y<|u<|nt y<|u<|mv y<|ztr (x:=E) (j:=4) 4 y y y y y gpn (fun c=>by replace d:=bF c d;obtain ⟨N,F,d⟩:=bs d;obtain rfl:=sm d;exact g y c<|mv y<|g y c<|ld ti y y<|g y c<|pc (zmD a.l a.at_ i.1 F) y y y<|g y c<|nt y<|zx (eg [47,48,49,50] 4 y y y y)) (fun hb=>(sm (bT hb d)).symm)<|zx ?_
     refine zeh h y (fun q h=>?_) fun q h=>?_
     ·refine A ?_
      refine zy ?_
      obtain rfl:=sm h
      exact ⟨_,y,_,y,zad []⟩
     ·refine ze<|A ?_
      obtain rfl:=sm h
      exact ⟨_,y,zo [.old 0]⟩
    ·refine zq ?_
     obtain rfl:=sm h
     exact ⟨y,_,y,zo []⟩
   ·rintro ⟨⟩ rfl
    refine zn<|A ?_
    exact RT0
instance (a:Option zH):PF Tryz.prog 92 [ziT 2 zbl a] (ze9 a) iA:=⟨fun _=>zhn a⟩
def zhp(a:T0):Bool:=
  false
instance (a:T0):PF Tryz.prog 59 [.lit (.pointer none),sA a] (some (zhp a)) bA:=.of fun r h=>by
 refine zh Tryz.func59 y kz y y ?_
 unfold zhp at h
 refine A ?_
 refine zf<|A ?_
 refine znf y (fun _=>?_) (fun hx=>by cases hx)
 refine A ?_
 refine zy ?_
 obtain rfl:=h
 exact ⟨_,y,zad []⟩
def zod:Option (T1):=
  some []
def zoe(a:T0):Option (Sum (Unit) (Sum (Unit) (T1))):=
  cond (zhp a) ((zh9 16 ([]:T1) [a]).bind fun b=>none) (some (.inr (.inl ())))
def zi5(a:T0):Option (T1):=
  (zl (fun z=>zoe a) ()).bind fun o=>zD o (fun b=>zod) some
theorem zjK(a:T0){r:T1}(h:zi5 a=some r):zam Tryz.prog 66 [.lit (.pointer none),sA a] (.isl 1 (map zw r)):=by
 refine zh Tryz.func66 y kz y y<|A ?_
 refine A ?_
 obtain ⟨o,ho,h⟩:=bs h
 refine lpA ho (fun z=>[(0,.lit (.pointer none)),(1,sA a),(5,.lit (.slice none 0 0))]) (fun z=>[]) (fun b=>[(5,.lit (.slice none 0 0))]) (fun b=>[]) (pG Tryz.f66 (fun r=>.isl 1 (map zw r))) (zaf []) ?_ ?_
 ·rintro ⟨⟩ r h
  refine zf<|A ?_
  refine zeh h y (fun c h=>?_) fun c h=>?_
  ·refine ze<|zi ?_
   obtain ⟨e,d,h⟩:=bs h
   refine A ?_
   refine u<|apN (f:=zw) 1 ti y ti y y (by decide) ti y y y (roX (f:=zw) (z:=[a]) y y) (fun _=>y) y d<|A ?_
   cases h
  ·refine zq ?_
   obtain rfl:=sm h
   exact ⟨y,_,y,zo []⟩
 ·rintro ⟨⟩ rfl
  refine A ?_
  exact RT0
instance (a:T0):PF Tryz.prog 66 [.lit (.pointer none),sA a] (zi5 a) (fun r=>(.isl 1 (map zw r))):=⟨fun _=>zjK a⟩
def zkn(a:T0):Option (za×Bool):=
  cond (!(zhp a)) (some ((za.mk [] [] false [] [] []),false)) (none)
instance (a:T0):PF Tryz.prog 63 [.lit (.pointer none),sA a] (zkn a) (fun r=>(.tup [.agg (zc r.1),bA r.2])):=⟨fun r h=>by
 refine zh Tryz.func63 y kz y y<|A ?_
 refine zf<|A ?_
 refine zeh h y (fun b h=>?_) fun b h=>?_
 ·refine A ?_
  exact RT0
 ·refine ze ?_
  cases h⟩
def zq6:Option (T0×zb×Bool):=
  some ([],(zb.mk [] [] [] false false 0 0 [] [] []),false)
def zq7(e:T1)(l:T0)(a:Int):Option (Sum (Int) (Sum (Unit) (T0×zb×Bool))):=
  cond (decide (a<(length e:Int))) ((idx e a).bind fun d=>(zkn d).bind fun b=>(ze7 b.1 l).bind fun c=>(cond (decide (0≤c)) ((idx b.1.Methods c).bind fun f=>some (zaT f)) (some false)).bind fun i=>cond i ((idx b.1.Methods c).bind fun j=>some (.inr (.inr (d,j,true)))) (some (.inl (IntKind.i64.wrap (a+1))))) (some (.inr (.inl ())))
def zmQ(a:T1)(c:T0):Option (T0×zb×Bool):=
  (zl (fun z=>zq7 a c z) 0).bind fun o=>zD o (fun b=>zq6) some
theorem zmR(d:T1)(e:T0){r:T0×zb×Bool}(h:zmQ d e=some r):zam Tryz.prog 160 [.lit (.pointer none),.isl 1 (map zw d),sA e,.fn (.func 161) [] []] (.tup [sA r.1,.agg (zd r.2.1),bA r.2.2]):=by
 refine zh Tryz.func160 y kz y y<|A ?_
 refine zf<|A ?_
 obtain ⟨o,ho,h⟩:=bs h
 refine lpB ho (fun z=>[(0,.lit (.pointer none)),(2,sA e),(3,.fn (.func 161) [] []),(9,.mpt 0 0 0),(16,.isl 1 (map zw d)),(17,iA (length d:Int)),(18,iA z)]) (fun z=>[some (10,[[sA [],.lit (.slice none 0 0),sA [],bA false,bA false,iA 0,iA 0,.lit (.slice none 0 0),.lit (.slice none 0 0),.lit (.slice none 0 0)]])]) (fun b=>[(9,.mpt 0 0 0)]) (fun b=>[some (10,[[sA [],.lit (.slice none 0 0),sA [],bA false,bA false,iA 0,iA 0,.lit (.slice none 0 0),.lit (.slice none 0 0),.lit (.slice none 0 0)]])]) (pG Tryz.f160 (fun r=>.tup [sA r.1,.agg (zd r.2.1),bA r.2.2])) (zaf [.old 0]) ?_ ?_
 ·rintro v r h
  refine A ?_
  refine zf ?_
  refine zeh h y (fun i h=>?_) fun i h=>?_
  ·refine ze<|zf<|zi ?_
   obtain ⟨B,C,h⟩:=bs h
   refine A ?_
   obtain ⟨m,D,h⟩:=bs h
   refine A ?_
   obtain ⟨E,n,h⟩:=bs h
   refine rg y<|u<|ld ti y y<|u<|mv y<|u<|pc (zgH m.1 e n) y y y<|u<|asg y<|zx ?_
   obtain ⟨p,c,h⟩:=bs h
   refine rg y<|u<|mv y<|u<|geq ti y y<|u<|mv y<|ziU (x:=p) (j:=2) 7 y y y y y gpn (fun a=>by replace c:=bT a c;obtain ⟨q,f,c⟩:=bs c;obtain rfl:=sm c;exact g y a<|mv y<|g y a<|fa ti y y y<|g y a<|ld ti y y<|g y a<|mv y<|g y a<|ixI ti y ti y y y f<|g y a<|ldI ti y (zaj f).2.2 y<|g y a<|pc (zi7 q y) y y y<|zx (eg [34,35,36,37,38,39,40] 7 y y y y)) (fun hb=>(sm (bF hb c)).symm)<|zx ?_
   refine zeh h y (fun l h=>?_) fun l h=>?_
   ·obtain ⟨s,F,h⟩:=bs h
    refine rdA [(8,_),(9,_),(10,_)] [some (10,[(zd s)])] [7] [0,1,2,3,4,5,6] [(8,_),(47,_),(46,_),(45,_),(44,_),(43,_),(42,_)] 1 (zcq (z:=by exact ⟨(fun _ _=>⟨_,y,y,sto ti y y y<|⟨.any,[8],[(10,_)],y,y,y,t,zcw (z:=zaf [.old 0])⟩⟩),t⟩)) ?_
    refine zy ?_
    obtain rfl:=sm h
    exact ⟨_,y,_,y,zad []⟩
   ·refine ze<|A ?_
    obtain rfl:=sm h
    exact ⟨_,y,zo [.old 0]⟩
  ·refine zq ?_
   obtain rfl:=sm h
   exact ⟨y,_,y,zo [.old 0]⟩
 ·rintro ⟨⟩ rfl
  refine zn<|A ?_
  exact RT0
instance (a:T1)(b:T0):PF Tryz.prog 160 [.lit (.pointer none),.isl 1 (map zw a),sA b,.fn (.func 161) [] []] (zmQ a b) (fun r=>(.tup [sA r.1,.agg (zd r.2.1),bA r.2.2])):=⟨fun _=>zmR a b⟩
def zjN(f:Option zH)(d:T0)(e:T0):Option (T0×zb×Bool):=
  zuB f ((zi5 d).bind fun i=>(zmQ i e).bind fun b=>some (b.1,b.2.1,b.2.2)) (fun a=>(zaH a.l a.at_ d).bind fun j=>(ziS a.l a.at_ j e).bind fun c=>some (c.1,c.2.1,c.2.2))
theorem znU(d:Option zH)(c:T0)(b:T0){r:T0×zb×Bool}(h:zjN d c b=some r):zam Tryz.prog 95 [ziT 2 zbl d,sA c,sA b] (.tup [sA r.1,.agg (zd r.2.1),bA r.2.2]):=by
 refine zh Tryz.func95 y kz y y ?_
 unfold zjN at h
 rcases d with _ |a
 ·replace h:=oeN h
  refine A ?_
  obtain ⟨f,i,n,j,h⟩:=bs2 h
  refine rg y<|u<|mv y<|u<|mv y<|u<|mv y<|u<|pc (zjK c i) y y y<|u<|mv y<|u<|pc (zmR f b j) y y y<|u<|ex y y<|u<|ex y y<|u<|ex y y<|u<|asg y<|u<|sto ti y y y<|u<|asg y<|zx ?_
  exact RT0
 ·replace h:=oeS h
  refine A ?_
  obtain ⟨e,m,o,p,h⟩:=bs2 h
  refine A ?_
  refine u<|sx [] (za1 a.l a.at_ c m)<|zv (env0:=[(2,sA b),(7,.mpt 0 0 0),(9,.ipt 2 [[.isl 6 (map zc a.l),.imp (map (rKV (fun x=>iA x)) a.at_)]] 0 0),(12,.msl 1 0 (length e))]) (st0:=[some (10,[[sA [],.lit (.slice none 0 0),sA [],bA false,bA false,iA 0,iA 0,.lit (.slice none 0 0),.lit (.slice none 0 0),.lit (.slice none 0 0)]]),some (1,map zw e)]) (zo [.old 0,.old 1])<|u<|mv y<|zv (env0:=[(7,.mpt 0 0 0),(9,.ipt 2 [[.isl 6 (map zc a.l),.imp (map (rKV (fun x=>iA x)) a.at_)]] 0 0),(12,.isl 1 (map zw e)),(13,sA b)]) (st0:=[some (10,[[sA [],.lit (.slice none 0 0),sA [],bA false,bA false,iA 0,iA 0,.lit (.slice none 0 0),.lit (.slice none 0 0),.lit (.slice none 0 0)]])]) (zo [.old 0])<|A ?_
  exact RT0
instance (a:Option zH)(b:T0)(c:T0):PF Tryz.prog 95 [ziT 2 zbl a,sA b,sA c] (zjN a b c) (fun r=>(.tup [sA r.1,.agg (zd r.2.1),bA r.2.2])):=⟨fun _=>znU a b c⟩
def zqO(a:(Option zH)×Int):Option ((Option zH)×Int):=
  some (a.1,0)
def zmA(a:Int):Option (Sum (Int) (Sum (Unit) ((Option zH)×Int))):=
  some (.inl (IntKind.i64.wrap (a+1)))
def zfI(f:(Option zH)×Int)(b:za)(a:Int):Option (Sum (Int) (Sum (Unit) ((Option zH)×Int))):=
  cond (decide (a<(length b.Methods:Int))) ((idx b.Methods a).bind fun c=>(cond (!c.Abstract) ((zbX f.1 b.Name a).bind fun d=>some (!d)) (some false)).bind fun e=>cond e (some (.inr (.inr (none,5)))) (some (.inl (IntKind.i64.wrap (a+1))))) (some (.inr (.inl ())))
def zfJ(c:List za)(e:(Option zH)×Int)(a:Int):Option (Sum (Int) (Sum (Unit) ((Option zH)×Int))):=
  cond (decide (a<(length c:Int))) ((idx c a).bind fun d=>(zl (fun z=>zfI e d z) 0).bind fun o=>zD o (fun b=>zmA a) (fun r=>some (.inr (.inr r)))) (some (.inr (.inl ())))
def zfY(d:List za)(e:zbu):Option ((Option zH)×Int):=
  (zko d).bind fun a=>cond (!(a.2 == (0:Int))) (some (none,a.2)) ((ze9 a.1).bind fun f=>cond (!(f == (0:Int))) (some (none,f)) ((zjN a.1 e.C e.M).bind fun c=>cond ((((!c.2.2)||(!c.2.1.Static))||(decide (0<(length c.2.1.Params:Int))))||(!(c.2.1.Ret == [86]))) (some (none,4)) ((zl (fun z=>zfJ d a z) 0).bind fun o=>zD o (fun b=>zqO a) some)))
theorem zhU(d:List za)(i:zbu){r:(Option zH)×Int}(h:zfY d i=some r):zam Tryz.prog 49 [.isl 6 (map zc d),.agg (zgO i)] (.tup [ziT 2 zbl r.1,iA r.2]):=by
 refine zh Tryz.func49 y kz y (zwB (ztN (zpX (fun _=>y)) (y))) ?_
 refine A ?_
 obtain ⟨e,L,h⟩:=bs h
 refine A ?_
 refine zf<|A ?_
 refine zeh h y (fun q h=>?_) fun q h=>?_
 ·refine A ?_
  exact RT0
 ·refine ze<|zf ?_
  obtain ⟨N,F,h⟩:=bs h
  refine rg y<|u<|mv y<|u<|pc (zhn e.1 F) y y (ztN (zpX (fun _=>y)) (y))<|A ?_
  refine A ?_
  refine zeh h y (fun s h=>?_) fun s h=>?_
  ·refine A ?_
   exact RT0
  ·refine ze<|zf ?_
   obtain ⟨O,G,h⟩:=bs h
   refine A ?_
   refine u<|pc (znU e.1 i.C i.M G) y y (ztN (zpX (fun _=>y)) (y))<|A ?_
   refine A ?_
   refine zeh h y (fun v h=>?_) fun v h=>?_
   ·refine A ?_
    exact RT0
   ·refine ze<|zf<|A ?_
    obtain ⟨o,ho,h⟩:=bs h
    refine lpB ho (fun z=>[(6,ziT 2 zbl e.1),(57,.isl 6 (map zc d)),(58,iA (length d:Int)),(59,iA z)]) (fun z=>[]) (fun b=>[(6,ziT 2 zbl e.1)]) (fun b=>[]) (pG Tryz.f49 (fun r=>.tup [ziT 2 zbl r.1,iA r.2])) (zaf []) ?_ ?_
    ·rintro l r h
     refine A ?_
     refine zf ?_
     refine zeh h y (fun m h=>?_) fun m h=>?_
     ·refine ze<|zf<|zi ?_
      obtain ⟨f,H,h⟩:=bs h
      refine A ?_
      refine A ?_
      obtain ⟨o,ho,h⟩:=bs h
      refine lpS ho (fun z=>[(6,ziT 2 zbl e.1),(13,.mpt 0 0 0),(57,.isl 6 (map zc d)),(58,iA (length d:Int)),(59,iA l),(64,.isl 10 (map zd f.Methods)),(65,iA (length f.Methods:Int)),(66,iA z)]) (fun z=>[some (6,[(zc f)])]) (fun b=>[(6,ziT 2 zbl e.1),(57,.isl 6 (map zc d)),(58,iA (length d:Int)),(59,iA l)]) (fun b=>[]) (pG Tryz.f49 (fun r=>.tup [ziT 2 zbl r.1,iA r.2])) (zaf [.old 0]) ?_ ?_ ?_
      ·rintro B r h
       refine A ?_
       refine zf ?_
       refine zeh h y (fun n h=>?_) fun n h=>?_
       ·refine ze<|zf<|zi ?_
        obtain ⟨I,J,h⟩:=bs h
        refine A ?_
        obtain ⟨D,c,h⟩:=bs h
        refine A ?_
        refine ziU (x:=D) (j:=3) 6 y y y y y gpn (fun a=>by replace c:=bT a c;obtain ⟨K,E,c⟩:=bs c;obtain rfl:=sm c;exact g y a<|mv y<|g y a<|fa ti y y y<|g y a<|ld ti y y<|g y a<|mv y<|g y a<|pc (zc2 e.1 f.Name B E) y y (ztN (zpX (fun _=>y)) (y))<|g y a<|nt y<|zx (eg [75,76,77,78,79,80] 6 y y y y)) (fun hb=>(sm (bF hb c)).symm)<|zx ?_
        refine zeh h y (fun p h=>?_) fun p h=>?_
        ·refine A ?_
         refine zy ?_
         obtain rfl:=sm h
         exact ⟨_,y,_,y,zad []⟩
        ·refine ze<|A ?_
         obtain rfl:=sm h
         exact ⟨_,y,zo [.old 0]⟩
       ·refine zq ?_
        obtain rfl:=sm h
        exact ⟨y,_,y,zo []⟩
      ·rintro ⟨⟩ rfl
       refine zn<|A ?_
       obtain rfl:=sm h
       exact ⟨_,y,zo []⟩
      ·rintro r' rfl env st hp
       obtain rfl:=sm h
       exact ⟨_,y,hp⟩
     ·refine zq ?_
      obtain rfl:=sm h
      exact ⟨y,_,y,zo []⟩
    ·rintro ⟨⟩ rfl
     refine zn<|A ?_
     exact RT0
instance (a:List za)(b:zbu):PF Tryz.prog 49 [.isl 6 (map zc a),.agg (zgO b)] (zfY a b) (fun r=>(.tup [ziT 2 zbl r.1,iA r.2])):=⟨fun _=>zhU a b⟩
def zoi:Option (Bool):=
  (zoj).bind fun a=>some a
theorem zrX{r:Bool}(h:zoi=some r):zam Tryz.prog 91 [] (bA r):=by
 refine zh Tryz.func91 y kz y y<|A ?_
 obtain ⟨a,b,h⟩:=bs h
 refine A ?_
 exact RT0
instance:PF Tryz.prog 91 [] (zoi) bA:=⟨fun _=>zrX ⟩
def zlz:Option (Bool):=
  (zfY ([(za.mk [70,97,99,101] [79,98,106,101,99,116] true [] [] ([(zb.mk [102] [] [73] false true 0 0 [] [] [])])),(za.mk [65,97] [79,98,106,101,99,116] false ([[70,97,99,101]]) ([(zk.mk [120] [73] false),(zk.mk [115] [73] true)]) ([(zb.mk [102] [] [73] false false 1 1 ([(zp.mk 1 5 [] []),(zp.mk 47 0 [] [])]) [] [])])),(za.mk [66,98] [65,97] false [] ([(zk.mk [121] [91,65,97] false)]) ([(zb.mk [109,97,105,110] [] [86] true false 0 0 ([(zp.mk 46 0 [] [])]) [] [])]))]) (zbu.mk [66,98] [109,97,105,110])).bind fun a=>(zfY ([(za.mk [70,97,99,101] [79,98,106,101,99,116] true [] [] ([(zb.mk [102] [] [73] false true 0 0 [] [] [])])),(za.mk [65,97] [79,98,106,101,99,116] false ([[70,97,99,101]]) ([(zk.mk [120] [73] false),(zk.mk [115] [73] true)]) ([(zb.mk [102] [] [73] false false 1 1 ([(zp.mk 1 5 [] []),(zp.mk 47 0 [] [])]) [] [])])),(za.mk [66,98] [65,97] false [] ([(zk.mk [121] [91,65,97] false)]) ([(zb.mk [109,97,105,110] [] [86] true false 0 0 ([(zp.mk 46 0 [] [])]) [] [])]))]) (zbu.mk [66,98] [102])).bind fun b=>(zfY ([(za.mk [70,97,99,101] [79,98,106,101,99,116] true [] [] ([(zb.mk [102] [] [73] false true 0 0 [] [] [])])),(za.mk [65,97] [79,98,106,101,99,116] false ([[70,97,99,101]]) ([(zk.mk [120] [73] false),(zk.mk [115] [73] true)]) []),(za.mk [66,98] [65,97] false [] ([(zk.mk [121] [91,65,97] false)]) ([(zb.mk [109,97,105,110] [] [86] true false 0 0 ([(zp.mk 46 0 [] [])]) [] [])]))]) (zbu.mk [66,98] [109,97,105,110])).bind fun c=>(zoi).bind fun d=>(cond ((((d&&(a.2 == (0:Int)))&&(!Option.isNone a.1))&&(b.2 == (4:Int)))&&(c.2 == (1:Int))) ((ze9 a.1).bind fun e=>some (e == (0:Int))) (some false)).bind fun f=>some f
theorem zrZ{r:Bool}(h:zlz=some r):zam Tryz.prog 44 [] (bA r):=by
 refine zh Tryz.func44 y kz y y<|A ?_
 obtain ⟨b,i,h⟩:=bs h
 refine rg y<|u<|sx [] (zjM y)<|zv (env0:=[(9,.msl 0 0 3)]) (st0:=[some (6,[[sA [70,97,99,101],sA [79,98,106,101,99,116],bA true,.lit (.slice none 0 0),.lit (.slice none 0 0),.msl 1 0 1],[sA [65,97],sA [79,98,106,101,99,116],bA false,.msl 2 0 1,.msl 3 0 2,.msl 4 0 1],[sA [66,98],sA [65,97],bA false,.lit (.slice none 0 0),.msl 6 0 1,.msl 7 0 1]]),some (10,[[sA [102],.lit (.slice none 0 0),sA [73],bA false,bA true,iA 0,iA 0,.lit (.slice none 0 0),.lit (.slice none 0 0),.lit (.slice none 0 0)]]),some (1,[[sA [70,97,99,101]]]),some (3,[[sA [120],sA [73],bA false],[sA [115],sA [73],bA true]]),some (10,[[sA [102],.lit (.slice none 0 0),sA [73],bA false,bA false,iA 1,iA 1,.msl 5 0 2,.lit (.slice none 0 0),.lit (.slice none 0 0)]]),some (4,[[iA 1,iA 5,sA [],sA []],[iA 47,iA 0,sA [],sA []]]),some (3,[[sA [121],sA [91,65,97],bA false]]),some (10,[[sA [109,97,105,110],.lit (.slice none 0 0),sA [86],bA true,bA false,iA 0,iA 0,.msl 8 0 1,.lit (.slice none 0 0),.lit (.slice none 0 0)]]),some (4,[[iA 46,iA 0,sA [],sA []]])]) (zo [.old 0,.old 1,.old 2,.old 3,.old 4,.old 5,.old 6,.old 7,.old 8])<|u<|bd ti y y y<|zv (env0:=[(9,.isl 6 (map zc ([(za.mk [70,97,99,101] [79,98,106,101,99,116] true [] [] ([(zb.mk [102] [] [73] false true 0 0 [] [] [])])),(za.mk [65,97] [79,98,106,101,99,116] false ([[70,97,99,101]]) ([(zk.mk [120] [73] false),(zk.mk [115] [73] true)]) ([(zb.mk [102] [] [73] false false 1 1 ([(zp.mk 1 5 [] []),(zp.mk 47 0 [] [])]) [] [])])),(za.mk [66,98] [65,97] false [] ([(zk.mk [121] [91,65,97] false)]) ([(zb.mk [109,97,105,110] [] [86] true false 0 0 ([(zp.mk 46 0 [] [])]) [] [])]))]))),(10,.agg [sA [66,98],sA [109,97,105,110]])]) (st0:=[]) (zo [])<|u<|pc (zhU ([(za.mk [70,97,99,101] [79,98,106,101,99,116] true [] [] ([(zb.mk [102] [] [73] false true 0 0 [] [] [])])),(za.mk [65,97] [79,98,106,101,99,116] false ([[70,97,99,101]]) ([(zk.mk [120] [73] false),(zk.mk [115] [73] true)]) ([(zb.mk [102] [] [73] false false 1 1 ([(zp.mk 1 5 [] []),(zp.mk 47 0 [] [])]) [] [])])),(za.mk [66,98] [65,97] false [] ([(zk.mk [121] [91,65,97] false)]) ([(zb.mk [109,97,105,110] [] [86] true false 0 0 ([(zp.mk 46 0 [] [])]) [] [])]))]) (zbu.mk [66,98] [109,97,105,110]) i) y y y<|A ?_
 obtain ⟨e,l,h⟩:=bs h
 refine rg y<|u<|sx [] (zjM y)<|zv (env0:=[(1,ziT 2 zbl b.1),(2,iA b.2),(15,.msl 0 0 3)]) (st0:=[some (6,[[sA [70,97,99,101],sA [79,98,106,101,99,116],bA true,.lit (.slice none 0 0),.lit (.slice none 0 0),.msl 1 0 1],[sA [65,97],sA [79,98,106,101,99,116],bA false,.msl 2 0 1,.msl 3 0 2,.msl 4 0 1],[sA [66,98],sA [65,97],bA false,.lit (.slice none 0 0),.msl 6 0 1,.msl 7 0 1]]),some (10,[[sA [102],.lit (.slice none 0 0),sA [73],bA false,bA true,iA 0,iA 0,.lit (.slice none 0 0),.lit (.slice none 0 0),.lit (.slice none 0 0)]]),some (1,[[sA [70,97,99,101]]]),some (3,[[sA [120],sA [73],bA false],[sA [115],sA [73],bA true]]),some (10,[[sA [102],.lit (.slice none 0 0),sA [73],bA false,bA false,iA 1,iA 1,.msl 5 0 2,.lit (.slice none 0 0),.lit (.slice none 0 0)]]),some (4,[[iA 1,iA 5,sA [],sA []],[iA 47,iA 0,sA [],sA []]]),some (3,[[sA [121],sA [91,65,97],bA false]]),some (10,[[sA [109,97,105,110],.lit (.slice none 0 0),sA [86],bA true,bA false,iA 0,iA 0,.msl 8 0 1,.lit (.slice none 0 0),.lit (.slice none 0 0)]]),some (4,[[iA 46,iA 0,sA [],sA []]])]) (zo [.old 0,.old 1,.old 2,.old 3,.old 4,.old 5,.old 6,.old 7,.old 8])<|u<|bd ti y y y<|zv (env0:=[(1,ziT 2 zbl b.1),(2,iA b.2),(15,.isl 6 (map zc ([(za.mk [70,97,99,101] [79,98,106,101,99,116] true [] [] ([(zb.mk [102] [] [73] false true 0 0 [] [] [])])),(za.mk [65,97] [79,98,106,101,99,116] false ([[70,97,99,101]]) ([(zk.mk [120] [73] false),(zk.mk [115] [73] true)]) ([(zb.mk [102] [] [73] false false 1 1 ([(zp.mk 1 5 [] []),(zp.mk 47 0 [] [])]) [] [])])),(za.mk [66,98] [65,97] false [] ([(zk.mk [121] [91,65,97] false)]) ([(zb.mk [109,97,105,110] [] [86] true false 0 0 ([(zp.mk 46 0 [] [])]) [] [])]))]))),(16,.agg [sA [66,98],sA [102]])]) (st0:=[]) (zo [])<|u<|pc (zhU ([(za.mk [70,97,99,101] [79,98,106,101,99,116] true [] [] ([(zb.mk [102] [] [73] false true 0 0 [] [] [])])),(za.mk [65,97] [79,98,106,101,99,116] false ([[70,97,99,101]]) ([(zk.mk [120] [73] false),(zk.mk [115] [73] true)]) ([(zb.mk [102] [] [73] false false 1 1 ([(zp.mk 1 5 [] []),(zp.mk 47 0 [] [])]) [] [])])),(za.mk [66,98] [65,97] false [] ([(zk.mk [121] [91,65,97] false)]) ([(zb.mk [109,97,105,110] [] [86] true false 0 0 ([(zp.mk 46 0 [] [])]) [] [])]))]) (zbu.mk [66,98] [102]) l) y y y<|A ?_
 refine rg y<|u<|sx [] (zjM y)<|zv (env0:=[(1,ziT 2 zbl b.1),(2,iA b.2),(4,iA e.2),(20,.msl 0 0 3)]) (st0:=[some (6,[[sA [70,97,99,101],sA [79,98,106,101,99,116],bA true,.lit (.slice none 0 0),.lit (.slice none 0 0),.msl 1 0 1],[sA [65,97],sA [79,98,106,101,99,116],bA false,.msl 2 0 1,.msl 3 0 2,.msl 4 0 1],[sA [66,98],sA [65,97],bA false,.lit (.slice none 0 0),.msl 6 0 1,.msl 7 0 1]]),some (10,[[sA [102],.lit (.slice none 0 0),sA [73],bA false,bA true,iA 0,iA 0,.lit (.slice none 0 0),.lit (.slice none 0 0),.lit (.slice none 0 0)]]),some (1,[[sA [70,97,99,101]]]),some (3,[[sA [120],sA [73],bA false],[sA [115],sA [73],bA true]]),some (10,[[sA [102],.lit (.slice none 0 0),sA [73],bA false,bA false,iA 1,iA 1,.msl 5 0 2,.lit (.slice none 0 0),.lit (.slice none 0 0)]]),some (4,[[iA 1,iA 5,sA [],sA []],[iA 47,iA 0,sA [],sA []]]),some (3,[[sA [121],sA [91,65,97],bA false]]),some (10,[[sA [109,97,105,110],.lit (.slice none 0 0),sA [86],bA true,bA false,iA 0,iA 0,.msl 8 0 1,.lit (.slice none 0 0),.lit (.slice none 0 0)]]),some (4,[[iA 46,iA 0,sA [],sA []]])]) (zo [.old 0,.old 1,.old 2,.old 3,.old 4,.old 5,.old 6,.old 7,.old 8])<|A ?_
 refine rg y<|u<|mv y<|u<|ixX ti y ti y y y<|A ?_
 obtain ⟨o,m,h⟩:=bs h
 refine A ?_
 refine zv (env0:=[(1,ziT 2 zbl b.1),(2,iA b.2),(4,iA e.2),(25,.isl 6 (map zc ([(za.mk [70,97,99,101] [79,98,106,101,99,116] true [] [] ([(zb.mk [102] [] [73] false true 0 0 [] [] [])])),(za.mk [65,97] [79,98,106,101,99,116] false ([[70,97,99,101]]) ([(zk.mk [120] [73] false),(zk.mk [115] [73] true)]) []),(za.mk [66,98] [65,97] false [] ([(zk.mk [121] [91,65,97] false)]) ([(zb.mk [109,97,105,110] [] [86] true false 0 0 ([(zp.mk 46 0 [] [])]) [] [])]))]))),(26,.agg [sA [66,98],sA [109,97,105,110]])]) (st0:=[]) (zo [])<|u<|pc (zhU ([(za.mk [70,97,99,101] [79,98,106,101,99,116] true [] [] ([(zb.mk [102] [] [73] false true 0 0 [] [] [])])),(za.mk [65,97] [79,98,106,101,99,116] false ([[70,97,99,101]]) ([(zk.mk [120] [73] false),(zk.mk [115] [73] true)]) []),(za.mk [66,98] [65,97] false [] ([(zk.mk [121] [91,65,97] false)]) ([(zb.mk [109,97,105,110] [] [86] true false 0 0 ([(zp.mk 46 0 [] [])]) [] [])]))]) (zbu.mk [66,98] [109,97,105,110]) m) y y y<|A ?_
 obtain ⟨p,q,n,a,h⟩:=bs2 h
 refine A ?_
 refine ziU (j:=5) 2 y y y y y gpn (fun d=>g y d<|mv y<|g y d<|zF7 ti y y y<|zx (egA [36,37] 2 d y y y y)) zFr<|A ?_
 refine ziU (x:=n) (j:=17) 3 y y y y y gpn (fun c=>by replace a:=bT c a;obtain ⟨s,f,a⟩:=bs a;obtain rfl:=sm a;exact g y c<|mv y<|g y c<|pc (zhn b.1 f) y y (ztN (zpX (fun _=>y)) (y))<|g y c<|eql ti y y<|zx (eg [48,49,50] 3 y y y y)) (fun hb=>(sm (bF hb a)).symm)<|A ?_
 exact RT0
instance:PF Tryz.prog 44 [] (zlz) bA:=⟨fun _=>zrZ ⟩
def rK(h0:List za)(c:T0)(m:zb)(x0:AV)(x1:AV)(x2:AV):List AV:=[.ipt 1 [[.isl 6 (map zc h0)]] 0 0,sA c,sA m.Name,.isl 1 (map zw m.Params),sA m.Ret,bA m.Static,bA m.Abstract,iA m.Locals,iA m.Stack,.isl 4 (map zt m.Code),.isl 3 (map zK m.Maps),.isl 4 (map z6 m.Traps),x0,x1,x2]
abbrev sR(h0:List za)(c:T0)(m:zb)(x y:T1)(b:Bool)(t:St):St:=some (15,[rK h0 c m (.isl 1 (x.map zw)) (.isl 1 (y.map zw)) (bA b)])::t
abbrev tR(h0:List za)(c:T0)(m:zb)(x y:T1)(b:Bool)(t:List SB):List SB:=.one 15 (rK h0 c m (.isl 1 (x.map zw)) (.isl 1 (y.map zw)) (bA b))::t
structure zgG where
  locals:T1
  stack:T1
def zx4(x:zgG):List AV:=[.isl 1 (map zw x.locals),.isl 1 (map zw x.stack)]
def zuM(a:T0)(b:Int):Option (T0×Int):=
  some (a,b)
def zhN(a:T0)(b:Int):Option (Sum (T0×Int) (Sum (T0×Int) (T0×Int))):=
  (cond (decide (0<(length a:Int))) ((idx a 0).bind fun e=>some ((e.toNat:Int) == (91:Int))) (some false)).bind fun c=>cond c ((zkM a 1 (length a:Int)).bind fun d=>some (.inl (d,(IntKind.i64.wrap (b+1))))) (some (.inr (.inl (a,b))))
def zj6(a:T0):Option (T0×Int):=
  (zl (fun z=>zhN z.1 z.2) (a,0)).bind fun o=>zD o (fun b=>zuM b.1 b.2) some
instance (d:T0):PF Tryz.prog 200 [sA d] (zj6 d) (fun r=>(.tup [sA r.1,iA r.2])):=⟨fun r h=>by
 refine zh Tryz.func200 y kz y y<|A ?_
 refine A ?_
 obtain ⟨o,ho,h⟩:=bs h
 refine lpA ho (fun z=>[(0,sA z.1),(4,iA z.2)]) (fun z=>[]) (fun b=>[(0,sA b.1),(4,iA b.2)]) (fun b=>[]) (pG Tryz.f200 (fun r=>.tup [sA r.1,iA r.2])) (zaf []) ?_ ?_
 ·rintro ⟨f,n⟩ r h
  refine zf ?_
  obtain ⟨i,p,h⟩:=bs h
  refine A ?_
  refine zeh h y (fun e h=>?_) fun e h=>?_
  ·refine ze<|zi ?_
   obtain ⟨j,c,h⟩:=bs h
   refine rg y<|u<|mv y<|u<|slS (a:=1) (b:=(length f:Int)) ti y y (zlZ y c) y c<|A ?_
   refine A ?_
   obtain rfl:=sm h
   exact ⟨_,y,zo []⟩
  ·refine zq ?_
   obtain rfl:=sm h
   exact ⟨y,_,y,zo []⟩
 ·rintro ⟨l,m⟩ rfl
  refine A ?_
  exact RT0⟩
def zL(c:List za)(a:T0):Option (Bool):=
  (zht a).bind fun d=>cond (!d) (some false) ((zj6 a).bind fun b=>(cond (b.1 == [73]) (some true) ((zU c b.1).bind fun e=>some (decide (0≤e)))).bind fun f=>some f)
instance (a:List za)(b:T0):PF Tryz.prog 125 [.ipt 1 [[.isl 6 (map zc a)]] 0 0,sA b] (zL a b) bA:=⟨fun r h=>by
 refine zh Tryz.func125 y kz y y<|A ?_
 refine zf ?_
 obtain ⟨d,e,h⟩:=bs h
 refine A ?_
 refine zeh h y (fun c h=>?_) fun c h=>?_
 ·refine A ?_
  exact RT0
 ·refine ze ?_
  obtain ⟨f,i,h⟩:=bs h
  refine A ?_
  obtain ⟨j,l,h⟩:=bs h
  refine A ?_
  exact RT0⟩
def zk7(a:List za)(b:T0)(c:zb)(d:Bool)(e:Bool):Unit:=
  ()
theorem zcT(a:List za)(b:T0)(c:zb)(d:Bool)(e:Bool){r:Unit}(h:zk7 a b c d e=r):SC Tryz.prog 124 [.mpt 0 0 0,bA e] [.one 15 (rK a b c (.lit (.slice none 0 0)) (.lit (.slice none 0 0)) (bA d))] (.tup []) [.one 15 (rK a b c (.lit (.slice none 0 0)) (.lit (.slice none 0 0)) (bA (d||(!e))))]:=by
 refine ⟨⟨t,t⟩,zX Tryz.func124 y kz y ?_⟩
 unfold zk7 at h
 refine A ?_
 obtain rfl:=h
 exact ⟨_,y,zad [.old 0]⟩
def zm3(a:T1):Option (T1):=
  some a
def zgV(c:zb)(a:T1):Option (Sum (T1) (Sum (T1) (T1))):=
  cond (decide (((length a):Int)<c.Locals)) ((zh9 16 a ([[84]])).bind fun b=>some (.inl b)) (some (.inr (.inl a)))
def zdK(a:zb)(c:T1):Option (T1):=
  (zh9 16 c a.Params).bind fun d=>(zl (fun z=>zgV a z) d).bind fun o=>zD o (fun b=>zm3 b) some
def zfk(e:List za)(c:T0)(a:zb)(b:T1)(f:T1)(i:Bool):Option (T1):=
  cond (!a.Static) ((zh9 16 b [c]).bind fun d=>zdK a d) (zdK a b)
theorem ziW(e:List za)(c:T0)(d:zb)(j:T1)(a:T1)(i:Bool){r:T1}(h:zfk e c d j a i=some r):SC Tryz.prog 126 [.mpt 0 0 0] [.one 15 (rK e c d (.msl 1 0 (length j)) (.msl 2 0 (length a)) (bA i)),.many 1 (map zw j),.many 1 (map zw a)] (.tup []) [.one 15 (rK e c d (.msl 3 0 (length r)) (.msl 2 0 (length a)) (bA i)),.no,.many 1 (map zw a),.many 1 (map zw r)]:=by
 refine ⟨⟨t,t,zia (sz:=1) (fun _=>y),zia (sz:=1) (fun _=>y),t⟩,zX Tryz.func126 y kz y ?_⟩
 refine zal (X:=T1) (fun z=>[(0,.mpt 0 0 0)]) (fun z=>[some (15,[(rK e c d (.msl 3 0 (length z)) (.msl 2 0 (length a)) (bA i))]),none,some (1,map zw a),some (1,map zw z)]) (fun z=>zdK d z=some r) ?_ ?_
 ·refine A ?_
  refine zeh h y (fun p h=>?_) fun p h=>?_
  ·obtain ⟨l,s,h⟩:=bs h
   refine zjQ [(0,_)] [some (15,[(rK e c d (.msl 3 0 (length l)) (.msl 2 0 (length a)) (bA i))]),none,some (1,map zw a),some (1,map zw l)] [10,11,15] [0,1,2,3,4,5,6,7,8,9] [(17,_),(16,_),(15,_),(14,_),(13,_),(12,_),(11,_),(10,_),(9,_),(8,_)] 3 (zcq (z:=by exact ⟨(fun _ _=>⟨_,y,y,bl 3 ti y ti y (by decide) (by decide) y y y<|⟨(.msl 3 0 1),[],[(18,_)],y,y,y,y,zcq (z:=by exact ⟨nv,(fun _ _=>⟨_,y,y,apM 4 ti y ti y y (by decide) ti y y y y (roX (f:=zw) (z:=[c]) y y) (fun _=>y) y s<|⟨(.msl 4 0 (length l)),[12,13,14],[(22,_),(21,_),(20,_),(19,_)],y,y,y,y,zcq (z:=by exact ⟨nv,nv,(fun _ _=>⟨_,y,y,sto ti y y y<|⟨.any,[],[],y,y,y,t,zcw (z:=zaf [.old 0,.dead,.old 2,.old 4])⟩⟩),t⟩)⟩⟩),nw,t⟩)⟩⟩),nw,nw,t⟩)) ?_
   exact ⟨l,h,zo [.old 0,.dead,.old 2,.old 3]⟩
  ·refine ze ?_
   exact ⟨j,h,zo [.old 0,.dead,.old 2,.old 1]⟩
 ·rintro D h
  obtain ⟨n,v,h⟩:=bs h
  refine rdA [(0,_)] [some (15,[(rK e c d (.msl 3 0 (length n)) (.msl 2 0 (length a)) (bA i))]),none,some (1,map zw a),some (1,map zw n)] [11,15] [0,1,2,3,4,5,6,7,8,9,10] [(33,_),(32,_),(31,_),(30,_),(29,_),(28,_),(27,_),(26,_),(25,_),(24,_),(23,_)] 2 (zcq (z:=by exact ⟨(fun _ _=>⟨_,y,y,apM 4 ti y ti y y (by decide) ti y y y y roI (fun _=>y) y v<|⟨(.msl 4 0 (length n)),[12,13,14],[(37,_),(36,_),(35,_),(34,_)],y,y,y,y,zcq (z:=by exact ⟨nv,(fun _ _=>⟨_,y,y,sto ti y y y<|⟨.any,[],[],y,y,y,t,zcw (z:=zaf [.old 0,.dead,.old 2,.old 4])⟩⟩),t⟩)⟩⟩),nw,t⟩)) ?_
  obtain ⟨o,ho,h⟩:=bs h
  refine lpB ho (fun z=>[(0,.mpt 0 0 0)]) (fun z=>[some (15,[(rK e c d (.msl 3 0 (length z)) (.msl 2 0 (length a)) (bA i))]),none,some (1,map zw a),some (1,map zw z)]) (fun b=>[]) (fun b=>[some (15,[(rK e c d (.msl 3 0 (length b)) (.msl 2 0 (length a)) (bA i))]),none,some (1,map zw a),some (1,map zw b)]) (fun r env st=>zqA Tryz.prog Tryz.f126 3 (.tup []) [some (15,[(rK e c d (.msl 3 0 (length r)) (.msl 2 0 (length a)) (bA i))]),none,some (1,map zw a),some (1,map zw r)] env st) (zaf [.old 0,.dead,.old 2,.old 3]) ?_ ?_
  ·rintro m r h
   refine zf ?_
   refine rdA [(0,_),(49,_)] [some (15,[(rK e c d (.msl 3 0 (length m)) (.msl 2 0 (length a)) (bA i))]),none,some (1,map zw a),some (1,map zw m)] [] [0,1,2,3,4,5,6,7,8,9,10,11] [(49,_),(48,_),(47,_),(46,_),(45,_),(44,_),(43,_),(42,_),(41,_),(40,_),(39,_),(38,_)] 0 (zcw (z:=zaf [.old 0,.dead,.old 2,.old 3])) ?_
   refine zeh h y (fun q h=>?_) fun q h=>?_
   ·refine ze<|zi ?_
    obtain ⟨B,x,h⟩:=bs h
    refine A ?_
    refine u<|apM 5 ti y ti y y (by decide) ti y y y y (roX (f:=zw) (z:=[[84]]) y y) (fun _=>y) y x<|A ?_
    obtain rfl:=sm h
    exact ⟨_,y,zo [.old 0,.dead,.old 2,.old 5]⟩
   ·refine zq ?_
    obtain rfl:=sm h
    exact ⟨y,_,y,zo [.old 0,.dead,.old 2,.old 3]⟩
  ·rintro C rfl
   refine zn ?_
   obtain rfl:=sm h
   exact ⟨_,y,zad [.old 0,.dead,.old 2,.old 3]⟩
def zm5:Option (zS×Bool):=
  some ((zS.mk 0 [] []),false)
def zcs(b:zb)(e:Int)(a:Int):Option (Sum (Int) (Sum (Unit) (zS×Bool))):=
  cond (decide (a<(length b.Maps:Int))) ((idx b.Maps a).bind fun c=>cond (c.At == e) ((idx b.Maps a).bind fun d=>some (.inr (.inr (d,true)))) (some (.inl (IntKind.i64.wrap (a+1))))) (some (.inr (.inl ())))
def zcI(d:List za)(e:T0)(a:zb)(f:T1)(i:T1)(j:Bool)(c:Int):Option (zS×Bool):=
  (zl (fun z=>zcs a c z) 0).bind fun o=>zD o (fun b=>zm5) some
theorem zfl(a:List za)(c:T0)(d:zb)(e:T1)(f:T1)(i:Bool)(j:Int){r:zS×Bool}(h:zcI a c d e f i j=some r):SC Tryz.prog 127 [.mpt 0 0 0,iA j] (tR a c d e f i []) (.tup [.agg (zK r.1),bA r.2]) (tR a c d e f i []):=by
 refine ⟨⟨t,t⟩,zX Tryz.func127 y kz y ?_⟩
 refine A ?_
 refine zf<|A ?_
 obtain ⟨o,ho,h⟩:=bs h
 refine lpB ho (fun z=>[(0,.mpt 0 0 0),(1,iA j),(4,.mpt 1 0 0),(6,iA z)]) (fun z=>(sR a c d e f i [some (3,[[iA 0,.lit (.slice none 0 0),.lit (.slice none 0 0)]])])) (fun b=>[(4,.mpt 1 0 0)]) (fun b=>(sR a c d e f i [some (3,[[iA 0,.lit (.slice none 0 0),.lit (.slice none 0 0)]])])) (fun r env st=>zqA Tryz.prog Tryz.f127 1 (.tup [.agg (zK r.1),bA r.2]) (sR a c d e f i []) env st) (zaf [.old 0,.old 1]) ?_ ?_
 ·rintro n r h
  refine zf<|A ?_
  refine zeh h y (fun l h=>?_) fun l h=>?_
  ·refine ze<|zf<|zi ?_
   obtain ⟨p,s,h⟩:=bs h
   refine A ?_
   refine zeh h y (fun m h=>?_) fun m h=>?_
   ·obtain ⟨q,v,h⟩:=bs h
    refine A ?_
    refine zy ?_
    obtain rfl:=sm h
    exact ⟨_,y,_,y,zad [.old 0]⟩
   ·refine ze<|A ?_
    obtain rfl:=sm h
    exact ⟨_,y,zo [.old 0,.old 1]⟩
  ·refine zq ?_
   obtain rfl:=sm h
   exact ⟨y,_,y,zo [.old 0,.old 1]⟩
 ·rintro ⟨⟩ rfl
  refine zn<|A ?_
  exact RT1
def zmi(a:T1):Option (T1):=
  some a
def zbz(c:List za)(b:T1)(a:Int):Option (Sum (T1×Int) (Sum (T1) (T1))):=
  cond (decide (0≤a)) ((idx c a).bind fun d=>(zh9 16 b [d.Name]).bind fun e=>(idx c a).bind fun f=>(zU c f.Super).bind fun i=>some (.inl (e,i))) (some (.inr (.inl b)))
def zaI(a:List za)(c:T0):Option (T1):=
  (zU a c).bind fun d=>(zl (fun z=>zbz a z.1 z.2) ([],d)).bind fun o=>zD o (fun b=>zmi b) some
theorem zaL(a:List za)(c:T0){r:T1}(h:zaI a c=some r):SC Tryz.prog 121 [.ipt 1 [[.isl 6 (map zc a)]] 0 0,sA c] [] (.msl 0 0 (length r)) [.many 1 (map zw r)]:=by
 refine ⟨⟨zia (sz:=1) (fun _=>y),t⟩,zX Tryz.func121 y kz y ?_⟩
 refine A ?_
 refine A ?_
 refine zf ?_
 obtain ⟨x,B,h⟩:=bs h
 refine A ?_
 obtain ⟨o,ho,h⟩:=bs h
 refine lpB ho (fun z=>[(0,.ipt 1 [[.isl 6 (map zc a)]] 0 0),(5,.msl 0 0 (length z.1)),(6,iA z.2)]) (fun z=>[some (1,map zw z.1)]) (fun b=>[(5,.msl 0 0 (length b))]) (fun b=>[some (1,map zw b)]) (pF Tryz.f121 (fun r=>.msl 0 0 (length r)) fun r=>[some (1,map zw r)]) ⟨[.fresh 1],ce y y<|cv y (.nilown y)<|ce y y<|cn,y,⟨w,t⟩,y,k⟩ ?_ ?_
 ·rintro ⟨j,l⟩ r h
  refine zf<|A ?_
  refine zeh h y (fun d h=>?_) fun d h=>?_
  ·refine ze<|zf<|zi ?_
   obtain ⟨e,C,m,i,h⟩:=bs2 h
   refine A ?_
   refine u<|apM 2 ti y ti y y (by decide) ti y y y y (roX (f:=zw) (z:=[e.Name]) y y) (fun _=>y) y i<|A ?_
   obtain ⟨n,p,q,s,h⟩:=bs2 h
   refine A ?_
   obtain rfl:=sm h
   exact ⟨_,y,zo [.old 2]⟩
  ·refine zq ?_
   obtain rfl:=sm h
   exact ⟨y,_,y,zo [.old 0]⟩
 ·rintro v rfl
  refine zn<|A ?_
  exact RT1
def zvQ:Option (Bool):=
  some false
def ziA(b:T1)(c:T0)(a:Int):Option (Sum (Int) (Sum (Unit) (Bool))):=
  cond (decide (a<(length b:Int))) ((idx b a).bind fun d=>cond (d == c) (some (.inr (.inr true))) (some (.inl (IntKind.i64.wrap (a+1))))) (some (.inr (.inl ())))
def zkz(a:T1)(c:T0):Option (Bool):=
  (zl (fun z=>ziA a c z) 0).bind fun o=>zD o (fun b=>zvQ) some
theorem zgW(a:T1)(c:T0){r:Bool}(h:zkz a c=some r):zam Tryz.prog 254 [.isl 1 (map zw a),sA c] (bA r):=by
 refine zh Tryz.func254 y kz y y<|A ?_
 refine zf<|A ?_
 obtain ⟨o,ho,h⟩:=bs h
 refine lpB ho (fun z=>[(0,.isl 1 (map zw a)),(1,sA c),(5,iA z)]) (fun z=>[]) (fun b=>[]) (fun b=>[]) (pG Tryz.f254 bA) (zaf []) ?_ ?_
 ·rintro f r h
  refine zf<|A ?_
  refine zeh h y (fun d h=>?_) fun d h=>?_
  ·refine ze<|zf<|zi ?_
   obtain ⟨i,j,h⟩:=bs h
   refine A ?_
   refine zeh h y (fun e h=>?_) fun e h=>?_
   ·refine A ?_
    refine zy ?_
    obtain rfl:=sm h
    exact ⟨_,y,_,y,zad []⟩
   ·refine ze<|A ?_
    obtain rfl:=sm h
    exact ⟨_,y,zo []⟩
  ·refine zq ?_
   obtain rfl:=sm h
   exact ⟨y,_,y,zo []⟩
 ·rintro ⟨⟩ rfl
  refine zn<|A ?_
  exact RT0
instance (a:T1)(b:T0):PF Tryz.prog 254 [.isl 1 (map zw a),sA b] (zkz a b) bA:=⟨fun _=>zgW a b⟩
def zn0(a:T1)(j:T0)(b:Int):Option (T1):=
  (zkM a 0 b).bind fun c=>(zh9 16 ([]:T1) c).bind fun d=>(zkM a b (length a:Int)).bind fun e=>(zh9 16 d [j]).bind fun f=>(zh9 16 f e).bind fun i=>some i
def zes(b:T1)(c:T0)(a:Int):Option (Sum (Int) (Sum (Int) (T1))):=
  (cond (decide (a<(length b:Int))) ((idx b a).bind fun d=>some (Op.bytesLess d c)) (some false)).bind fun e=>cond e (some (.inl (IntKind.i64.wrap (a+1)))) (some (.inr (.inl a)))
def zlM(a:T1)(c:T0):Option (T1):=
  (zl (fun z=>zes a c z) 0).bind fun o=>zD o (fun b=>zn0 a c b) some
theorem zr9(d:T1)(e:T0){r:T1}(h:zlM d e=some r):SC Tryz.prog 266 [.isl 1 (map zw d),sA e] [] (.msl 0 0 (length r)) [.many 1 (map zw r)]:=by
 refine ⟨⟨zia (sz:=1) (fun _=>y),t⟩,zX Tryz.func266 y kz y ?_⟩
 refine A ?_
 refine A ?_
 obtain ⟨o,ho,h⟩:=bs h
 refine lpA ho (fun z=>[(0,.isl 1 (map zw d)),(1,sA e),(5,iA z)]) (fun z=>[]) (fun b=>[(0,.isl 1 (map zw d)),(1,sA e),(5,iA b)]) (fun b=>[]) (pF Tryz.f266 (fun r=>.msl 0 0 (length r)) fun r=>[some (1,map zw r)]) (zaf []) ?_ ?_
 ·rintro C r h
  refine zf ?_
  obtain ⟨D,E,h⟩:=bs h
  refine A ?_
  refine zeh h y (fun l h=>?_) fun l h=>?_
  ·refine ze<|zi<|A ?_
   obtain rfl:=sm h
   exact ⟨_,y,zo []⟩
  ·refine zq ?_
   obtain rfl:=sm h
   exact ⟨y,_,y,zo []⟩
 ·rintro j rfl
  obtain ⟨v,m,x,n,h⟩:=bs2 h
  refine A ?_
  refine u<|slI (a:=0) (b:=j) ti y ti y y y (zpS y m) m<|u<|apN (f:=zw) 0 ti y ti y y (by decide) ti y y y roI (fun _=>y) y n<|A ?_
  obtain ⟨B,c,p,q,i,s,h⟩:=bs3 h
  refine rdA [(4,.msl 0 0 (length i))] [some (1,map zw i)] [2,3,7] [0,1,4,5,6] [(31,_),(30,_),(29,_),(26,_),(25,_)] 3 (zcq ⟨peC,peC,peC,peC,(by exact pb y (slI (a:=j) (b:=(length d:Int)) ti y ti y y (zlZ y c) y c<|w)),t⟩ (by exact ⟨(fun _ _=>⟨_,y,y,bl 1 ti y ti y (by decide) (by decide) y y y<|⟨(.msl 1 0 1),[],[(27,_)],y,y,y,y,zcq ⟨peC,peC,peC,peC,(by exact pb y (slI (a:=j) (b:=(length d:Int)) ti y ti y y (zlZ y c) y c<|w)),t⟩ (by exact ⟨nv,(fun _ _=>⟨_,y,y,apM 2 ti y ti y y (by decide) ti y y y y (roX (f:=zw) (z:=[e]) y y) (fun _=>y) y q<|⟨(.msl 2 0 (length p)),[],[(28,_)],y,y,y,y,zcq ⟨peC,peC,peC,peC,(by exact pb y (slI (a:=j) (b:=(length d:Int)) ti y ti y y (zlZ y c) y c<|w)),t⟩ (by exact ⟨nv,nv,(fun _ _=>⟨_,y,y,apM 3 ti y ti y y (by decide) ti y y y y roI (fun _=>y) y s<|⟨(.msl 3 0 (length i)),[8],[(4,_),(32,_)],y,y,y,y,zcw (z:=zaf [.old 3])⟩⟩),t⟩)⟩⟩),nw,t⟩)⟩⟩),nw,nw,t⟩)) ?_
  exact RT1
def zos(a:T1):Option (T1):=
  some a
def zf6(a:Int)(b:T1):Option (Sum (T1×Int) (Sum (T1) (T1))):=
  some (.inl (b,(IntKind.i64.wrap (a+1))))
def zbn(i:List za)(c:List Bool)(b:T1)(a:Int):Option (Sum (T1×Int) (Sum (T1) (T1))):=
  cond (decide (a<(length i:Int))) ((idx c a).bind fun d=>cond d ((idx i a).bind fun e=>(zlM b e.Name).bind fun f=>zf6 a f) (zf6 a b)) (some (.inr (.inl b)))
def zjV(c:List za)(a:List Bool):Option (T1):=
  (zl (fun z=>zbn c a z.1 z.2) ([],0)).bind fun o=>zD o (fun b=>zos b) some
def zor(a:List Bool)(b:Bool):Option (Sum ((List Bool)×Bool) (Sum ((List Bool)) (T1))):=
  some (.inl (a,b))
def zf5(a:Int)(b:List Bool)(c:Bool):Option (Sum ((List Bool)×Bool×Int) (Sum ((List Bool)×Bool) (T1))):=
  some (.inl (b,c,(IntKind.i64.wrap (a+1))))
def zf7(a:Int)(b:List Bool)(c:Bool):Option (Sum ((List Bool)×Bool×Int) (Sum ((List Bool)×Bool) (T1))):=
  zf5 a b c
def zf4(a:Int)(b:List Bool)(c:Bool):Option (Sum ((List Bool)×Bool×Int) (Sum ((List Bool)×Bool) (T1))):=
  some (.inl (b,c,(IntKind.i64.wrap (a+1))))
def zdf(j:List za)(d:za)(a:List Bool)(e:Bool)(b:Int):Option (Sum ((List Bool)×Bool×Int) (Sum ((List Bool)×Bool) (T1))):=
  cond (decide (b<(length d.Impl:Int))) ((idx d.Impl b).bind fun f=>(zU j f).bind fun c=>(idx a c).bind fun i=>cond (!i) ((idx a c).bind fun l=>zf4 b (List.set a (Int.toNat c) true) true) (zf4 b a e)) (some (.inr (.inl (a,e))))
def zdg(f:List za)(m:T1)(c:List Bool)(d:Bool)(a:Int):Option (Sum ((List Bool)×Bool×Int) (Sum ((List Bool)×Bool) (T1))):=
  cond (decide (a<(length f:Int))) ((idx f a).bind fun e=>(idx c a).bind fun i=>(cond (!i) ((zkz m e.Name).bind fun j=>some (!j)) (some false)).bind fun l=>cond l (zf5 a c d) ((zl (fun z=>zdf f e z.1 z.2.1 z.2.2) (c,d,0)).bind fun o=>zD o (fun b=>zf7 a b.1 b.2) (fun r=>some (.inr (.inr r))))) (some (.inr (.inl (c,d))))
def zf8(d:List za)(e:T1)(a:List Bool)(c:Bool):Option (Sum ((List Bool)×Bool) (Sum ((List Bool)) (T1))):=
  cond c ((zl (fun z=>zdg d e z.1 z.2.1 z.2.2) (a,false,0)).bind fun o=>zD o (fun b=>zor b.1 b.2) (fun r=>some (.inr (.inr r)))) (some (.inr (.inl a)))
def zfg(a:List za)(c:T0)(d:List Bool):Option (T1):=
  (zaI a c).bind fun e=>(zl (fun z=>zf8 a e z.1 z.2) (d,true)).bind fun o=>zD o (fun b=>zjV a b) some
def zfU(a:List za)(c:T0):Option (T1):=
  (mkP 1 (length a:Int)).bind fun d=>(zU a c).bind fun b=>cond (decide (b<0)) (some []) ((idx a b).bind fun e=>cond e.Interface ((idx (List.replicate d false) b).bind fun f=>zfg a c (List.set (List.replicate d false) (Int.toNat b) true)) (zfg a c (List.replicate d false)))
theorem zh2(a:List za)(s:T0){r:T1}(h:zfU a s=some r):SC Tryz.prog 230 [.ipt 1 [[.isl 6 (map zc a)]] 0 0,sA s] [] (.msl 0 0 (length r)) [.many 1 (map zw r)]:=by
 refine ⟨⟨zia (sz:=1) (fun _=>y),t⟩,zX Tryz.func230 y kz y ?_⟩
 refine A ?_
 obtain ⟨R,Z,h⟩:=bs h
 refine A ?_
 refine u<|mks (f:=rB) (z:=false) 0 ti y ti y y y y y y Z<|A ?_
 obtain ⟨v4,q2,h⟩:=bs h
 refine A ?_
 refine zf<|A ?_
 refine zeh h y (fun S h=>?_) fun S h=>?_
 ·refine A ?_
  refine zy ?_
  obtain rfl:=sm h
  exact ⟨_,y,[.fresh 1],.nilown y,y,⟨w,t⟩,y,k⟩
 ·refine ze ?_
  refine zal (X:=(List Bool)) (fun z=>[(0,.ipt 1 [[.isl 6 (map zc a)]] 0 0),(1,sA s),(5,.msl 0 0 (length z))]) (fun z=>[some (1,map rB z)]) (fun z=>zfg a s z=some r) ?_ ?_
  ·obtain ⟨v5,q4,h⟩:=bs h
   refine A ?_
   refine zeh h y (fun T h=>?_) fun T h=>?_
   ·obtain ⟨v6,q6,h⟩:=bs h
    refine A ?_
    exact u<|zE6 (c':=true) ti y y (zaj q6).2.2 y y y y y<|zx (⟨(List.set (List.replicate R false) (Int.toNat v4) true),h,[.old 0],ce y y<|ce y y<|cv y (zEK (by simp) y)<|cn,y,⟨⟨_,y,zi8 (fun _=>y)⟩,t⟩,y,k⟩)
   ·refine ze ?_
    exact ⟨(List.replicate R false),h,zo [.old 0]⟩
  ·rintro U h
   obtain ⟨c,q7,h⟩:=bs h
   refine A ?_
   refine u<|sx [] (zaL a s q7)<|zv (env0:=[(0,.ipt 1 [[.isl 6 (map zc a)]] 0 0),(5,.msl 0 0 (length U)),(39,.msl 1 0 (length c))]) (st0:=[some (1,map rB U),some (1,map zw c)]) (zo [.old 0,.old 1])<|A ?_
   refine zf<|A ?_
   obtain ⟨o,ho,h⟩:=bs h
   refine lpB ho (fun z=>[(0,.ipt 1 [[.isl 6 (map zc a)]] 0 0),(5,.msl 0 0 (length z.1)),(7,.msl 1 0 (length c)),(8,bA z.2)]) (fun z=>[some (1,map rB z.1),some (1,map zw c)]) (fun b=>[(0,.ipt 1 [[.isl 6 (map zc a)]] 0 0),(5,.msl 0 0 (length b))]) (fun b=>[some (1,map rB b)]) (pF Tryz.f230 (fun r=>.msl 0 0 (length r)) fun r=>[some (1,map zw r)]) (zaf [.old 0,.old 1]) ?_ ?_
   ·rintro ⟨v71,v72⟩ r h
    refine zf<|A ?_
    refine zeh h y (fun F h=>?_) fun F h=>?_
    ·refine ze<|zi<|A ?_
     refine A ?_
     obtain ⟨o,ho,h⟩:=bs h
     refine lpS ho (fun z=>[(0,.ipt 1 [[.isl 6 (map zc a)]] 0 0),(5,.msl 0 0 (length z.1)),(7,.msl 1 0 (length c)),(8,bA z.2.1),(9,iA z.2.2)]) (fun z=>[some (1,map rB z.1),some (1,map zw c)]) (fun b=>[(0,.ipt 1 [[.isl 6 (map zc a)]] 0 0),(5,.msl 0 0 (length b.1)),(7,.msl 1 0 (length c)),(8,bA b.2)]) (fun b=>[some (1,map rB b.1),some (1,map zw c)]) (pF Tryz.f230 (fun r=>.msl 0 0 (length r)) fun r=>[some (1,map zw r)]) (zaf [.old 0,.old 1]) ?_ ?_ ?_
     ·rintro ⟨G,H,e⟩ r h
      refine zf<|A ?_
      refine zeh h y (fun I h=>?_) fun I h=>?_
      ·refine ze ?_
       refine zal (X:=(List Bool)×Bool) (fun z=>[(0,.ipt 1 [[.isl 6 (map zc a)]] 0 0),(5,.msl 0 0 (length z.1)),(7,.msl 1 0 (length c)),(8,bA z.2),(9,iA e)]) (fun z=>[some (1,map rB z.1),some (1,map zw c)]) (fun z=>zf5 e z.1 z.2=some r) ?_ ?_
       ·refine zi ?_
        obtain ⟨n,q67,h⟩:=bs h
        refine A ?_
        refine zf ?_
        obtain ⟨v106,q68,J,l,h⟩:=bs2 h
        refine A ?_
        refine ziU (x:=J) (j:=5) 5 y y y y y gpn (fun i=>by replace l:=bT i l;obtain ⟨v107,V,l⟩:=bs l;obtain rfl:=sm l;exact g y i<|mv y<|g y i<|fa ti y y y<|g y i<|ld ti y y<|g y i<|pcs (zgW c n.Name V) y y (.cons (zhE y (fun _=>y)) (.cons (si y) .nil)) zbI<|g y i<|nt y<|zx (eg [63,64,65,66,67] 5 y y y y)) (fun hb=>(sm (bF hb l)).symm)<|zx ?_
        refine zeh h y (fun K h=>?_) fun K h=>?_
        ·refine zq ?_
         exact ⟨⟨G,H⟩,h,zo [.old 0,.old 1]⟩
        ·refine ze<|A ?_
         obtain ⟨o,ho,h⟩:=bs h
         refine lpS ho (fun z=>[(0,.ipt 1 [[.isl 6 (map zc a)]] 0 0),(5,.msl 0 0 (length z.1)),(7,.msl 1 0 (length c)),(8,bA z.2.1),(9,iA e),(10,.mpt 2 0 0),(11,iA z.2.2)]) (fun z=>[some (1,map rB z.1),some (1,map zw c),some (6,[(zc n)])]) (fun b=>[(0,.ipt 1 [[.isl 6 (map zc a)]] 0 0),(5,.msl 0 0 (length b.1)),(7,.msl 1 0 (length c)),(8,bA b.2),(9,iA e)]) (fun b=>[some (1,map rB b.1),some (1,map zw c)]) (pF Tryz.f230 (fun r=>.msl 0 0 (length r)) fun r=>[some (1,map zw r)]) (zaf [.old 0,.old 1,.old 2]) ?_ ?_ ?_
         ·rintro ⟨v,L,B⟩ r h
          refine zf<|A ?_
          refine zeh h y (fun M h=>?_) fun M h=>?_
          ·refine ze ?_
           refine zal (X:=(List Bool)×Bool) (fun z=>[(0,.ipt 1 [[.isl 6 (map zc a)]] 0 0),(5,.msl 0 0 (length z.1)),(7,.msl 1 0 (length c)),(8,bA z.2),(9,iA e),(10,.mpt 2 0 0),(11,iA B)]) (fun z=>[some (1,map rB z.1),some (1,map zw c),some (6,[(zc n)])]) (fun z=>zf4 B z.1 z.2=some r) ?_ ?_
           ·refine zi ?_
            obtain ⟨v121,q80,N,q81,h⟩:=bs2 h
            refine A ?_
            obtain ⟨v123,q82,h⟩:=bs h
            refine A ?_
            refine zeh h y (fun O h=>?_) fun O h=>?_
            ·obtain ⟨v124,W,h⟩:=bs h
             refine A ?_
             refine u<|zE6 (c':=true) ti y y (zaj W).2.2 y y y y y<|A ?_
             exact (⟨⟨(List.set v (Int.toNat N) true),true⟩,h,[.old 0,.old 1,.old 2],ce y y<|cv y (zEK (by simp) y)<|cv y (.msl y)<|ce y y<|ce y y<|cv y (.mpt y)<|ce y y<|cn,y,⟨⟨_,y,zi8 (fun _=>y)⟩,⟨_,y,zi8 (fun _=>y)⟩,⟨_,y,zhR (ciL y)⟩,t⟩,y,k⟩)
            ·refine ze ?_
             exact ⟨⟨v,L⟩,h,zo [.old 0,.old 1,.old 2]⟩
           ·rintro ⟨v125,v126⟩ h
            refine A ?_
            obtain rfl:=sm h
            exact ⟨_,y,zo [.old 0,.old 1,.old 2]⟩
          ·refine zq ?_
           obtain rfl:=sm h
           exact ⟨y,_,y,zo [.old 0,.old 1]⟩
         ·rintro ⟨C,D⟩ rfl
          replace h:zf7 e C D=some r:=h
          unfold zf7 at h
          refine zn ?_
          exact ⟨⟨C,D⟩,h,zo [.old 0,.old 1]⟩
         ·rintro r' rfl env st hp
          obtain rfl:=sm h
          exact ⟨_,y,hp⟩
       ·rintro ⟨v129,v130⟩ h
        refine A ?_
        obtain rfl:=sm h
        exact ⟨_,y,zo [.old 0,.old 1]⟩
      ·refine zq ?_
       obtain rfl:=sm h
       exact ⟨y,_,y,zo [.old 0,.old 1]⟩
     ·rintro ⟨v131,v132⟩ rfl
      refine zn ?_
      obtain rfl:=sm h
      exact ⟨_,y,zo [.old 0,.old 1]⟩
     ·rintro r' rfl env st hp
      obtain rfl:=sm h
      exact ⟨_,y,hp⟩
    ·refine zq ?_
     obtain rfl:=sm h
     exact ⟨y,_,y,zo [.old 0]⟩
   ·rintro d rfl
    refine zn<|A ?_
    refine zf<|A ?_
    obtain ⟨o,ho,h⟩:=bs h
    refine lpB ho (fun z=>[(0,.ipt 1 [[.isl 6 (map zc a)]] 0 0),(5,.msl 0 0 (length d)),(13,.msl 1 0 (length z.1)),(14,iA z.2)]) (fun z=>[some (1,map rB d),some (1,map zw z.1)]) (fun b=>[(13,.msl 0 0 (length b))]) (fun b=>[some (1,map zw b)]) (pF Tryz.f230 (fun r=>.msl 0 0 (length r)) fun r=>[some (1,map zw r)]) ⟨[.old 0,.fresh 1],ce y y<|cv y (.msl y)<|cv y (.nilown y)<|ce y y<|cn,y,⟨⟨_,y,zi8 (fun _=>y)⟩,w,t⟩,y,k⟩ ?_ ?_
    ·rintro ⟨p,m⟩ r h
     refine zf<|A ?_
     refine zeh h y (fun P h=>?_) fun P h=>?_
     ·refine ze ?_
      refine zal (X:=T1) (fun z=>[(0,.ipt 1 [[.isl 6 (map zc a)]] 0 0),(5,.msl 0 0 (length d)),(13,.msl 1 0 (length z)),(14,iA m)]) (fun z=>[some (1,map rB d),some (1,map zw z)]) (fun z=>zf6 m z=some r) ?_ ?_
      ·refine zi ?_
       obtain ⟨v142,q91,h⟩:=bs h
       refine A ?_
       refine zeh h y (fun Q h=>?_) fun Q h=>?_
       ·obtain ⟨E,q93,q,Y,h⟩:=bs2 h
        refine A ?_
        refine zv (env0:=[(0,.ipt 1 [[.isl 6 (map zc a)]] 0 0),(5,.msl 0 0 (length d)),(14,iA m),(104,.isl 1 (map zw p)),(112,sA E.Name)]) (st0:=[some (1,map rB d)]) (zo [.old 0])<|u<|sx [] (zr9 p E.Name Y)<|zv (env0:=[(0,.ipt 1 [[.isl 6 (map zc a)]] 0 0),(5,.msl 0 0 (length d)),(14,iA m),(113,.msl 1 0 (length q))]) (st0:=[some (1,map rB d),some (1,map zw q)]) (zo [.old 0,.old 1])<|A ?_
        exact (⟨q,h,zo [.old 0,.old 1]⟩)
       ·refine ze ?_
        exact ⟨p,h,zo [.old 0,.old 1]⟩
      ·rintro v145 h
       refine A ?_
       obtain rfl:=sm h
       exact ⟨_,y,zo [.old 0,.old 1]⟩
     ·refine zq ?_
      obtain rfl:=sm h
      exact ⟨y,_,y,zo [.old 1]⟩
    ·rintro v146 rfl
     refine zn<|A ?_
     exact RT1
def zb3(s:((List za)×T0×T0→Option Bool))(b:List za)(c:T0)(d:T0):Option (Bool):=
  (zL b c).bind fun v=>(cond (!v) (some true) ((zL b d).bind fun x=>some (!x))).bind fun B=>cond B (some false) (cond (c == d) (some true) ((zj6 c).bind fun e=>(zj6 d).bind fun a=>cond ((e.2 == (0:Int))&&(a.2 == (0:Int))) ((cond ((!(e.1 == [73]))&&(!(a.1 == [73]))) ((zaI b e.1).bind fun C=>(zkz C a.1).bind fun j=>(cond j (some true) ((zfU b e.1).bind fun l=>(zkz l a.1).bind fun m=>some m)).bind fun n=>some n) (some false)).bind fun o=>some o) (cond (a.2 == (0:Int)) (some (a.1 == [79,98,106,101,99,116])) (cond (e.2 == (0:Int)) (some false) ((zkM c 1 (length c:Int)).bind fun f=>(zkM d 1 (length d:Int)).bind fun i=>(cond ((!(f == [73]))&&(!(i == [73]))) ((s (b,f,i)).bind fun p=>some p) (some false)).bind fun q=>some q)))))
theorem zm2(C:((List za)×T0×T0→Option Bool))(hrec:∀z r,C z=some r→zam Tryz.prog 202 [.ipt 1 [[.isl 6 (map zc z.1)]] 0 0,sA z.2.1,sA z.2.2] (bA r))(m:List za)(p:T0)(q:T0){r:Bool}(h:zb3 C m p q=some r):zam Tryz.prog 202 [.ipt 1 [[.isl 6 (map zc m)]] 0 0,sA p,sA q] (bA r):=by
 refine zh Tryz.func202 y kz y y<|A ?_
 refine zf ?_
 obtain ⟨W,X,Y,Z,h⟩:=bs2 h
 refine A ?_
 refine zeh h y (fun D h=>?_) fun D h=>?_
 ·refine A ?_
  exact RT0
 ·refine ze<|zf<|A ?_
  refine zeh h y (fun E h=>?_) fun E h=>?_
  ·refine A ?_
   exact RT0
  ·refine ze ?_
   obtain ⟨F,q7,h⟩:=bs h
   refine A ?_
   obtain ⟨G,q8,h⟩:=bs h
   refine A ?_
   refine zf<|zi<|A ?_
   refine zeh h y (fun s h=>?_) fun s h=>?_
   ·obtain ⟨H,d,h⟩:=bs h
    refine A ?_
    refine zEX (x:=H) (j:=6) 12 2 y y y y y gpn (fun c=>by replace d:=bT c d;obtain ⟨S,I,d⟩:=bs d;obtain ⟨T,J,d⟩:=bs d;obtain ⟨K,f,d⟩:=bs d;obtain rfl:=sm d;exact g y c<|mv y<|g y c<|mv y<|g y c<|sx [] (zaL m F.1 I)<|g y c<|mv y<|g y c<|pcs (zgW S G.1 J) y y (.cons (zhE y (fun _=>y)) (.cons (si y) .nil)) zbI<|g y c<|mv y<|zEY (x:=K) (j:=12) 5 1 y y y y y (gps y y c) (fun e=>by replace f:=bF e f;obtain ⟨L,M,f⟩:=bs f;obtain ⟨U,N,f⟩:=bs f;obtain rfl:=sm f;exact g y e<|mv y<|g y e<|mv y<|g y e<|sx [] (zh2 m F.1 M)<|g y e<|mv y<|g y e<|pcs (zgW L G.1 N) y y (.cons (zhE y (fun _=>y)) (.cons (si y) .nil)) zbI<|zx (xg [56,57,58,59,60] 5 y y y y y y)) (fun hb=>(sm (bT hb f)).symm)<|zx (xg [50,51,52,53,54,55,56,57,58,59,60,61] 7 y y y y y y)) (fun hb=>(sm (bF hb d)).symm)<|A ?_
    exact RT0
   ·refine A ?_
    refine zeh h y (fun v h=>?_) fun v h=>?_
    ·refine A ?_
     exact RT0
    ·refine A ?_
     refine zeh h y (fun B h=>?_) fun B h=>?_
     ·refine A ?_
      exact RT0
     ·refine ze ?_
      obtain ⟨O,n,P,o,h⟩:=bs2 h
      refine rdA [(0,_),(11,_),(12,_)] [] [] [0,1,2,3,4,5] [(12,_),(11,_),(74,_),(73,_),(72,_),(71,_)] 0 (zcw ⟨peC,(by exact pb y (slS (a:=1) (b:=(length p:Int)) ti y y (zlZ y n) y n<|w)),peC,(by exact pb y (slS (a:=1) (b:=(length q:Int)) ti y y (zlZ y o) y o<|w)),peC,peC,t⟩ (zaf [])) ?_
      obtain ⟨Q,l,h⟩:=bs h
      refine A ?_
      refine ziU (x:=Q) (j:=6) 4 y y y y y gpn (fun i=>by replace l:=bT i l;obtain ⟨V,R,l⟩:=bs l;obtain rfl:=sm l;exact g y i<|mv y<|g y i<|mv y<|g y i<|mv y<|g y i<|pc (hrec (m,O,P) _ R) y y y<|zx (eg [82,83,84,85] 4 y y y y)) (fun hb=>(sm (bF hb l)).symm)<|A ?_
      exact RT0
def zgm(a:List za)(b:T0)(c:T0):Option Bool:=
  zDX (fun d z=>zb3 d z.1 z.2.1 z.2.2) (a,b,c)
theorem zjX(b:List za)(c:T0)(d:T0){r:Bool}(h:zgm b c d=some r):zam Tryz.prog 202 [.ipt 1 [[.isl 6 (map zc b)]] 0 0,sA c,sA d] (bA r):=
  zz0 (F:=(fun a z=>zb3 a z.1 z.2.1 z.2.2)) (Q:=fun z r=>zam Tryz.prog 202 [.ipt 1 [[.isl 6 (map zc z.1)]] 0 0,sA z.2.1,sA z.2.2] (bA r)) (fun a hv z r h=>zm2 a hv z.1 z.2.1 z.2.2 h) h
def zbV(c:List za)(a:T0)(b:T0):Option (Bool):=
  cond (b == [84]) ((cond ((a == [84])||(a == [78])) (some true) ((zL c a).bind fun o=>some o)).bind fun p=>some p) (cond (a == [78]) ((cond (b == [78]) (some true) ((cond (!(b == [73])) ((zL c b).bind fun q=>some q) (some false)).bind fun s=>some s)).bind fun v=>some v) (cond (a == b) ((zL c a).bind fun x=>some x) ((cond ((a == [73])||(b == [73])) (some true) ((zL c a).bind fun e=>some (!e))).bind fun f=>(cond f (some true) ((zL c b).bind fun i=>some (!i))).bind fun j=>cond j (some false) ((zU c b).bind fun d=>(cond (decide (0≤d)) ((idx c d).bind fun l=>some l.Interface) (some false)).bind fun m=>cond m (some true) ((zgm c a b).bind fun n=>some n)))))
instance (a:List za)(b:T0)(c:T0):PF Tryz.prog 253 [.ipt 1 [[.isl 6 (map zc a)]] 0 0,sA b,sA c] (zbV a b c) bA:=⟨fun r h=>by
 refine zh Tryz.func253 y kz y y<|A ?_
 refine zf<|zi<|A ?_
 refine zeh h y (fun i h=>?_) fun i h=>?_
 ·obtain ⟨E,F,h⟩:=bs h
  refine A ?_
  exact RT0
 ·refine A ?_
  refine zeh h y (fun j h=>?_) fun j h=>?_
  ·obtain ⟨G,m,h⟩:=bs h
   refine A ?_
   exact RT0
  ·refine A ?_
   refine zeh h y (fun d h=>?_) fun d h=>?_
   ·obtain ⟨H,n,h⟩:=bs h
    refine A ?_
    exact RT0
   ·obtain ⟨o,p,q,s,h⟩:=bs2 h
    refine A ?_
    refine zeh h y (fun e h=>?_) fun e h=>?_
    ·refine A ?_
     exact RT0
    ·refine ze<|zf ?_
     obtain ⟨v,x,h⟩:=bs h
     refine A ?_
     obtain ⟨B,C,h⟩:=bs h
     refine A ?_
     refine zeh h y (fun f h=>?_) fun f h=>?_
     ·refine A ?_
      exact RT0
     ·refine ze ?_
      obtain ⟨D,l,h⟩:=bs h
      refine rg y<|u<|mv y<|u<|mv y<|u<|mv y<|u<|pc (zjX a b c l) y y y<|u<|asg y<|zx ?_
      exact RT0⟩
def zop:Option (Bool):=
  some true
def zdd(e:List za)(b:T1)(f:T1)(a:Int):Option (Sum (Int) (Sum (Unit) (Bool))):=
  cond (decide (a<(length b:Int))) ((idx b a).bind fun i=>(idx f a).bind fun c=>(zbV e i c).bind fun d=>cond (!d) (some (.inr (.inr false))) (some (.inl (IntKind.i64.wrap (a+1))))) (some (.inr (.inl ())))
def zcW(d:List za)(a:T1)(c:T1):Option (Bool):=
  cond (!((length a:Int) == (length c:Int))) (some false) ((zl (fun z=>zdd d a c z) 0).bind fun o=>zD o (fun b=>zop) some)
theorem zjU(a:List za)(c:T1)(d:T1){r:Bool}(h:zcW a c d=some r):zam Tryz.prog 201 [.ipt 1 [[.isl 6 (map zc a)]] 0 0,.isl 1 (map zw c),.isl 1 (map zw d)] (bA r):=by
 refine zh Tryz.func201 y kz y y<|A ?_
 refine zf<|A ?_
 refine zeh h y (fun f h=>?_) fun f h=>?_
 ·refine A ?_
  exact RT0
 ·refine ze<|zf<|A ?_
  obtain ⟨o,ho,h⟩:=bs h
  refine lpB ho (fun z=>[(0,.ipt 1 [[.isl 6 (map zc a)]] 0 0),(1,.isl 1 (map zw c)),(2,.isl 1 (map zw d)),(7,iA z)]) (fun z=>[]) (fun b=>[]) (fun b=>[]) (pG Tryz.f201 bA) (zaf []) ?_ ?_
  ·rintro n r h
   refine zf<|A ?_
   refine zeh h y (fun i h=>?_) fun i h=>?_
   ·refine ze<|zf<|zi ?_
    obtain ⟨p,q,j,s,l,m,h⟩:=bs3 h
    refine rdA [(0,_),(1,_),(2,_),(7,_),(29,_)] [] [] [0,1,2,3,4,5,6,7,8,9,10] [(29,_),(28,_),(27,_),(26,_),(25,_),(24,_),(23,_),(22,_),(21,_),(20,_),(19,_)] 0 (zcw (z:=zaf [])) ?_
    refine zeh h y (fun e h=>?_) fun e h=>?_
    ·refine A ?_
     refine zy ?_
     obtain rfl:=sm h
     exact ⟨_,y,_,y,zad []⟩
    ·refine ze<|A ?_
     obtain rfl:=sm h
     exact ⟨_,y,zo []⟩
   ·refine zq ?_
    obtain rfl:=sm h
    exact ⟨y,_,y,zo []⟩
  ·rintro ⟨⟩ rfl
   refine zn<|A ?_
   exact RT0
instance (a:List za)(b:T1)(c:T1):PF Tryz.prog 201 [.ipt 1 [[.isl 6 (map zc a)]] 0 0,.isl 1 (map zw b),.isl 1 (map zw c)] (zcW a b c) bA:=⟨fun _=>zjU a b c⟩
def zji(a:List za)(b:T0)(c:zb)(d:T1)(e:T1)(f:Bool)(i:Bool):Unit:=
  ()
theorem zm(a:List za)(b:T0)(c:zb)(d:T1)(e:T1)(f:Bool)(i:Bool){r:Unit}(h:zji a b c d e f i=r):SC Tryz.prog 124 [.mpt 0 0 0,bA i] (tR a b c d e f []) (.tup []) (tR a b c d e (f||(!i)) []):=by
 refine ⟨⟨t,t⟩,zX Tryz.func124 y kz y ?_⟩
 unfold zji at h
 refine A ?_
 obtain rfl:=h
 exact ⟨_,y,zad [.old 0]⟩
def zdu(c:List za)(f:T0)(i:zb)(j:T1)(l:T1)(b:Bool)(m:Int)(n:T1)(o:T1):Option (Bool):=
  (zcI c f i j l b m).bind fun a=>cond a.2 ((zcW c n a.1.Locals).bind fun d=>cond d ((zcW c o a.1.Stack).bind fun e=>some (b||(!e))) (some (b||(!false)))) (some (b||(!false)))
theorem zfB(a:List za)(b:T0)(c:zb)(d:T1)(e:T1)(f:Bool)(n:Int)(o:T1)(p:T1){r:Bool}(h:zdu a b c d e f n o p=some r):SC Tryz.prog 128 [.mpt 0 0 0,iA n,.isl 1 (map zw o),.isl 1 (map zw p)] (tR a b c d e f []) (.tup []) (tR a b c d e r []):=by
 refine ⟨⟨t,t⟩,zX Tryz.func128 y kz y ?_⟩
 obtain ⟨i,s,h⟩:=bs h
 refine A ?_
 refine u<|sx [0] (zfl a b c d e f n s)<|zv (env0:=[(0,.mpt 0 0 0),(2,.isl 1 (map zw o)),(3,.isl 1 (map zw p)),(13,.tup [.agg (zK i.1),bA i.2])]) (st0:=(sR a b c d e f [])) (zo [.old 0])<|A ?_
 rcases bb i.2 with j |j
 ·replace h:=bT j h
  obtain ⟨q,v,h⟩:=bs h
  rcases bb q with l |l
  ·replace h:=bT l h
   obtain ⟨m,x,h⟩:=bs h
   refine zjQ [] (sR a b c d e (f||(!m)) []) [22] [0,1,2,3,4,5,6,7,8,9,10,11,12,13,14,15,16,17,18,19,20,21] [(37,_),(36,_),(35,_),(34,_),(33,_),(32,_),(31,_),(30,_),(29,_),(28,_),(27,_),(26,_),(25,_),(24,_),(23,_),(22,_),(21,_),(20,_),(19,_),(18,_),(17,_),(16,_)] 1 (zcq (z:=by exact ⟨(fun _ _=>⟨_,y,y,sc [0] (args:=[.mpt 0 0 0,bA m]) (zm a b c d e f m y) y y y y ⟨(.mpt y),(rnI y),t⟩ ⟨⟨_,y,(zuQ y)⟩,t⟩<|⟨(.tup []),[],[(38,_)],y,y,y,y,zcw (z:=zaf [.old 0])⟩⟩),t⟩)) ?_
   obtain rfl:=sm h
   exact ⟨_,y,zad [.old 0]⟩
  ·replace h:=bF l h
   refine zjQ [] (sR a b c d e (f||(!false)) []) [22] [0,1,2,3,4,5,6,7,8,9,10,11,12,13,14,15,16,17,18,19,20,21] [(37,_),(36,_),(35,_),(34,_),(33,_),(32,_),(31,_),(30,_),(29,_),(28,_),(27,_),(26,_),(25,_),(24,_),(23,_),(22,_),(21,_),(20,_),(19,_),(18,_),(17,_),(16,_)] 1 (zcq (z:=by exact ⟨(fun _ _=>⟨_,y,y,sc [0] (args:=[.mpt 0 0 0,bA false]) (zm a b c d e f false y) y y y y ⟨(.mpt y),(rnI y),t⟩ ⟨⟨_,y,(zuQ y)⟩,t⟩<|⟨(.tup []),[],[(38,_)],y,y,y,y,zcw (z:=zaf [.old 0])⟩⟩),t⟩)) ?_
   obtain rfl:=sm h
   exact ⟨_,y,zad [.old 0]⟩
 ·replace h:=bF j h
  refine zjQ [] (sR a b c d e (f||(!false)) []) [22] [21,20,19,18,17,16,15,14,13,12,11,10,9,8,7,6,5,4,3,2,1,0] [(37,bA false),(36,.lit undef),(35,.lit undef),(34,.lit undef),(33,.lit undef),(32,.lit undef),(31,.lit undef),(30,.lit undef),(29,.lit undef),(28,bA false),(27,bA false),(26,.lit undef),(25,.lit undef),(24,.lit undef),(23,.lit undef),(22,.lit undef),(21,.lit undef),(20,.lit undef),(19,.lit undef),(18,bA i.2),(17,bA i.2),(16,.mpt 0 0 0)] 1 (zFS ⟨(fun _ _=>⟨_,y,y,sc [0] (args:=[.mpt 0 0 0,bA false]) (zm a b c d e f false y) y y y y ⟨(.mpt y),(rnI y),t⟩ ⟨⟨_,y,(zuQ y)⟩,t⟩<|⟨(.tup []),[],[(38,.tup [])],y,y,kz,y,zFv (zo [.old 0])⟩⟩),t⟩) ?_
  obtain rfl:=sm h
  exact ⟨_,y,zad [.old 0]⟩
def zdO(a:zgG):Option (T1×T1):=
  (zh9 16 ([]:T1) a.locals).bind fun b=>(zh9 16 ([]:T1) a.stack).bind fun c=>some (b,c)
theorem zh6(c:zgG){r:T1×T1}(h:zdO c=some r):SC Tryz.prog 129 [.agg (zx4 c)] [] (.agg [.msl 0 0 (length r.1),.msl 1 0 (length r.2)]) [.many 1 (map zw r.1),.many 1 (map zw r.2)]:=by
 refine ⟨⟨zia (sz:=1) (fun _=>y),zia (sz:=1) (fun _=>y),t⟩,zX Tryz.func129 y kz y ?_⟩
 unfold zdO at h
 refine A ?_
 obtain ⟨a,d,h⟩:=bs h
 obtain ⟨b,e,h⟩:=bs h
 refine rdA [(2,.mpt 0 0 0)] [some (2,[[.msl 1 0 (length a),.msl 2 0 (length b)]]),some (1,map zw a),some (1,map zw b)] [2,5,7] [0,1,3,4] [(7,_),(6,_),(4,_),(3,_)] 3 (zcq (z:=by exact ⟨(fun _ _=>⟨_,y,y,apN (f:=zw) 2 ti y ti y y (by decide) ti y y y roI (fun _=>y) y d<|⟨(.msl 2 0 (length a)),[],[(5,_)],y,y,y,y,zcq (z:=by exact ⟨nv,(fun _ _=>⟨_,y,y,apN (f:=zw) 3 ti y ti y y (by decide) ti y y y roI (fun _=>y) y e<|⟨(.msl 3 0 (length b)),[6],[(9,_),(8,_)],y,y,y,y,zcq (z:=by exact ⟨nv,nv,(fun _ _=>⟨_,y,y,sto ti y y y<|⟨.any,[],[],y,y,y,t,zcw (z:=zaf [.old 1,.old 2,.old 3])⟩⟩),t⟩)⟩⟩),nw,t⟩)⟩⟩),nw,nw,t⟩)) ?_
 refine zy ?_
 obtain rfl:=sm h
 exact ⟨_,y,zAL [.old 1,.old 2]⟩
def zfC(c:List za)(f:T0)(i:zb)(j:T1)(l:T1)(b:Bool)(m:Int)(n:T1)(o:T1):Option (Bool):=
  (zcI c f i j l b m).bind fun a=>cond a.2 ((zcW c n a.1.Locals).bind fun d=>cond d ((zcW c o a.1.Stack).bind fun e=>some (b||(!e))) (some (b||(!false)))) (some (b||(!false)))
theorem zlJ(a:List za)(c:T0)(d:zb)(e:T1)(f:T1)(i:Bool)(q:Int)(s:T1)(j:T1){r:Bool}(h:zfC a c d e f i q s j=some r):SC Tryz.prog 128 [.mpt 0 0 0,iA q,.isl 1 (map zw s),.msl 1 0 (length j)] (tR a c d e f i [.many 1 (map zw j)]) (.tup []) (tR a c d e f r [.many 1 (map zw j)]):=by
 refine ⟨⟨t,zia (sz:=1) (fun _=>y),t⟩,zX Tryz.func128 y kz y ?_⟩
 obtain ⟨l,v,h⟩:=bs h
 refine A ?_
 refine u<|sx [0] (zfl a c d e f i q v)<|zv (env0:=[(0,.mpt 0 0 0),(2,.isl 1 (map zw s)),(3,.msl 1 0 (length j)),(13,.tup [.agg (zK l.1),bA l.2])]) (st0:=(sR a c d e f i [some (1,map zw j)])) (zo [.old 0,.old 1])<|A ?_
 rcases bb l.2 with n |n
 ·replace h:=bT n h
  obtain ⟨p,B,h⟩:=bs h
  rcases bb p with m |m
  ·replace h:=bT m h
   obtain ⟨o,x,h⟩:=bs h
   refine zjQ [] (sR a c d e f (i||(!o)) [some (1,map zw j)]) [22] [0,1,2,3,4,5,6,7,8,9,10,11,12,13,14,15,16,17,18,19,20,21] [(37,_),(36,_),(35,_),(34,_),(33,_),(32,_),(31,_),(30,_),(29,_),(28,_),(27,_),(26,_),(25,_),(24,_),(23,_),(22,_),(21,_),(20,_),(19,_),(18,_),(17,_),(16,_)] 1 (zcq ⟨peC,peC,peC,peC,peC,peC,peC,peC,peC,peC,peC,peC,peC,peC,peC,peC,peC,peC,peC,peC,(by exact fun _=>pag (b:=p) y y y y m y (pcs (zjU a j l.1.Stack x) y y (.cons (si y) (.cons (zhE y (fun _=>y)) (.cons (si y) .nil))) zbI<|w)),peC,t⟩ (by exact ⟨(fun _ _=>⟨_,y,y,sc [0] (args:=[.mpt 0 0 0,bA o]) (zm a c d e f i o y) y y y y ⟨(.mpt y),(rnI y),t⟩ ⟨⟨_,y,(zuQ y)⟩,t⟩<|⟨(.tup []),[],[(38,_)],y,y,y,y,zcw (z:=zaf [.old 0,.old 1])⟩⟩),t⟩)) ?_
   obtain rfl:=sm h
   exact ⟨_,y,zad [.old 0,.old 1]⟩
  ·replace h:=bF m h
   refine zjQ [] (sR a c d e f (i||(!false)) [some (1,map zw j)]) [22] [0,1,2,3,4,5,6,7,8,9,10,11,12,13,14,15,16,17,18,19,20,21] [(37,_),(36,_),(35,_),(34,_),(33,_),(32,_),(31,_),(30,_),(29,_),(28,_),(27,_),(26,_),(25,_),(24,_),(23,_),(22,_),(21,_),(20,_),(19,_),(18,_),(17,_),(16,_)] 1 (zcq (z:=by exact ⟨(fun _ _=>⟨_,y,y,sc [0] (args:=[.mpt 0 0 0,bA false]) (zm a c d e f i false y) y y y y ⟨(.mpt y),(rnI y),t⟩ ⟨⟨_,y,(zuQ y)⟩,t⟩<|⟨(.tup []),[],[(38,_)],y,y,y,y,zcw (z:=zaf [.old 0,.old 1])⟩⟩),t⟩)) ?_
   obtain rfl:=sm h
   exact ⟨_,y,zad [.old 0,.old 1]⟩
 ·replace h:=bF n h
  refine zjQ [] (sR a c d e f (i||(!false)) [some (1,map zw j)]) [22] [21,20,19,18,17,16,15,14,13,12,11,10,9,8,7,6,5,4,3,2,1,0] [(37,bA false),(36,.lit undef),(35,.lit undef),(34,.lit undef),(33,.lit undef),(32,.lit undef),(31,.lit undef),(30,.lit undef),(29,.lit undef),(28,bA false),(27,bA false),(26,.lit undef),(25,.lit undef),(24,.lit undef),(23,.lit undef),(22,.lit undef),(21,.lit undef),(20,.lit undef),(19,.lit undef),(18,bA l.2),(17,bA l.2),(16,.mpt 0 0 0)] 1 (zFS ⟨(fun _ _=>⟨_,y,y,sc [0] (args:=[.mpt 0 0 0,bA false]) (zm a c d e f i false y) y y y y ⟨(.mpt y),(rnI y),t⟩ ⟨⟨_,y,(zuQ y)⟩,t⟩<|⟨(.tup []),[],[(38,.tup [])],y,y,kz,y,zFv (zo [.old 0,.old 1])⟩⟩),t⟩) ?_
  obtain rfl:=sm h
  exact ⟨_,y,zad [.old 0,.old 1]⟩
def zm7(a:Bool):Option (Bool):=
  some a
def zfm(a:Int)(b:Bool):Option (Sum (Bool×Int) (Sum (Bool) (Bool))):=
  some (.inl (b,(IntKind.i64.wrap (a+1))))
def zdN(f:List za)(m:T0)(n:zb)(i:T1)(o:T1)(j:Int)(b:Bool)(c:Int)(a:zR)(d:T0):Option (Sum (Bool×Int) (Sum (Bool) (Bool))):=
  (zgm f d [84,104,114,111,119,110]).bind fun e=>cond ((decide (a.From≤j))&&(decide (j<a.To))) ((zfC f m n i o (b||(!e)) a.At i [d]).bind fun l=>zfm c l) (zfm c (b||(!e)))
def zct(e:List za)(f:T0)(d:zb)(i:T1)(j:T1)(l:Int)(c:Bool)(a:Int):Option (Sum (Bool×Int) (Sum (Bool) (Bool))):=
  cond (decide (a<(length d.Traps:Int))) ((idx d.Traps a).bind fun b=>cond (b.C == []) (zdN e f d i j l c a b [84,104,114,111,119,110]) (zdN e f d i j l c a b b.C)) (some (.inr (.inl c)))
def zb4(a:List za)(c:T0)(d:zb)(e:T1)(f:T1)(i:Bool)(j:Int):Option (Bool):=
  (zl (fun z=>zct a c d e f j z.1 z.2) (i,0)).bind fun o=>zD o (fun b=>zm7 b) some
theorem ziY(a:List za)(d:T0)(e:zb)(c:T1)(f:T1)(x:Bool)(m:Int){r:Bool}(h:zb4 a d e c f x m=some r):SC Tryz.prog 130 [.mpt 0 0 0,iA m] (tR a d e c f x []) (.tup []) (tR a d e c f r []):=by
 refine ⟨⟨t,t⟩,zX Tryz.func130 y kz y ?_⟩
 refine A ?_
 obtain ⟨o,ho,h⟩:=bs h
 refine lpB ho (fun z=>[(0,.mpt 0 0 0),(1,iA m),(4,iA z.2)]) (fun z=>(sR a d e c f z.1 [])) (fun b=>[]) (fun b=>(sR a d e c f b [])) (fun r env st=>zqA Tryz.prog Tryz.f130 1 (.tup []) (sR a d e c f r []) env st) (zaf [.old 0]) ?_ ?_
 ·rintro ⟨i,j⟩ r h
  refine zf<|A ?_
  refine zeh h y (fun B h=>?_) fun B h=>?_
  ·refine ze ?_
   refine zal (X:=Bool) (fun z=>[(0,.mpt 0 0 0),(1,iA m),(4,iA j)]) (fun z=>(sR a d e c f z [])) (fun z=>zfm j z=some r) ?_ ?_
   ·refine zi ?_
    obtain ⟨l,H,h⟩:=bs h
    refine A ?_
    refine A ?_
    refine zal (X:=T0) (fun z=>[(0,.mpt 0 0 0),(1,iA m),(4,iA j),(5,.mpt 1 0 0),(6,sA z)]) (fun z=>(sR a d e c f i [some (4,[(z6 l)])])) (fun z=>zdN a d e c f m i j l z=some r) ?_ ?_
    ·refine A ?_
     refine zeh h y (fun s h=>?_) fun s h=>?_
     ·refine A ?_
      exact (⟨[84,104,114,111,119,110],h,zo [.old 0,.old 1]⟩)
     ·refine ze ?_
      exact ⟨l.C,h,zo [.old 0,.old 1]⟩
    ·rintro p h
     obtain ⟨n,D,h⟩:=bs h
     refine rg y<|u<|mv y<|u<|mv y<|u<|nc y y<|u<|fa ti y y y<|u<|ld ti y y<|u<|mv y<|u<|pc (zjX a p [84,104,114,111,119,110] D) y y y<|u<|sx [0] (zm a d e c f i n y)<|zv (env0:=[(0,.mpt 0 0 0),(1,iA m),(4,iA j),(5,.mpt 1 0 0),(6,sA p)]) (st0:=(sR a d e c f (i||(!n)) [some (4,[(z6 l)])])) (zo [.old 0,.old 1])<|zx ?_
     refine A ?_
     refine zeh h y (fun v h=>?_) fun v h=>?_
     ·obtain ⟨q,E,h⟩:=bs h
      refine zjQ [(0,_),(1,_),(4,_)] (sR a d e c f q []) [9,10] [0,1,2,3,4,5,6,7,8] [(55,_),(54,_),(53,_),(52,_),(51,_),(50,_),(49,_),(48,_),(47,_)] 2 (zcq (z:=by exact ⟨(fun _ _=>⟨_,y,y,bl 2 ti y ti y (by decide) (by decide) y y y<|⟨(.msl 2 0 1),[],[(56,_)],y,y,y,y,zcq (z:=by exact ⟨nv,(fun _ _=>⟨_,y,y,sx [0,2] (zlJ a d e c f (i||(!n)) l.At c [p] E)<|⟨(.tup []),[],[(57,_)],y,y,y,y,zcw (z:=zaf [.old 0])⟩⟩),t⟩)⟩⟩),nw,t⟩)) ?_
      exact ⟨q,h,zo [.old 0]⟩
     ·refine ze ?_
      exact ⟨(i||(!n)),h,zo [.old 0]⟩
   ·rintro F h
    refine A ?_
    obtain rfl:=sm h
    exact ⟨_,y,zo [.old 0]⟩
  ·refine zq ?_
   obtain rfl:=sm h
   exact ⟨y,_,y,zo [.old 0]⟩
 ·rintro G rfl
  refine zn ?_
  obtain rfl:=sm h
  exact ⟨_,y,zad [.old 0]⟩
def zap(e:List za)(f:T0)(i:zb)(j:T1)(a:T1)(b:Bool):Option (T0×T1×Bool):=
  cond ((length a:Int) == (0:Int)) (some ([78],a,true)) ((idx a (IntKind.i64.wrap ((length a:Int)-1))).bind fun c=>(zkM a 0 (IntKind.i64.wrap ((length a:Int)-1))).bind fun d=>some (c,d,b))
theorem zaJ(c:List za)(d:T0)(e:zb)(f:T1)(i:T1)(j:Bool){r:T0×T1×Bool}(h:zap c d e f i j=some r):SC Tryz.prog 255 [.mpt 0 0 0] (tR c d e f i j []) (sA r.1) (tR c d e f r.2.1 r.2.2 []):=by
 refine ⟨⟨t,t⟩,zX Tryz.func255 y kz y ?_⟩
 refine A ?_
 refine A ?_
 refine zf<|A ?_
 refine zeh h y (fun l h=>?_) fun l h=>?_
 ·refine A ?_
  refine A ?_
  exact RT1
 ·refine ze ?_
  obtain ⟨n,o,h⟩:=bs h
  refine A ?_
  obtain ⟨p,m,h⟩:=bs h
  refine A ?_
  refine u<|slI (a:=0) (b:=(IntKind.i64.wrap ((length i:Int)-1))) ti y ti y y y (zpS y m) m<|A ?_
  refine A ?_
  exact RT1
def znH(a:T1)(b:Bool):Option (T1×Bool):=
  some (a,b)
def za6(e:List za)(j:T0)(l:zb)(m:T1)(n:T1)(c:T1)(d:Bool)(a:Int):Option (Sum (T1×Bool×Int) (Sum (T1×Bool) (T1×Bool))):=
  cond (decide (0≤a)) ((idx n a).bind fun f=>(zap e j l m c d).bind fun b=>(zbV e b.1 f).bind fun i=>some (.inl (b.2.1,(b.2.2||(!i)),(IntKind.i64.wrap (a-1))))) (some (.inr (.inl (c,d))))
def zW(c:List za)(d:T0)(e:zb)(f:T1)(i:T1)(j:Bool)(a:T1):Option (T1×Bool):=
  (zl (fun z=>za6 c d e f a z.1 z.2.1 z.2.2) (i,j,(IntKind.i64.wrap ((length a:Int)-1)))).bind fun o=>zD o (fun b=>znH b.1 b.2) some
theorem zZ(a:List za)(c:T0)(d:zb)(e:T1)(l:T1)(m:Bool)(j:T1){r:T1×Bool}(h:zW a c d e l m j=some r):SC Tryz.prog 203 [.mpt 0 0 0,.isl 1 (map zw j)] (tR a c d e l m []) (.tup []) (tR a c d e r.1 r.2 []):=by
 refine ⟨⟨t,t⟩,zX Tryz.func203 y kz y ?_⟩
 refine A ?_
 obtain ⟨o,ho,h⟩:=bs h
 refine lpB ho (fun z=>[(0,.mpt 0 0 0),(1,.isl 1 (map zw j)),(4,iA z.2.2)]) (fun z=>(sR a c d e z.1 z.2.1 [])) (fun b=>[]) (fun b=>(sR a c d e b.1 b.2 [])) (fun r env st=>zqA Tryz.prog Tryz.f203 1 (.tup []) (sR a c d e r.1 r.2 []) env st) (zaf [.old 0]) ?_ ?_
 ·rintro ⟨n,p,v⟩ r h
  refine zf<|A ?_
  refine zeh h y (fun q h=>?_) fun q h=>?_
  ·refine ze<|zf<|zi ?_
   obtain ⟨x,D,f,s,i,E,h⟩:=bs3 h
   refine zjQ [(0,_),(1,_),(4,_)] (sR a c d e f.2.1 (f.2.2||(!i)) []) [6,12] [0,1,2,3,4,5,7,8,9,10] [(22,_),(21,_),(20,_),(19,_),(17,_),(16,_),(15,_),(14,_),(13,_),(12,_)] 2 (zcq (z:=by exact ⟨(fun _ _=>⟨_,y,y,sx [0] (zaJ a c d e n p s)<|⟨(sA f.1),[11],[(23,_),(18,_)],y,y,y,y,zcq (z:=by exact ⟨nv,(fun _ _=>⟨_,y,y,sx [0] (zm a c d e f.2.1 f.2.2 i y)<|⟨(.tup []),[],[(24,_)],y,y,y,y,zcw (z:=zaf [.old 0])⟩⟩),t⟩)⟩⟩),nw,t⟩)) ?_
   refine A ?_
   obtain rfl:=sm h
   exact ⟨_,y,zo [.old 0]⟩
  ·refine zq ?_
   obtain rfl:=sm h
   exact ⟨y,_,y,zo [.old 0]⟩
 ·rintro ⟨B,C⟩ rfl
  refine zn ?_
  obtain rfl:=sm h
  exact ⟨_,y,zad [.old 0]⟩
def zT(i:List za)(j:T0)(b:zb)(l:T1)(c:T1)(d:Bool)(e:T0):Option (T1×Bool):=
  (zh9 16 ([]:T1) c).bind fun f=>(zh9 16 f [e]).bind fun a=>some (a,(d||(!(decide ((length a:Int)≤b.Stack)))))
theorem zQ(b:List za)(c:T0)(a:zb)(d:T1)(l:T1)(e:Bool)(j:T0){r:T1×Bool}(h:zT b c a d l e j=some r):SC Tryz.prog 204 [.mpt 0 0 0,sA j] (tR b c a d l e []) (.tup []) (tR b c a d r.1 r.2 []):=by
 refine ⟨⟨t,t⟩,zX Tryz.func204 y kz y ?_⟩
 obtain ⟨o,m,i,n,h⟩:=bs2 h
 refine A ?_
 refine u<|apN (f:=zw) 1 ti y ti y y (by decide) ti y y y roI (fun _=>y) y m<|A ?_
 refine u<|apM 3 ti y ti y y (by decide) ti y y y y (roX (f:=zw) (z:=[j]) y y) (fun _=>y) y n<|A ?_
 refine zrG (env0:=[(0,.mpt 0 0 0)]) (st0:=(sR b c a d i e [])) (zo [.old 0]) ?_
 refine zjQ [] (sR b c a d i (e||(!(decide ((length i:Int)≤a.Stack)))) []) [13] [0,1,2,3,4,5,6,7,8,9,10,11,12] [(29,_),(28,_),(27,_),(26,_),(25,_),(24,_),(23,_),(22,_),(21,_),(20,_),(19,_),(18,_),(17,_)] 1 (zcq (z:=by exact ⟨(fun _ _=>⟨_,y,y,sx [0] (zm b c a d i e (decide ((length i:Int)≤a.Stack)) y)<|⟨(.tup []),[],[(30,_)],y,y,y,y,zcw (z:=zaf [.old 0])⟩⟩),t⟩)) ?_
 obtain rfl:=sm h
 exact ⟨_,y,zad [.old 0]⟩

end
end Go.Proofs.YtjbdfkapnffjnaaGreat
