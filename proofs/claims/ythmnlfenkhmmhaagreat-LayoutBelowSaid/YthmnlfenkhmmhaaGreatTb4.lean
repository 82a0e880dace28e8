/- LayoutBelow: for every input the law returns true, and each argument reads as it read before. No further condition. Part 4 of 7. -/
import Derived.Test.YthmnlfenkhmmhaaGreatTb3
namespace Go.Proofs.YthmnlfenkhmmhaaGreat
noncomputable section
open List (length map)
set_option linter.unusedSimpArgs false
set_option linter.unusedVariables false
set_option maxRecDepth 100000
set_option maxHeartbeats 4000000
def ziy:Option (Bool):=
  some true
def zce(b:T1)(c:T1)(a:Int):Option (Sum (Int) (Sum (Unit) (Bool))):=
  cond (decide (a<(length b:Int))) ((idx b a).bind fun d=>(idx c a).bind fun e=>cond (!(d == e)) (some (.inr (.inr false))) (some (.inl (IntKind.i64.wrap (a+1))))) (some (.inr (.inl ())))
def zcY(a:T1)(c:T1):Option (Bool):=
  cond (!((length a:Int) == (length c:Int))) (some false) ((zm (fun z=>zce a c z) 0).bind fun o=>zI o (fun b=>ziy) some)
instance (a:T1)(c:T1):PF Tryz.prog 318 [.isl 1 (map zn a),.isl 1 (map zn c)] (zcY a c) bA:=⟨fun r h=>by
 refine zj Tryz.func318 y kz y y<|A ?_
 refine zh<|A ?_
 refine zeh h y (fun d h=>?_) fun d h=>?_
 ·refine A ?_
  exact RT0
 ·refine zf<|zh<|A ?_
  obtain ⟨o,ho,h⟩:=bs h
  refine lpB ho (fun z=>[(0,.isl 1 (map zn a)),(1,.isl 1 (map zn c)),(12,iA (length a:Int)),(13,iA z)]) (fun z=>[]) (fun b=>[]) (fun b=>[]) (pG Tryz.f318 bA) (zcs []) ?_ ?_
  ·rintro i r h
   refine A ?_
   refine zh ?_
   refine zeh h y (fun e h=>?_) fun e h=>?_
   ·refine zf<|zh<|zp<|A ?_
    obtain ⟨j,l,m,n,h⟩:=bs2 h
    refine rdA [(0,_),(1,_),(12,_),(13,_),(24,_)] [] [] [0,1,2,3,4,5,6,7,8] [(24,_),(23,_),(22,_),(21,_),(20,_),(19,_),(18,_),(17,_),(16,_)] 0 (zhx (z:=zcs [])) ?_
    refine zeh h y (fun f h=>?_) fun f h=>?_
    ·refine A ?_
     refine zK ?_
     obtain rfl:=sm h
     exact ⟨_,y,_,y,zbG []⟩
    ·refine zf<|A ?_
     obtain rfl:=sm h
     exact ⟨_,y,zH []⟩
   ·refine zG ?_
    obtain rfl:=sm h
    exact ⟨y,_,y,zH []⟩
  ·rintro ⟨⟩ rfl
   refine zv<|A ?_
   exact RT0⟩
def zhP(a:zb)(b:zb):Option (Bool):=
  (zcY a.Params b.Params).bind fun c=>some (c&&(a.Ret == b.Ret))
theorem ziL(a:zb)(b:zb){r:Bool}(h:zhP a b=some r):zaj Tryz.prog 255 [.agg (zd a),.agg (zd b)] (bA r):=by
 refine zj Tryz.func255 y kz y y<|A ?_
 obtain ⟨c,d,h⟩:=bs h
 refine A ?_
 exact RT0
instance (a:zb)(b:zb):PF Tryz.prog 255 [.agg (zd a),.agg (zd b)] (zhP a b) bA:=⟨fun _=>ziL a b⟩
def zf3(a:zb)(b:T0)(j:T1)(l:T0)(c:Bool)(m:Bool)(n:Int)(o:Int)(p:List zl)(d:List zT)(e:List zN):Option (Bool):=
  (cond ((a.Name == b)&&(!(b == [36,105,110,105,116]))) ((zhP (zb.mk b j l c m n o p d e) a).bind fun f=>some (((!f)||c)||a.Static)) (some false)).bind fun i=>some i
instance (i:zb)(l:T0)(m:T1)(n:T0)(o:Bool)(p:Bool)(q:Int)(s:Int)(v:List zl)(c:List zT)(d:List zN):PF Tryz.prog 307 [.agg (zd i),.ipt 10 [[sA l,.isl 1 (map zn m),sA n,bA o,bA p,iA q,iA s,.isl 4 (map zA v),.isl 3 (map z7 c),.isl 4 (map zaa d)]] 0 0] (zf3 i l m n o p q s v c d) bA:=⟨fun r h=>by
 refine zj Tryz.func307 y kz y y<|A ?_
 obtain ⟨B,b,h⟩:=bs h
 refine A ?_
 refine zik (x:=B) (j:=10) 12 y y y y y gpn (fun a=>by replace b:=bT a b;obtain ⟨D,C,b⟩:=bs b;obtain rfl:=sm b;exact g y a<|ld ti y y<|g y a<|ld ti y y<|g y a<|pc (ziL (zb.mk l m n o p q s v c d) i C) y y y<|g y a<|nt y<|g y a<|mv y<|zwC (j:=15) 2 y y y y y (gps y y a) (fun e=>g y e<|fa ti y y y<|g y e<|ld ti y y<|zJ (egO [20,21] 2 e y y y y)) orT<|g y a<|mv y<|zwC (j:=19) 2 y y y y y (gps y y a) (fun f=>g y f<|fa ti y y y<|g y f<|ld ti y y<|zJ (egO [24,25] 2 f y y y y)) orT<|zJ (eg [15,16,17,18,19,20,21,22,23,24,25,26] 8 y y y y)) (fun hb=>(sm (bF hb b)).symm)<|A ?_
 exact RT0⟩
def zcy:Option (Int):=
  some (-1)
def zan(b:List zb)(i:T0)(j:T1)(l:T0)(m:Bool)(n:Bool)(o:Int)(p:Int)(q:List zl)(c:List zT)(d:List zN)(a:Int):Option (Sum (Int) (Sum (Unit) (Int))):=
  cond (decide (a<(length b:Int))) ((idx b a).bind fun e=>(zf3 e i j l m n o p q c d).bind fun f=>cond f (some (.inr (.inr a))) (some (.inl (IntKind.i64.wrap (a+1))))) (some (.inr (.inl ())))
def zbv(d:List zb)(e:T0)(f:T1)(i:T0)(j:Bool)(l:Bool)(m:Int)(n:Int)(p:List zl)(a:List zT)(c:List zN):Option (Int):=
  (zm (fun z=>zan d e f i j l m n p a c z) 0).bind fun o=>zI o (fun b=>zcy) some
instance (d:List zb)(e:T0)(f:T1)(i:T0)(j:Bool)(l:Bool)(m:Int)(n:Int)(p:List zl)(a:List zT)(c:List zN):PF Tryz.prog 225 [.isl 10 (map zd d),.fn (.func 307) [] [.ipt 10 [[sA e,.isl 1 (map zn f),sA i,bA j,bA l,iA m,iA n,.isl 4 (map zA p),.isl 3 (map z7 a),.isl 4 (map zaa c)]] 0 0]] (zbv d e f i j l m n p a c) iA:=⟨fun r h=>by
 refine zj Tryz.func225 y kz y y<|A ?_
 refine zh<|A ?_
 obtain ⟨o,ho,h⟩:=bs h
 refine lpB ho (fun z=>[(0,.isl 10 (map zd d)),(1,.fn (.func 307) [] [.ipt 10 [[sA e,.isl 1 (map zn f),sA i,bA j,bA l,iA m,iA n,.isl 4 (map zA p),.isl 3 (map z7 a),.isl 4 (map zaa c)]] 0 0]),(7,iA (length d:Int)),(8,iA z)]) (fun z=>[]) (fun b=>[]) (fun b=>[]) (pG Tryz.f225 iA) (zcs []) ?_ ?_
 ·rintro v r h
  refine A ?_
  refine zh ?_
  refine zeh h y (fun q h=>?_) fun q h=>?_
  ·refine zf<|zh<|zp<|A ?_
   obtain ⟨x,C,B,D,h⟩:=bs2 h
   refine A ?_
   refine zeh h y (fun s h=>?_) fun s h=>?_
   ·refine A ?_
    refine zK ?_
    obtain rfl:=sm h
    exact ⟨_,y,_,y,zbG []⟩
   ·refine zf<|A ?_
    obtain rfl:=sm h
    exact ⟨_,y,zH []⟩
  ·refine zG ?_
   obtain rfl:=sm h
   exact ⟨y,_,y,zH []⟩
 ·rintro ⟨⟩ rfl
  refine zv<|A ?_
  exact RT0⟩
def zY(d:List zb)(e:T0)(f:T1)(i:T0)(j:Bool)(l:Bool)(m:Int)(n:Int)(o:List zl)(a:List zT)(b:List zN):Option (Bool):=
  (zbv d e f i j l m n o a b).bind fun c=>some (decide (0≤c))
theorem zb6(c:List zb)(d:T0)(e:T1)(f:T0)(i:Bool)(j:Bool)(l:Int)(m:Int)(n:List zl)(a:List zT)(b:List zN){r:Bool}(h:zY c d e f i j l m n a b=some r):zaj Tryz.prog 239 [.isl 10 (map zd c),.fn (.func 307) [] [.ipt 10 [[sA d,.isl 1 (map zn e),sA f,bA i,bA j,iA l,iA m,.isl 4 (map zA n),.isl 3 (map z7 a),.isl 4 (map zaa b)]] 0 0]] (bA r):=by
 refine zj Tryz.func239 y kz y y<|A ?_
 obtain ⟨o,p,h⟩:=bs h
 refine A ?_
 exact RT0
instance (c:List zb)(d:T0)(e:T1)(f:T0)(i:Bool)(j:Bool)(l:Int)(m:Int)(n:List zl)(a:List zT)(b:List zN):PF Tryz.prog 239 [.isl 10 (map zd c),.fn (.func 307) [] [.ipt 10 [[sA d,.isl 1 (map zn e),sA f,bA i,bA j,iA l,iA m,.isl 4 (map zA n),.isl 3 (map z7 a),.isl 4 (map zaa b)]] 0 0]] (zY c d e f i j l m n a b) bA:=⟨fun _=>zb6 c d e f i j l m n a b⟩
def zmN:Option (Bool):=
  some true
def ziZ(a:Int):Option (Sum (Int) (Sum (Unit) (Bool))):=
  some (.inl (IntKind.i64.wrap (a+1)))
def zc1(i:List za)(j:T2)(a:zb)(c:T1)(b:Int):Option (Sum (Int) (Sum (Unit) (Bool))):=
  cond (decide (b<(length c:Int))) ((idx c b).bind fun d=>(zz i j d).bind fun e=>(zY e.1.Methods a.Name a.Params a.Ret a.Static a.Abstract a.Locals a.Stack a.Code a.Maps a.Traps).bind fun f=>cond f (some (.inr (.inr false))) (some (.inl (IntKind.i64.wrap (b+1))))) (some (.inr (.inl ())))
def zc2(e:List za)(f:T2)(d:za)(a:Int):Option (Sum (Int) (Sum (Unit) (Bool))):=
  cond (decide (a<(length d.Methods:Int))) ((idx d.Methods a).bind fun i=>(zak e f d.Name).bind fun c=>(zjs c 1 (length c:Int)).bind fun j=>(zm (fun z=>zc1 e f i j z) 0).bind fun o=>zI o (fun b=>ziZ a) (fun r=>some (.inr (.inr r)))) (some (.inr (.inl ())))
def zfG(a:List za)(c:T2)(d:za):Option (Bool):=
  (zm (fun z=>zc2 a c d z) 0).bind fun o=>zI o (fun b=>zmN) some
theorem zi0(e:List za)(f:T2)(d:za){r:Bool}(h:zfG e f d=some r):zaj Tryz.prog 214 [.ipt 2 [[.isl 6 (map zc e),.imp (map (rKV (fun x=>iA x)) f)]] 0 0,.agg (zc d)] (bA r):=by
 refine zj Tryz.func214 y kz y y<|A ?_
 refine zh<|A ?_
 obtain ⟨o,ho,h⟩:=bs h
 refine lpB ho (fun z=>[(0,.ipt 2 [[.isl 6 (map zc e),.imp (map (rKV (fun x=>iA x)) f)]] 0 0),(3,.mpt 0 0 0),(12,.isl 10 (map zd d.Methods)),(13,iA (length d.Methods:Int)),(14,iA z)]) (fun z=>[some (6,[(zc d)])]) (fun b=>[]) (fun b=>[]) (pG Tryz.f214 bA) (zcs [.old 0]) ?_ ?_
 ·rintro i r h
  refine A ?_
  refine zh ?_
  refine zeh h y (fun n h=>?_) fun n h=>?_
  ·refine zf<|zh<|zp ?_
   obtain ⟨c,C,h⟩:=bs h
   refine A ?_
   obtain ⟨j,s,l,m,h⟩:=bs2 h
   refine A ?_
   refine u<|sx [] (zaE e f d.Name s)<|zL (env0:=[(0,.ipt 2 [[.isl 6 (map zc e),.imp (map (rKV (fun x=>iA x)) f)]] 0 0),(3,.mpt 0 0 0),(6,.mpt 1 0 0),(12,.isl 10 (map zd d.Methods)),(13,iA (length d.Methods:Int)),(14,iA i),(21,.msl 2 0 (length j))]) (st0:=[some (6,[(zc d)]),some (10,[(zd c)]),some (1,map zn j)]) (zH [.old 0,.old 1,.old 2])<|zL (env0:=[(0,.ipt 2 [[.isl 6 (map zc e),.imp (map (rKV (fun x=>iA x)) f)]] 0 0),(3,.mpt 0 0 0),(6,.mpt 1 0 0),(12,.isl 10 (map zd d.Methods)),(13,iA (length d.Methods:Int)),(14,iA i),(21,.isl 1 (map zn j))]) (st0:=[some (6,[(zc d)]),some (10,[(zd c)])]) (zH [.old 0,.old 1])<|u<|slI (a:=1) (b:=(length j:Int)) ti y ti y y (zuH y m) y m<|A ?_
   obtain ⟨o,ho,h⟩:=bs h
   refine lpS ho (fun z=>[(0,.ipt 2 [[.isl 6 (map zc e),.imp (map (rKV (fun x=>iA x)) f)]] 0 0),(3,.mpt 0 0 0),(6,.mpt 1 0 0),(12,.isl 10 (map zd d.Methods)),(13,iA (length d.Methods:Int)),(14,iA i),(22,.isl 1 (map zn l)),(23,iA (length l:Int)),(24,iA z)]) (fun z=>[some (6,[(zc d)]),some (10,[(zd c)])]) (fun b=>[(0,.ipt 2 [[.isl 6 (map zc e),.imp (map (rKV (fun x=>iA x)) f)]] 0 0),(3,.mpt 0 0 0),(12,.isl 10 (map zd d.Methods)),(13,iA (length d.Methods:Int)),(14,iA i)]) (fun b=>[some (6,[(zc d)])]) (pG Tryz.f214 bA) (zcs [.old 0,.old 1]) ?_ ?_ ?_
   ·rintro D r h
    refine A ?_
    refine zh ?_
    refine zeh h y (fun p h=>?_) fun p h=>?_
    ·refine zf<|zh<|zp ?_
     obtain ⟨E,F,h⟩:=bs h
     refine A ?_
     obtain ⟨v,G,h⟩:=bs h
     refine A ?_
     obtain ⟨H,B,h⟩:=bs h
     refine A ?_
     refine u<|pcs (zb6 v.1.Methods c.Name c.Params c.Ret c.Static c.Abstract c.Locals c.Stack c.Code c.Maps c.Traps B) y y (.cons (si y) (.cons (zfx t ⟨(zbY y ⟨(si y),(si y),(si y),(si y),(si y),(si y),(si y),(si y),(si y),(si y),t⟩),t⟩) .nil)) zbQ<|zJ ?_
     refine zeh h y (fun q h=>?_) fun q h=>?_
     ·refine A ?_
      refine zK ?_
      obtain rfl:=sm h
      exact ⟨_,y,_,y,zbG []⟩
     ·refine zf<|A ?_
      obtain rfl:=sm h
      exact ⟨_,y,zH [.old 0,.old 1]⟩
    ·refine zG ?_
     obtain rfl:=sm h
     exact ⟨y,_,y,zH [.old 0]⟩
   ·rintro ⟨⟩ rfl
    refine zv<|A ?_
    obtain rfl:=sm h
    exact ⟨_,y,zH [.old 0]⟩
   ·rintro r' rfl env st hp
    obtain rfl:=sm h
    exact ⟨_,y,hp⟩
  ·refine zG ?_
   obtain rfl:=sm h
   exact ⟨y,_,y,zH []⟩
 ·rintro ⟨⟩ rfl
  refine zv<|A ?_
  exact RT0
instance (a:List za)(b:T2)(c:za):PF Tryz.prog 214 [.ipt 2 [[.isl 6 (map zc a),.imp (map (rKV (fun x=>iA x)) b)]] 0 0,.agg (zc c)] (zfG a b c) bA:=⟨fun _=>zi0 a b c⟩
def zh2(a:zb)(b:T0)(i:T1)(j:T0)(l:Bool)(m:Bool)(n:Int)(o:Int)(p:List zl)(c:List zT)(d:List zN):Option (Bool):=
  (cond (a.Name == b) ((zhP (zb.mk b i j l m n o p c d) a).bind fun e=>some (!e)) (some false)).bind fun f=>some f
instance (e:zb)(f:T0)(i:T1)(l:T0)(m:Bool)(n:Bool)(o:Int)(p:Int)(q:List zl)(c:List zT)(d:List zN):PF Tryz.prog 308 [.agg (zd e),.ipt 10 [[sA f,.isl 1 (map zn i),sA l,bA m,bA n,iA o,iA p,.isl 4 (map zA q),.isl 3 (map z7 c),.isl 4 (map zaa d)]] 0 0] (zh2 e f i l m n o p q c d) bA:=⟨fun r h=>by
 refine zj Tryz.func308 y kz y y<|A ?_
 obtain ⟨s,b,h⟩:=bs h
 refine A ?_
 refine zik (x:=s) (j:=5) 4 y y y y y gpn (fun a=>by replace b:=bT a b;obtain ⟨B,v,b⟩:=bs b;obtain rfl:=sm b;exact g y a<|ld ti y y<|g y a<|ld ti y y<|g y a<|pc (ziL (zb.mk f i l m n o p q c d) e v) y y y<|g y a<|nt y<|zJ (eg [10,11,12,13] 4 y y y y)) (fun hb=>(sm (bF hb b)).symm)<|A ?_
 exact RT0⟩
def zcz:Option (Int):=
  some (-1)
def zao(b:List zb)(i:T0)(j:T1)(l:T0)(m:Bool)(n:Bool)(o:Int)(p:Int)(q:List zl)(c:List zT)(d:List zN)(a:Int):Option (Sum (Int) (Sum (Unit) (Int))):=
  cond (decide (a<(length b:Int))) ((idx b a).bind fun e=>(zh2 e i j l m n o p q c d).bind fun f=>cond f (some (.inr (.inr a))) (some (.inl (IntKind.i64.wrap (a+1))))) (some (.inr (.inl ())))
def zbw(d:List zb)(e:T0)(f:T1)(i:T0)(j:Bool)(l:Bool)(m:Int)(n:Int)(p:List zl)(a:List zT)(c:List zN):Option (Int):=
  (zm (fun z=>zao d e f i j l m n p a c z) 0).bind fun o=>zI o (fun b=>zcz) some
instance (d:List zb)(e:T0)(f:T1)(i:T0)(j:Bool)(l:Bool)(m:Int)(n:Int)(p:List zl)(a:List zT)(c:List zN):PF Tryz.prog 225 [.isl 10 (map zd d),.fn (.func 308) [] [.ipt 10 [[sA e,.isl 1 (map zn f),sA i,bA j,bA l,iA m,iA n,.isl 4 (map zA p),.isl 3 (map z7 a),.isl 4 (map zaa c)]] 0 0]] (zbw d e f i j l m n p a c) iA:=⟨fun r h=>by
 refine zj Tryz.func225 y kz y y<|A ?_
 refine zh<|A ?_
 obtain ⟨o,ho,h⟩:=bs h
 refine lpB ho (fun z=>[(0,.isl 10 (map zd d)),(1,.fn (.func 308) [] [.ipt 10 [[sA e,.isl 1 (map zn f),sA i,bA j,bA l,iA m,iA n,.isl 4 (map zA p),.isl 3 (map z7 a),.isl 4 (map zaa c)]] 0 0]),(7,iA (length d:Int)),(8,iA z)]) (fun z=>[]) (fun b=>[]) (fun b=>[]) (pG Tryz.f225 iA) (zcs []) ?_ ?_
 ·rintro v r h
  refine A ?_
  refine zh ?_
  refine zeh h y (fun q h=>?_) fun q h=>?_
  ·refine zf<|zh<|zp<|A ?_
   obtain ⟨x,C,B,D,h⟩:=bs2 h
   refine A ?_
   refine zeh h y (fun s h=>?_) fun s h=>?_
   ·refine A ?_
    refine zK ?_
    obtain rfl:=sm h
    exact ⟨_,y,_,y,zbG []⟩
   ·refine zf<|A ?_
    obtain rfl:=sm h
    exact ⟨_,y,zH []⟩
  ·refine zG ?_
   obtain rfl:=sm h
   exact ⟨y,_,y,zH []⟩
 ·rintro ⟨⟩ rfl
  refine zv<|A ?_
  exact RT0⟩
def zZ(d:List zb)(e:T0)(f:T1)(i:T0)(j:Bool)(l:Bool)(m:Int)(n:Int)(o:List zl)(a:List zT)(b:List zN):Option (Bool):=
  (zbw d e f i j l m n o a b).bind fun c=>some (decide (0≤c))
theorem zb7(c:List zb)(d:T0)(e:T1)(f:T0)(i:Bool)(j:Bool)(l:Int)(m:Int)(n:List zl)(a:List zT)(b:List zN){r:Bool}(h:zZ c d e f i j l m n a b=some r):zaj Tryz.prog 239 [.isl 10 (map zd c),.fn (.func 308) [] [.ipt 10 [[sA d,.isl 1 (map zn e),sA f,bA i,bA j,iA l,iA m,.isl 4 (map zA n),.isl 3 (map z7 a),.isl 4 (map zaa b)]] 0 0]] (bA r):=by
 refine zj Tryz.func239 y kz y y<|A ?_
 obtain ⟨o,p,h⟩:=bs h
 refine A ?_
 exact RT0
instance (c:List zb)(d:T0)(e:T1)(f:T0)(i:Bool)(j:Bool)(l:Int)(m:Int)(n:List zl)(a:List zT)(b:List zN):PF Tryz.prog 239 [.isl 10 (map zd c),.fn (.func 308) [] [.ipt 10 [[sA d,.isl 1 (map zn e),sA f,bA i,bA j,iA l,iA m,.isl 4 (map zA n),.isl 3 (map z7 a),.isl 4 (map zaa b)]] 0 0]] (zZ c d e f i j l m n a b) bA:=⟨fun _=>zb7 c d e f i j l m n a b⟩
def zbB(a:zb):Bool:=
  ((!a.Static)&&(!a.Abstract))
theorem zkW(a:zb){r:Bool}(h:zbB a=r):zaj Tryz.prog 330 [.agg (zd a)] (bA r):=by
 refine zj Tryz.func330 y kz y y ?_
 unfold zbB at h
 refine A ?_
 refine A ?_
 refine zK ?_
 obtain rfl:=h
 exact ⟨_,y,zbG []⟩
instance (a:zb):PF Tryz.prog 330 [.agg (zd a)] (some (zbB a)) bA:=.of fun _=>zkW a
def zpB:Option (T0×zb×Bool):=
  some ([],(zb.mk [] [] [] false false 0 0 [] [] []),false)
def zfm(l:List za)(m:T2)(e:T1)(n:T0)(a:Int):Option (Sum (Int) (Sum (Unit) (T0×zb×Bool))):=
  cond (decide (a<(length e:Int))) ((idx e a).bind fun d=>(zz l m d).bind fun b=>(zeG b.1 n).bind fun c=>(cond (decide (0≤c)) ((idx b.1.Methods c).bind fun f=>some (zbB f)) (some false)).bind fun i=>cond i ((idx b.1.Methods c).bind fun j=>some (.inr (.inr (d,j,true)))) (some (.inl (IntKind.i64.wrap (a+1))))) (some (.inr (.inl ())))
def zjw(a:List za)(c:T2)(d:T1)(e:T0):Option (T0×zb×Bool):=
  (zm (fun z=>zfm a c d e z) 0).bind fun o=>zI o (fun b=>zpB) some
instance (i:List za)(l:T2)(d:T1)(e:T0):PF Tryz.prog 218 [.ipt 2 [[.isl 6 (map zc i),.imp (map (rKV (fun x=>iA x)) l)]] 0 0,.isl 1 (map zn d),sA e,.fn (.func 330) [] []] (zjw i l d e) (fun r=>(.tup [sA r.1,.agg (zd r.2.1),bA r.2.2])):=⟨fun r h=>by
 refine zj Tryz.func218 y kz y y<|A ?_
 refine zh<|A ?_
 obtain ⟨o,ho,h⟩:=bs h
 refine lpB ho (fun z=>[(0,.ipt 2 [[.isl 6 (map zc i),.imp (map (rKV (fun x=>iA x)) l)]] 0 0),(2,sA e),(3,.fn (.func 330) [] []),(9,.mpt 0 0 0),(16,.isl 1 (map zn d)),(17,iA (length d:Int)),(18,iA z)]) (fun z=>[some (10,[[sA [],.lit (.slice none 0 0),sA [],bA false,bA false,iA 0,iA 0,.lit (.slice none 0 0),.lit (.slice none 0 0),.lit (.slice none 0 0)]])]) (fun b=>[(9,.mpt 0 0 0)]) (fun b=>[some (10,[[sA [],.lit (.slice none 0 0),sA [],bA false,bA false,iA 0,iA 0,.lit (.slice none 0 0),.lit (.slice none 0 0),.lit (.slice none 0 0)]])]) (pG Tryz.f218 (fun r=>.tup [sA r.1,.agg (zd r.2.1),bA r.2.2])) (zcs [.old 0]) ?_ ?_
 ·rintro C r h
  refine A ?_
  refine zh ?_
  refine zeh h y (fun m h=>?_) fun m h=>?_
  ·refine zf<|zh<|zp ?_
   obtain ⟨D,E,h⟩:=bs h
   refine A ?_
   obtain ⟨p,F,h⟩:=bs h
   refine A ?_
   obtain ⟨G,q,h⟩:=bs h
   refine rg y<|u<|ld ti y y<|u<|mv y<|u<|pc (zge p.1 e q) y y y<|u<|asg y<|zJ ?_
   obtain ⟨s,c,h⟩:=bs h
   refine rg y<|u<|mv y<|u<|geq ti y y<|u<|mv y<|zik (x:=s) (j:=2) 7 y y y y y gpn (fun a=>by replace c:=bT a c;obtain ⟨v,f,c⟩:=bs c;obtain rfl:=sm c;exact g y a<|mv y<|g y a<|fa ti y y y<|g y a<|ld ti y y<|g y a<|mv y<|g y a<|ixI ti y ti y y y f<|g y a<|ldI ti y (zbI f).2.2 y<|g y a<|pc (zkW v y) y y y<|zJ (eg [34,35,36,37,38,39,40] 7 y y y y)) (fun hb=>(sm (bF hb c)).symm)<|zJ ?_
   refine zeh h y (fun n h=>?_) fun n h=>?_
   ·obtain ⟨B,H,h⟩:=bs h
    refine rdA [(8,_),(9,_),(10,_)] [some (10,[(zd B)])] [7] [0,1,2,3,4,5,6] [(8,_),(47,_),(46,_),(45,_),(44,_),(43,_),(42,_)] 1 (zgE (z:=by exact ⟨(fun _ _=>⟨_,y,y,sto ti y y y<|⟨.any,[8],[(10,_)],y,y,y,t,zhx (z:=zcs [.old 0])⟩⟩),t⟩)) ?_
    refine zK ?_
    obtain rfl:=sm h
    exact ⟨_,y,_,y,zbG []⟩
   ·refine zf<|A ?_
    obtain rfl:=sm h
    exact ⟨_,y,zH [.old 0]⟩
  ·refine zG ?_
   obtain rfl:=sm h
   exact ⟨y,_,y,zH [.old 0]⟩
 ·rintro ⟨⟩ rfl
  refine zv<|A ?_
  exact RT0⟩
def zgR(a:List za)(b:T2)(d:T0)(e:T0):Option (T0×Bool):=
  (zak a b d).bind fun f=>(zjw a b f e).bind fun c=>some (c.1,c.2.2)
instance (a:List za)(b:T2)(d:T0)(c:T0):PF Tryz.prog 253 [.ipt 2 [[.isl 6 (map zc a),.imp (map (rKV (fun x=>iA x)) b)]] 0 0,sA d,sA c] (zgR a b d c) (fun r=>(.tup [sA r.1,bA r.2])):=⟨fun r h=>by
 refine zj Tryz.func253 y kz y y<|A ?_
 obtain ⟨e,f,i,j,h⟩:=bs2 h
 refine A ?_
 refine u<|sx [] (zaE a b d f)<|zL (env0:=[(2,sA c),(12,.ipt 2 [[.isl 6 (map zc a),.imp (map (rKV (fun x=>iA x)) b)]] 0 0),(15,.msl 0 0 (length e))]) (st0:=[some (1,map zn e)]) (zH [.old 0])<|u<|mv y<|zL (env0:=[(12,.ipt 2 [[.isl 6 (map zc a),.imp (map (rKV (fun x=>iA x)) b)]] 0 0),(15,.isl 1 (map zn e)),(16,sA c)]) (st0:=[]) (zH [])<|A ?_
 refine A ?_
 exact RT0⟩
def zjq(a:zb)(b:T0)(i:T1)(j:T0)(l:Bool)(m:Bool)(n:Int)(o:Int)(p:List zl)(c:List zT)(d:List zN):Option (Bool):=
  (cond (a.Name == b) ((zhP (zb.mk b i j l m n o p c d) a).bind fun e=>some e) (some false)).bind fun f=>some f
instance (e:zb)(f:T0)(i:T1)(l:T0)(m:Bool)(n:Bool)(o:Int)(p:Int)(q:List zl)(c:List zT)(d:List zN):PF Tryz.prog 350 [.agg (zd e),.ipt 10 [[sA f,.isl 1 (map zn i),sA l,bA m,bA n,iA o,iA p,.isl 4 (map zA q),.isl 3 (map z7 c),.isl 4 (map zaa d)]] 0 0] (zjq e f i l m n o p q c d) bA:=⟨fun r h=>by
 refine zj Tryz.func350 y kz y y<|A ?_
 obtain ⟨s,b,h⟩:=bs h
 refine A ?_
 refine zik (x:=s) (j:=5) 3 y y y y y gpn (fun a=>by replace b:=bT a b;obtain ⟨B,v,b⟩:=bs b;obtain rfl:=sm b;exact g y a<|ld ti y y<|g y a<|ld ti y y<|g y a<|pc (ziL (zb.mk f i l m n o p q c d) e v) y y y<|zJ (eg [10,11,12] 3 y y y y)) (fun hb=>(sm (bF hb b)).symm)<|A ?_
 exact RT0⟩
def zcB:Option (Int):=
  some (-1)
def zaq(b:List zb)(i:T0)(j:T1)(l:T0)(m:Bool)(n:Bool)(o:Int)(p:Int)(q:List zl)(c:List zT)(d:List zN)(a:Int):Option (Sum (Int) (Sum (Unit) (Int))):=
  cond (decide (a<(length b:Int))) ((idx b a).bind fun e=>(zjq e i j l m n o p q c d).bind fun f=>cond f (some (.inr (.inr a))) (some (.inl (IntKind.i64.wrap (a+1))))) (some (.inr (.inl ())))
def zby(d:List zb)(e:T0)(f:T1)(i:T0)(j:Bool)(l:Bool)(m:Int)(n:Int)(p:List zl)(a:List zT)(c:List zN):Option (Int):=
  (zm (fun z=>zaq d e f i j l m n p a c z) 0).bind fun o=>zI o (fun b=>zcB) some
instance (d:List zb)(e:T0)(f:T1)(i:T0)(j:Bool)(l:Bool)(m:Int)(n:Int)(p:List zl)(a:List zT)(c:List zN):PF Tryz.prog 225 [.isl 10 (map zd d),.fn (.func 350) [] [.ipt 10 [[sA e,.isl 1 (map zn f),sA i,bA j,bA l,iA m,iA n,.isl 4 (map zA p),.isl 3 (map z7 a),.isl 4 (map zaa c)]] 0 0]] (zby d e f i j l m n p a c) iA:=⟨fun r h=>by
 refine zj Tryz.func225 y kz y y<|A ?_
 refine zh<|A ?_
 obtain ⟨o,ho,h⟩:=bs h
 refine lpB ho (fun z=>[(0,.isl 10 (map zd d)),(1,.fn (.func 350) [] [.ipt 10 [[sA e,.isl 1 (map zn f),sA i,bA j,bA l,iA m,iA n,.isl 4 (map zA p),.isl 3 (map z7 a),.isl 4 (map zaa c)]] 0 0]),(7,iA (length d:Int)),(8,iA z)]) (fun z=>[]) (fun b=>[]) (fun b=>[]) (pG Tryz.f225 iA) (zcs []) ?_ ?_
 ·rintro v r h
  refine A ?_
  refine zh ?_
  refine zeh h y (fun q h=>?_) fun q h=>?_
  ·refine zf<|zh<|zp<|A ?_
   obtain ⟨x,C,B,D,h⟩:=bs2 h
   refine A ?_
   refine zeh h y (fun s h=>?_) fun s h=>?_
   ·refine A ?_
    refine zK ?_
    obtain rfl:=sm h
    exact ⟨_,y,_,y,zbG []⟩
   ·refine zf<|A ?_
    obtain rfl:=sm h
    exact ⟨_,y,zH []⟩
  ·refine zG ?_
   obtain rfl:=sm h
   exact ⟨y,_,y,zH []⟩
 ·rintro ⟨⟩ rfl
  refine zv<|A ?_
  exact RT0⟩
def z6(d:List zb)(e:T0)(f:T1)(i:T0)(j:Bool)(l:Bool)(m:Int)(n:Int)(o:List zl)(a:List zT)(b:List zN):Option (Bool):=
  (zby d e f i j l m n o a b).bind fun c=>some (decide (0≤c))
theorem zb9(c:List zb)(d:T0)(e:T1)(f:T0)(i:Bool)(j:Bool)(l:Int)(m:Int)(n:List zl)(a:List zT)(b:List zN){r:Bool}(h:z6 c d e f i j l m n a b=some r):zaj Tryz.prog 239 [.isl 10 (map zd c),.fn (.func 350) [] [.ipt 10 [[sA d,.isl 1 (map zn e),sA f,bA i,bA j,iA l,iA m,.isl 4 (map zA n),.isl 3 (map z7 a),.isl 4 (map zaa b)]] 0 0]] (bA r):=by
 refine zj Tryz.func239 y kz y y<|A ?_
 obtain ⟨o,p,h⟩:=bs h
 refine A ?_
 exact RT0
instance (c:List zb)(d:T0)(e:T1)(f:T0)(i:Bool)(j:Bool)(l:Int)(m:Int)(n:List zl)(a:List zT)(b:List zN):PF Tryz.prog 239 [.isl 10 (map zd c),.fn (.func 350) [] [.ipt 10 [[sA d,.isl 1 (map zn e),sA f,bA i,bA j,iA l,iA m,.isl 4 (map zA n),.isl 3 (map z7 a),.isl 4 (map zaa b)]] 0 0]] (z6 c d e f i j l m n a b) bA:=⟨fun _=>zb9 c d e f i j l m n a b⟩
def zlY(b:List za)(c:T2)(e:T0)(a:zb):Option (Bool):=
  (zgR b c e a.Name).bind fun d=>cond (!d.2) (some false) ((zz b c d.1).bind fun f=>(z6 f.1.Methods a.Name a.Params a.Ret a.Static a.Abstract a.Locals a.Stack a.Code a.Maps a.Traps).bind fun i=>some i)
instance (b:List za)(c:T2)(d:T0)(a:zb):PF Tryz.prog 310 [.ipt 2 [[.isl 6 (map zc b),.imp (map (rKV (fun x=>iA x)) c)]] 0 0,sA d,.agg (zd a)] (zlY b c d a) bA:=⟨fun r h=>by
 refine zj Tryz.func310 y kz y y<|A ?_
 obtain ⟨j,l,h⟩:=bs h
 refine A ?_
 refine zh<|A ?_
 refine zeh h y (fun e h=>?_) fun e h=>?_
 ·refine A ?_
  exact RT0
 ·refine zf ?_
  obtain ⟨f,m,h⟩:=bs h
  refine A ?_
  obtain ⟨n,i,h⟩:=bs h
  refine A ?_
  refine u<|pcs (zb9 f.1.Methods a.Name a.Params a.Ret a.Static a.Abstract a.Locals a.Stack a.Code a.Maps a.Traps i) y y (.cons (si y) (.cons (zfx t ⟨(zbY y ⟨(si y),(si y),(si y),(si y),(si y),(si y),(si y),(si y),(si y),(si y),t⟩),t⟩) .nil)) zbQ<|A ?_
  exact RT0⟩
def zjD(b:zb)(c:List za)(d:T2)(e:T0)(f:T0)(i:Bool)(j:T1)(l:List zi)(m:List zb):Option (Bool):=
  (zlY c d e b).bind fun a=>some (!a)
instance (a:zb)(b:List za)(c:T2)(d:T0)(e:T0)(f:Bool)(i:T1)(j:List zi)(l:List zb):PF Tryz.prog 309 [.agg (zd a),.ipt 1 [[.ipt 2 [[.isl 6 (map zc b),.imp (map (rKV (fun x=>iA x)) c)]] 0 0]] 0 0,.ipt 6 [[sA d,sA e,bA f,.isl 1 (map zn i),.isl 3 (map zD j),.isl 10 (map zd l)]] 0 0] (zjD a b c d e f i j l) bA:=⟨fun r h=>by
 refine zj Tryz.func309 y kz y y<|A ?_
 obtain ⟨m,n,h⟩:=bs h
 refine A ?_
 exact RT0⟩
def zcA:Option (Int):=
  some (-1)
def zap(b:List zb)(e:List za)(f:T2)(i:T0)(j:T0)(l:Bool)(m:T1)(n:List zi)(o:List zb)(a:Int):Option (Sum (Int) (Sum (Unit) (Int))):=
  cond (decide (a<(length b:Int))) ((idx b a).bind fun c=>(zjD c e f i j l m n o).bind fun d=>cond d (some (.inr (.inr a))) (some (.inl (IntKind.i64.wrap (a+1))))) (some (.inr (.inl ())))
def zbx(a:List zb)(c:List za)(d:T2)(e:T0)(f:T0)(i:Bool)(j:T1)(l:List zi)(m:List zb):Option (Int):=
  (zm (fun z=>zap a c d e f i j l m z) 0).bind fun o=>zI o (fun b=>zcA) some
instance (a:List zb)(c:List za)(d:T2)(e:T0)(f:T0)(i:Bool)(j:T1)(l:List zi)(m:List zb):PF Tryz.prog 225 [.isl 10 (map zd a),.fn (.func 309) [] [.ipt 1 [[.ipt 2 [[.isl 6 (map zc c),.imp (map (rKV (fun x=>iA x)) d)]] 0 0]] 0 0,.ipt 6 [[sA e,sA f,bA i,.isl 1 (map zn j),.isl 3 (map zD l),.isl 10 (map zd m)]] 0 0]] (zbx a c d e f i j l m) iA:=⟨fun r h=>by
 refine zj Tryz.func225 y kz y y<|A ?_
 refine zh<|A ?_
 obtain ⟨o,ho,h⟩:=bs h
 refine lpB ho (fun z=>[(0,.isl 10 (map zd a)),(1,.fn (.func 309) [] [.ipt 1 [[.ipt 2 [[.isl 6 (map zc c),.imp (map (rKV (fun x=>iA x)) d)]] 0 0]] 0 0,.ipt 6 [[sA e,sA f,bA i,.isl 1 (map zn j),.isl 3 (map zD l),.isl 10 (map zd m)]] 0 0]),(7,iA (length a:Int)),(8,iA z)]) (fun z=>[]) (fun b=>[]) (fun b=>[]) (pG Tryz.f225 iA) (zcs []) ?_ ?_
 ·rintro q r h
  refine A ?_
  refine zh ?_
  refine zeh h y (fun n h=>?_) fun n h=>?_
  ·refine zf<|zh<|zp<|A ?_
   obtain ⟨s,B,v,C,h⟩:=bs2 h
   refine A ?_
   refine zeh h y (fun p h=>?_) fun p h=>?_
   ·refine A ?_
    refine zK ?_
    obtain rfl:=sm h
    exact ⟨_,y,_,y,zbG []⟩
   ·refine zf<|A ?_
    obtain rfl:=sm h
    exact ⟨_,y,zH []⟩
  ·refine zG ?_
   obtain rfl:=sm h
   exact ⟨y,_,y,zH []⟩
 ·rintro ⟨⟩ rfl
  refine zv<|A ?_
  exact RT0⟩
def z2(b:List zb)(c:List za)(d:T2)(e:T0)(f:T0)(i:Bool)(j:T1)(l:List zi)(m:List zb):Option (Bool):=
  (zbx b c d e f i j l m).bind fun a=>some (decide (0≤a))
theorem zb8(a:List zb)(b:List za)(c:T2)(d:T0)(e:T0)(f:Bool)(i:T1)(j:List zi)(l:List zb){r:Bool}(h:z2 a b c d e f i j l=some r):zaj Tryz.prog 239 [.isl 10 (map zd a),.fn (.func 309) [] [.ipt 1 [[.ipt 2 [[.isl 6 (map zc b),.imp (map (rKV (fun x=>iA x)) c)]] 0 0]] 0 0,.ipt 6 [[sA d,sA e,bA f,.isl 1 (map zn i),.isl 3 (map zD j),.isl 10 (map zd l)]] 0 0]] (bA r):=by
 refine zj Tryz.func239 y kz y y<|A ?_
 obtain ⟨m,n,h⟩:=bs h
 refine A ?_
 exact RT0
instance (a:List zb)(b:List za)(c:T2)(d:T0)(e:T0)(f:Bool)(i:T1)(j:List zi)(l:List zb):PF Tryz.prog 239 [.isl 10 (map zd a),.fn (.func 309) [] [.ipt 1 [[.ipt 2 [[.isl 6 (map zc b),.imp (map (rKV (fun x=>iA x)) c)]] 0 0]] 0 0,.ipt 6 [[sA d,sA e,bA f,.isl 1 (map zn i),.isl 3 (map zD j),.isl 10 (map zd l)]] 0 0]] (z2 a b c d e f i j l) bA:=⟨fun _=>zb8 a b c d e f i j l⟩
def zlm(d:List za)(e:T2)(a:za)(b:List zb):Option (Bool):=
  cond a.Interface (some true) ((z2 b d e a.Name a.Super a.Interface a.Impl a.Fields a.Methods).bind fun c=>some (!c))
def zll(a:Int)(b:List zb):Option (Sum ((List zb)×Int) (Sum ((List zb)) (Bool))):=
  some (.inl (b,(IntKind.i64.wrap (a+1))))
def zfg(d:za×Bool)(b:List zb)(c:Int):Option (Sum ((List zb)×Int) (Sum ((List zb)) (Bool))):=
  cond (decide (c<(length d.1.Methods:Int))) ((idx d.1.Methods c).bind fun a=>(zZ b a.Name a.Params a.Ret a.Static a.Abstract a.Locals a.Stack a.Code a.Maps a.Traps).bind fun e=>cond e (some (.inr (.inr false))) ((zgT 152 b [a]).bind fun f=>some (.inl (f,(IntKind.i64.wrap (c+1)))))) (some (.inr (.inl b)))
def zfh(i:List za)(j:T2)(d:T1)(c:List zb)(a:Int):Option (Sum ((List zb)×Int) (Sum ((List zb)) (Bool))):=
  cond (decide (a<((length d):Int))) ((idx d a).bind fun e=>(zz i j e).bind fun f=>(zm (fun z=>zfg f z.1 z.2) (c,0)).bind fun o=>zI o (fun b=>zll a b) (fun r=>some (.inr (.inr r)))) (some (.inr (.inl c)))
def zh9(a:List za)(c:T2)(d:za):Option (Bool):=
  (zdB a c d.Name).bind fun e=>(zm (fun z=>zfh a c e z.1 z.2) ([],0)).bind fun o=>zI o (fun b=>zlm a c d b) some
theorem zln(e:List za)(i:T2)(c:za){r:Bool}(h:zh9 e i c=some r):zaj Tryz.prog 215 [.ipt 2 [[.isl 6 (map zc e),.imp (map (rKV (fun x=>iA x)) i)]] 0 0,.agg (zc c)] (bA r):=by
 refine zj Tryz.func215 y kz y y<|A ?_
 refine A ?_
 refine zh ?_
 obtain ⟨d,E,h⟩:=bs h
 refine A ?_
 refine u<|sx [] (zgi e i c.Name E)<|zL (env0:=[(2,.mpt 0 0 0),(3,.mpt 1 0 0),(5,.lit (.slice none 0 0)),(15,.msl 2 0 (length d))]) (st0:=[some (1,[[.ipt 2 [[.isl 6 (map zc e),.imp (map (rKV (fun x=>iA x)) i)]] 0 0]]),some (6,[(zc c)]),some (1,map zn d)]) (zH [.old 0,.old 1,.old 2])<|A ?_
 obtain ⟨o,ho,h⟩:=bs h
 refine lpB ho (fun z=>[(2,.mpt 0 0 0),(3,.mpt 1 0 0),(5,.msl 2 0 (length z.1)),(15,.msl 3 0 (length d)),(16,iA ((length d):Int)),(17,iA z.2)]) (fun z=>[some (1,[[.ipt 2 [[.isl 6 (map zc e),.imp (map (rKV (fun x=>iA x)) i)]] 0 0]]),some (6,[(zc c)]),some (10,map zd z.1),some (1,map zn d)]) (fun b=>[(2,.mpt 0 0 0),(3,.mpt 1 0 0),(5,.msl 2 0 (length b))]) (fun b=>[some (1,[[.ipt 2 [[.isl 6 (map zc e),.imp (map (rKV (fun x=>iA x)) i)]] 0 0]]),some (6,[(zc c)]),some (10,map zd b)]) (pG Tryz.f215 bA) ⟨[.old 0,.old 1,.fresh 10,.old 2],cv y (.mpt y)<|cv y (.mpt y)<|cv y (.nilown y)<|cv y (.msl y)<|ce y y<|ce y y<|cn,y,⟨⟨_,y,zbV ⟨ci y,t⟩⟩,⟨_,y,zbV (ciL y)⟩,w,⟨_,y,zP (fun _=>y)⟩,t⟩,y,k⟩ ?_ ?_
 ·rintro ⟨F,j⟩ r h
  refine A ?_
  refine zh ?_
  refine zeh h y (fun m h=>?_) fun m h=>?_
  ·refine zf<|zh<|zp ?_
   obtain ⟨G,H,h⟩:=bs h
   refine A ?_
   obtain ⟨l,I,h⟩:=bs h
   refine A ?_
   refine A ?_
   obtain ⟨o,ho,h⟩:=bs h
   refine lpS ho (fun z=>[(2,.mpt 0 0 0),(3,.mpt 1 0 0),(5,.msl 2 0 (length z.1)),(15,.msl 3 0 (length d)),(16,iA ((length d):Int)),(17,iA j),(28,.isl 10 (map zd l.1.Methods)),(29,iA (length l.1.Methods:Int)),(30,iA z.2)]) (fun z=>[some (1,[[.ipt 2 [[.isl 6 (map zc e),.imp (map (rKV (fun x=>iA x)) i)]] 0 0]]),some (6,[(zc c)]),some (10,map zd z.1),some (1,map zn d)]) (fun b=>[(2,.mpt 0 0 0),(3,.mpt 1 0 0),(5,.msl 2 0 (length b)),(15,.msl 3 0 (length d)),(16,iA ((length d):Int)),(17,iA j)]) (fun b=>[some (1,[[.ipt 2 [[.isl 6 (map zc e),.imp (map (rKV (fun x=>iA x)) i)]] 0 0]]),some (6,[(zc c)]),some (10,map zd b),some (1,map zn d)]) (pG Tryz.f215 bA) (zcs [.old 0,.old 1,.old 2,.old 3]) ?_ ?_ ?_
   ·rintro ⟨s,J⟩ r h
    refine A ?_
    refine zh ?_
    refine zeh h y (fun n h=>?_) fun n h=>?_
    ·refine zf<|zh<|zp ?_
     obtain ⟨a,K,h⟩:=bs h
     refine A ?_
     refine zh ?_
     obtain ⟨L,v,h⟩:=bs h
     refine A ?_
     refine u<|pcs (zb7 s a.Name a.Params a.Ret a.Static a.Abstract a.Locals a.Stack a.Code a.Maps a.Traps v) y y (.cons (zgN y (fun _=>y)) (.cons (zfx t ⟨(zbY y ⟨(si y),(si y),(si y),(si y),(si y),(si y),(si y),(si y),(si y),(si y),t⟩),t⟩) .nil)) zbQ<|zJ ?_
     refine zeh h y (fun p h=>?_) fun p h=>?_
     ·refine A ?_
      refine zK ?_
      obtain rfl:=sm h
      exact ⟨_,y,_,y,zbG []⟩
     ·refine zf ?_
      obtain ⟨M,B,h⟩:=bs h
      refine A ?_
      refine u<|apM 6 ti y ti y y (by decide) ti y y y y (roX (f:=zd) (z:=[a]) y y) (fun _=>y) y B<|A ?_
      refine A ?_
      obtain rfl:=sm h
      exact ⟨_,y,zH [.old 0,.old 1,.old 6,.old 3]⟩
    ·refine zG ?_
     obtain rfl:=sm h
     exact ⟨y,_,y,zH [.old 0,.old 1,.old 2,.old 3]⟩
   ·rintro N rfl
    refine zv<|A ?_
    obtain rfl:=sm h
    exact ⟨_,y,zH [.old 0,.old 1,.old 2,.old 3]⟩
   ·rintro r' rfl env st hp
    obtain rfl:=sm h
    exact ⟨_,y,hp⟩
  ·refine zG ?_
   obtain rfl:=sm h
   exact ⟨y,_,y,zH [.old 0,.old 1,.old 2]⟩
 ·rintro C rfl
  refine zv<|zh<|A ?_
  refine zeh h y (fun q h=>?_) fun q h=>?_
  ·refine A ?_
   exact RT0
  ·refine zf ?_
   obtain ⟨O,D,h⟩:=bs h
   refine A ?_
   refine u<|pcs (zb8 C e i c.Name c.Super c.Interface c.Impl c.Fields c.Methods D) y y (.cons (zgN y (fun _=>y)) (.cons (zfx t ⟨(zbY y ⟨(si y),t⟩),(zbY y ⟨(si y),(si y),(si y),(si y),(si y),(si y),t⟩),t⟩) .nil)) zbQ<|A ?_
   exact RT0
instance (a:List za)(b:T2)(c:za):PF Tryz.prog 215 [.ipt 2 [[.isl 6 (map zc a),.imp (map (rKV (fun x=>iA x)) b)]] 0 0,.agg (zc c)] (zh9 a b c) bA:=⟨fun _=>zln a b c⟩
def zoN:Option (Int):=
  some 0
def zeB(a:zr)(c:T1)(b:Int):Option (Sum (Int) (Sum (Unit) (Int))):=
  cond (decide (b<((length c):Int))) ((idx c b).bind fun e=>(zz a.l a.at_ e).bind fun d=>(zfG a.l a.at_ d.1).bind fun f=>(cond (!f) (some true) ((zh9 a.l a.at_ d.1).bind fun i=>some (!i))).bind fun j=>cond j (some (.inr (.inr 1))) (some (.inl (IntKind.i64.wrap (b+1))))) (some (.inr (.inl ())))
def zkU(a:zr):Option (Int):=
  (zcE a.l a.at_).bind fun c=>(zm (fun z=>zeB a c z) 0).bind fun o=>zI o (fun b=>zoN) some
def zeA(a:zr)(c:T1)(b:Int):Option (Sum (Int) (Sum (Unit) (Int))):=
  cond (decide (b<((length c):Int))) ((idx c b).bind fun f=>(zz a.l a.at_ f).bind fun d=>(zia a.l a.at_ d.1).bind fun e=>cond (!e) (some (.inr (.inr 4))) (some (.inl (IntKind.i64.wrap (b+1))))) (some (.inr (.inl ())))
def zfB(c:Option zr):Option (Int):=
  zwx c (none) (fun a=>(zcE a.l a.at_).bind fun d=>(zm (fun z=>zeA a d z) 0).bind fun o=>zI o (fun b=>zkU a) some)
theorem ziq(m:Option zr){r:Int}(h:zfB m=some r):zaj Tryz.prog 121 [zkD 2 zaZ m] (iA r):=by
 refine zj Tryz.func121 y kz y y ?_
 unfold zfB at h
 rcases m with _ |a
 ·replace h:=oeN h
  cases h
 ·replace h:=oeS h
  refine A ?_
  refine zh ?_
  obtain ⟨f,G,h⟩:=bs h
  refine rg y<|u<|mv y<|u<|sx [] (zeL a.l a.at_ G)<|zL (env0:=[(0,.ipt 2 [[.isl 6 (map zc a.l),.imp (map (rKV (fun x=>iA x)) a.at_)]] 0 0),(12,.msl 0 0 (length f))]) (st0:=[some (1,map zn f)]) (zH [.old 0])<|A ?_
  obtain ⟨o,ho,h⟩:=bs h
  refine lpB ho (fun z=>[(0,.ipt 2 [[.isl 6 (map zc a.l),.imp (map (rKV (fun x=>iA x)) a.at_)]] 0 0),(12,.msl 0 0 (length f)),(13,iA ((length f):Int)),(14,iA z)]) (fun z=>[some (1,map zn f)]) (fun b=>[(0,.ipt 2 [[.isl 6 (map zc a.l),.imp (map (rKV (fun x=>iA x)) a.at_)]] 0 0)]) (fun b=>[]) (pG Tryz.f121 iA) (zcs [.old 0]) ?_ ?_
  ·rintro O r h
   refine A ?_
   refine zh ?_
   refine zeh h y (fun s h=>?_) fun s h=>?_
   ·refine zf<|zh<|zp ?_
    obtain ⟨P,Q,h⟩:=bs h
    refine A ?_
    obtain ⟨v,R,h⟩:=bs h
    refine A ?_
    obtain ⟨H,B,h⟩:=bs h
    refine rg y<|u<|mv y<|u<|ld ti y y<|u<|pc (zlo a.l a.at_ v.1 B) y y y<|u<|nt y<|zJ ?_
    refine zeh h y (fun n h=>?_) fun n h=>?_
    ·refine A ?_
     refine zK ?_
     obtain rfl:=sm h
     exact ⟨_,y,_,y,zbG []⟩
    ·refine zf<|A ?_
     obtain rfl:=sm h
     exact ⟨_,y,zH [.old 0]⟩
   ·refine zG ?_
    obtain rfl:=sm h
    exact ⟨y,_,y,zH []⟩
  ·rintro ⟨⟩ rfl
   refine zv<|zh ?_
   obtain ⟨e,C,h⟩:=bs h
   refine rg y<|u<|mv y<|u<|sx [] (zeL a.l a.at_ C)<|zL (env0:=[(0,.ipt 2 [[.isl 6 (map zc a.l),.imp (map (rKV (fun x=>iA x)) a.at_)]] 0 0),(30,.msl 0 0 (length e))]) (st0:=[some (1,map zn e)]) (zH [.old 0])<|A ?_
   obtain ⟨o,ho,h⟩:=bs h
   refine lpB ho (fun z=>[(0,.ipt 2 [[.isl 6 (map zc a.l),.imp (map (rKV (fun x=>iA x)) a.at_)]] 0 0),(30,.msl 0 0 (length e)),(31,iA ((length e):Int)),(32,iA z)]) (fun z=>[some (1,map zn e)]) (fun b=>[]) (fun b=>[]) (pG Tryz.f121 iA) (zcs [.old 0]) ?_ ?_
   ·rintro I r h
    refine A ?_
    refine zh ?_
    refine zeh h y (fun p h=>?_) fun p h=>?_
    ·refine zf<|zh<|zp ?_
     obtain ⟨J,K,h⟩:=bs h
     refine A ?_
     obtain ⟨i,L,h⟩:=bs h
     refine A ?_
     obtain ⟨M,D,E,d,h⟩:=bs2 h
     refine rg y<|u<|mv y<|u<|ld ti y y<|u<|pc (zi0 a.l a.at_ i.1 D) y y y<|u<|nt y<|u<|mv y<|zwC (x:=E) (j:=4) 4 y y y y y gpn (fun c=>by replace d:=bF c d;obtain ⟨N,F,d⟩:=bs d;obtain rfl:=sm d;exact g y c<|mv y<|g y c<|ld ti y y<|g y c<|pc (zln a.l a.at_ i.1 F) y y y<|g y c<|nt y<|zJ (eg [47,48,49,50] 4 y y y y)) (fun hb=>(sm (bT hb d)).symm)<|zJ ?_
     refine zeh h y (fun q h=>?_) fun q h=>?_
     ·refine A ?_
      refine zK ?_
      obtain rfl:=sm h
      exact ⟨_,y,_,y,zbG []⟩
     ·refine zf<|A ?_
      obtain rfl:=sm h
      exact ⟨_,y,zH [.old 0]⟩
    ·refine zG ?_
     obtain rfl:=sm h
     exact ⟨y,_,y,zH []⟩
   ·rintro ⟨⟩ rfl
    refine zv<|A ?_
    exact RT0
instance (a:Option zr):PF Tryz.prog 121 [zkD 2 zaZ a] (zfB a) iA:=⟨fun _=>ziq a⟩
def zgW(a:T0):Bool:=
  false
instance (a:T0):PF Tryz.prog 102 [.lit (.pointer none),sA a] (some (zgW a)) bA:=.of fun r h=>by
 refine zj Tryz.func102 y kz y y ?_
 unfold zgW at h
 refine A ?_
 refine zh<|A ?_
 refine zhY y (fun _=>?_) (fun hx=>by cases hx)
 refine A ?_
 refine zK ?_
 obtain rfl:=h
 exact ⟨_,y,zbG []⟩
def zmV:Option (T1):=
  some []
def zmW(a:T0):Option (Sum (Unit) (Sum (Unit) (T1))):=
  cond (zgW a) ((zgT 16 ([]:T1) [a]).bind fun b=>none) (some (.inr (.inl ())))
def zit(a:T0):Option (T1):=
  (zm (fun z=>zmW a) ()).bind fun o=>zI o (fun b=>zmV) some
theorem zi2(a:T0){r:T1}(h:zit a=some r):zaj Tryz.prog 109 [.lit (.pointer none),sA a] (.isl 1 (map zn r)):=by
 refine zj Tryz.func109 y kz y y<|A ?_
 refine A ?_
 obtain ⟨o,ho,h⟩:=bs h
 refine lpA ho (fun z=>[(0,.lit (.pointer none)),(1,sA a),(5,.lit (.slice none 0 0))]) (fun z=>[]) (fun b=>[(5,.lit (.slice none 0 0))]) (fun b=>[]) (pG Tryz.f109 (fun r=>.isl 1 (map zn r))) (zcs []) ?_ ?_
 ·rintro ⟨⟩ r h
  refine zh<|A ?_
  refine zeh h y (fun c h=>?_) fun c h=>?_
  ·refine zf<|zp ?_
   obtain ⟨e,d,h⟩:=bs h
   refine A ?_
   refine u<|apN (f:=zn) 1 ti y ti y y (by decide) ti y y y (roX (f:=zn) (z:=[a]) y y) (fun _=>y) y d<|A ?_
   cases h
  ·refine zG ?_
   obtain rfl:=sm h
   exact ⟨y,_,y,zH []⟩
 ·rintro ⟨⟩ rfl
  refine A ?_
  exact RT0
instance (a:T0):PF Tryz.prog 109 [.lit (.pointer none),sA a] (zit a) (fun r=>(.isl 1 (map zn r))):=⟨fun _=>zi2 a⟩
def zju(a:T0):Option (za×Bool):=
  cond (!(zgW a)) (some ((za.mk [] [] false [] [] []),false)) (none)
instance (a:T0):PF Tryz.prog 106 [.lit (.pointer none),sA a] (zju a) (fun r=>(.tup [.agg (zc r.1),bA r.2])):=⟨fun r h=>by
 refine zj Tryz.func106 y kz y y<|A ?_
 refine zh<|A ?_
 refine zeh h y (fun b h=>?_) fun b h=>?_
 ·refine A ?_
  exact RT0
 ·refine zf ?_
  cases h⟩
def zpC:Option (T0×zb×Bool):=
  some ([],(zb.mk [] [] [] false false 0 0 [] [] []),false)
def zpD(e:T1)(l:T0)(a:Int):Option (Sum (Int) (Sum (Unit) (T0×zb×Bool))):=
  cond (decide (a<(length e:Int))) ((idx e a).bind fun d=>(zju d).bind fun b=>(zeG b.1 l).bind fun c=>(cond (decide (0≤c)) ((idx b.1.Methods c).bind fun f=>some (zaU f)) (some false)).bind fun i=>cond i ((idx b.1.Methods c).bind fun j=>some (.inr (.inr (d,j,true)))) (some (.inl (IntKind.i64.wrap (a+1))))) (some (.inr (.inl ())))
def zlA(a:T1)(c:T0):Option (T0×zb×Bool):=
  (zm (fun z=>zpD a c z) 0).bind fun o=>zI o (fun b=>zpC) some
theorem zlB(d:T1)(e:T0){r:T0×zb×Bool}(h:zlA d e=some r):zaj Tryz.prog 218 [.lit (.pointer none),.isl 1 (map zn d),sA e,.fn (.func 219) [] []] (.tup [sA r.1,.agg (zd r.2.1),bA r.2.2]):=by
 refine zj Tryz.func218 y kz y y<|A ?_
 refine zh<|A ?_
 obtain ⟨o,ho,h⟩:=bs h
 refine lpB ho (fun z=>[(0,.lit (.pointer none)),(2,sA e),(3,.fn (.func 219) [] []),(9,.mpt 0 0 0),(16,.isl 1 (map zn d)),(17,iA (length d:Int)),(18,iA z)]) (fun z=>[some (10,[[sA [],.lit (.slice none 0 0),sA [],bA false,bA false,iA 0,iA 0,.lit (.slice none 0 0),.lit (.slice none 0 0),.lit (.slice none 0 0)]])]) (fun b=>[(9,.mpt 0 0 0)]) (fun b=>[some (10,[[sA [],.lit (.slice none 0 0),sA [],bA false,bA false,iA 0,iA 0,.lit (.slice none 0 0),.lit (.slice none 0 0),.lit (.slice none 0 0)]])]) (pG Tryz.f218 (fun r=>.tup [sA r.1,.agg (zd r.2.1),bA r.2.2])) (zcs [.old 0]) ?_ ?_
 ·rintro v r h
  refine A ?_
  refine zh ?_
  refine zeh h y (fun i h=>?_) fun i h=>?_
  ·refine zf<|zh<|zp ?_
   obtain ⟨B,C,h⟩:=bs h
   refine A ?_
   obtain ⟨m,D,h⟩:=bs h
   refine A ?_
   obtain ⟨E,n,h⟩:=bs h
   refine rg y<|u<|ld ti y y<|u<|mv y<|u<|pc (zge m.1 e n) y y y<|u<|asg y<|zJ ?_
   obtain ⟨p,c,h⟩:=bs h
   refine rg y<|u<|mv y<|u<|geq ti y y<|u<|mv y<|zik (x:=p) (j:=2) 7 y y y y y gpn (fun a=>by replace c:=bT a c;obtain ⟨q,f,c⟩:=bs c;obtain rfl:=sm c;exact g y a<|mv y<|g y a<|fa ti y y y<|g y a<|ld ti y y<|g y a<|mv y<|g y a<|ixI ti y ti y y y f<|g y a<|ldI ti y (zbI f).2.2 y<|g y a<|pc (ziv q y) y y y<|zJ (eg [34,35,36,37,38,39,40] 7 y y y y)) (fun hb=>(sm (bF hb c)).symm)<|zJ ?_
   refine zeh h y (fun l h=>?_) fun l h=>?_
   ·obtain ⟨s,F,h⟩:=bs h
    refine rdA [(8,_),(9,_),(10,_)] [some (10,[(zd s)])] [7] [0,1,2,3,4,5,6] [(8,_),(47,_),(46,_),(45,_),(44,_),(43,_),(42,_)] 1 (zgE (z:=by exact ⟨(fun _ _=>⟨_,y,y,sto ti y y y<|⟨.any,[8],[(10,_)],y,y,y,t,zhx (z:=zcs [.old 0])⟩⟩),t⟩)) ?_
    refine zK ?_
    obtain rfl:=sm h
    exact ⟨_,y,_,y,zbG []⟩
   ·refine zf<|A ?_
    obtain rfl:=sm h
    exact ⟨_,y,zH [.old 0]⟩
  ·refine zG ?_
   obtain rfl:=sm h
   exact ⟨y,_,y,zH [.old 0]⟩
 ·rintro ⟨⟩ rfl
  refine zv<|A ?_
  exact RT0
instance (a:T1)(b:T0):PF Tryz.prog 218 [.lit (.pointer none),.isl 1 (map zn a),sA b,.fn (.func 219) [] []] (zlA a b) (fun r=>(.tup [sA r.1,.agg (zd r.2.1),bA r.2.2])):=⟨fun _=>zlB a b⟩
def zi3(f:Option zr)(d:T0)(e:T0):Option (T0×zb×Bool):=
  zwx f ((zit d).bind fun i=>(zlA i e).bind fun b=>some (b.1,b.2.1,b.2.2)) (fun a=>(zak a.l a.at_ d).bind fun j=>(zij a.l a.at_ j e).bind fun c=>some (c.1,c.2.1,c.2.2))
theorem zmy(d:Option zr)(c:T0)(b:T0){r:T0×zb×Bool}(h:zi3 d c b=some r):zaj Tryz.prog 124 [zkD 2 zaZ d,sA c,sA b] (.tup [sA r.1,.agg (zd r.2.1),bA r.2.2]):=by
 refine zj Tryz.func124 y kz y y ?_
 unfold zi3 at h
 rcases d with _ |a
 ·replace h:=oeN h
  refine A ?_
  obtain ⟨f,i,n,j,h⟩:=bs2 h
  refine rg y<|u<|mv y<|u<|mv y<|u<|mv y<|u<|pc (zi2 c i) y y y<|u<|mv y<|u<|pc (zlB f b j) y y y<|u<|ex y y<|u<|ex y y<|u<|ex y y<|u<|asg y<|u<|sto ti y y y<|u<|asg y<|zJ ?_
  exact RT0
 ·replace h:=oeS h
  refine A ?_
  obtain ⟨e,m,o,p,h⟩:=bs2 h
  refine A ?_
  refine u<|sx [] (zaE a.l a.at_ c m)<|zL (env0:=[(2,sA b),(7,.mpt 0 0 0),(9,.ipt 2 [[.isl 6 (map zc a.l),.imp (map (rKV (fun x=>iA x)) a.at_)]] 0 0),(12,.msl 1 0 (length e))]) (st0:=[some (10,[[sA [],.lit (.slice none 0 0),sA [],bA false,bA false,iA 0,iA 0,.lit (.slice none 0 0),.lit (.slice none 0 0),.lit (.slice none 0 0)]]),some (1,map zn e)]) (zH [.old 0,.old 1])<|u<|mv y<|zL (env0:=[(7,.mpt 0 0 0),(9,.ipt 2 [[.isl 6 (map zc a.l),.imp (map (rKV (fun x=>iA x)) a.at_)]] 0 0),(12,.isl 1 (map zn e)),(13,sA b)]) (st0:=[some (10,[[sA [],.lit (.slice none 0 0),sA [],bA false,bA false,iA 0,iA 0,.lit (.slice none 0 0),.lit (.slice none 0 0),.lit (.slice none 0 0)]])]) (zH [.old 0])<|A ?_
  exact RT0
instance (a:Option zr)(b:T0)(c:T0):PF Tryz.prog 124 [zkD 2 zaZ a,sA b,sA c] (zi3 a b c) (fun r=>(.tup [sA r.1,.agg (zd r.2.1),bA r.2.2])):=⟨fun _=>zmy a b c⟩
def zjg(a:T0)(b:List za)(c:T2):Option (Bool):=
  (zdl b c a).bind fun d=>some d
instance (a:T0)(b:List za)(c:T2):PF Tryz.prog 192 [sA a,.ipt 1 [[.ipt 2 [[.isl 6 (map zc b),.imp (map (rKV (fun x=>iA x)) c)]] 0 0]] 0 0] (zjg a b c) bA:=⟨fun r h=>by
 refine zj Tryz.func192 y kz y y<|A ?_
 obtain ⟨d,e,h⟩:=bs h
 refine A ?_
 exact RT0⟩
def zlQ(a:T0)(b:List za)(c:T2):Option (Bool):=
  (zjg a b c).bind fun d=>some (!d)
instance (a:T0)(b:List za)(c:T2):PF Tryz.prog 274 [sA a,.ipt 1 [[.fn (.func 192) [] [.ipt 1 [[.ipt 2 [[.isl 6 (map zc b),.imp (map (rKV (fun x=>iA x)) c)]] 0 0]] 0 0]]] 0 0] (zlQ a b c) bA:=⟨fun r h=>by
 refine zj Tryz.func274 y kz y y<|A ?_
 obtain ⟨d,e,h⟩:=bs h
 refine A ?_
 exact RT0⟩
def zeb:Option (Int):=
  some (-1)
def za8(b:T1)(c:List za)(d:T2)(a:Int):Option (Sum (Int) (Sum (Unit) (Int))):=
  cond (decide (a<(length b:Int))) ((idx b a).bind fun e=>(zlQ e c d).bind fun f=>cond f (some (.inr (.inr a))) (some (.inl (IntKind.i64.wrap (a+1))))) (some (.inr (.inl ())))
def zcL(a:T1)(c:List za)(d:T2):Option (Int):=
  (zm (fun z=>za8 a c d z) 0).bind fun o=>zI o (fun b=>zeb) some
instance (a:T1)(c:List za)(d:T2):PF Tryz.prog 181 [.isl 1 (map zn a),.fn (.func 274) [] [.ipt 1 [[.fn (.func 192) [] [.ipt 1 [[.ipt 2 [[.isl 6 (map zc c),.imp (map (rKV (fun x=>iA x)) d)]] 0 0]] 0 0]]] 0 0]] (zcL a c d) iA:=⟨fun r h=>by
 refine zj Tryz.func181 y kz y y<|A ?_
 refine zh<|A ?_
 obtain ⟨o,ho,h⟩:=bs h
 refine lpB ho (fun z=>[(0,.isl 1 (map zn a)),(1,.fn (.func 274) [] [.ipt 1 [[.fn (.func 192) [] [.ipt 1 [[.ipt 2 [[.isl 6 (map zc c),.imp (map (rKV (fun x=>iA x)) d)]] 0 0]] 0 0]]] 0 0]),(7,iA (length a:Int)),(8,iA z)]) (fun z=>[]) (fun b=>[]) (fun b=>[]) (pG Tryz.f181 iA) (zcs []) ?_ ?_
 ·rintro i r h
  refine A ?_
  refine zh ?_
  refine zeh h y (fun e h=>?_) fun e h=>?_
  ·refine zf<|zh<|zp<|A ?_
   obtain ⟨j,l,m,n,h⟩:=bs2 h
   refine A ?_
   refine zeh h y (fun f h=>?_) fun f h=>?_
   ·refine A ?_
    refine zK ?_
    obtain rfl:=sm h
    exact ⟨_,y,_,y,zbG []⟩
   ·refine zf<|A ?_
    obtain rfl:=sm h
    exact ⟨_,y,zH []⟩
  ·refine zG ?_
   obtain rfl:=sm h
   exact ⟨y,_,y,zH []⟩
 ·rintro ⟨⟩ rfl
  refine zv<|A ?_
  exact RT0⟩
def za1(a:T1)(b:List za)(c:T2):Option (Bool):=
  (zcL a b c).bind fun d=>some (decide (0≤d))
theorem zdv(a:T1)(b:List za)(c:T2){r:Bool}(h:za1 a b c=some r):zaj Tryz.prog 99 [.isl 1 (map zn a),.fn (.func 274) [] [.ipt 1 [[.fn (.func 192) [] [.ipt 1 [[.ipt 2 [[.isl 6 (map zc b),.imp (map (rKV (fun x=>iA x)) c)]] 0 0]] 0 0]]] 0 0]] (bA r):=by
 refine zj Tryz.func99 y kz y y<|A ?_
 obtain ⟨d,e,h⟩:=bs h
 refine A ?_
 exact RT0
instance (a:T1)(b:List za)(c:T2):PF Tryz.prog 99 [.isl 1 (map zn a),.fn (.func 274) [] [.ipt 1 [[.fn (.func 192) [] [.ipt 1 [[.ipt 2 [[.isl 6 (map zc b),.imp (map (rKV (fun x=>iA x)) c)]] 0 0]] 0 0]]] 0 0]] (za1 a b c) bA:=⟨fun _=>zdv a b c⟩
def ziT(a:T1)(b:List za)(c:T2):Option (Bool):=
  (za1 a b c).bind fun d=>some (!d)
theorem zkM(a:T1)(b:List za)(c:T2){r:Bool}(h:ziT a b c=some r):zaj Tryz.prog 195 [.isl 1 (map zn a),.fn (.func 192) [] [.ipt 1 [[.ipt 2 [[.isl 6 (map zc b),.imp (map (rKV (fun x=>iA x)) c)]] 0 0]] 0 0]] (bA r):=by
 refine zj Tryz.func195 y kz y y<|A ?_
 obtain ⟨e,d,h⟩:=bs h
 refine A ?_
 refine u<|pcs (zdv a b c d) y y (.cons (si y) (.cons (zfx t ⟨(zbY y ⟨(si y),t⟩),t⟩) .nil)) zbQ<|A ?_
 exact RT0
instance (a:T1)(b:List za)(c:T2):PF Tryz.prog 195 [.isl 1 (map zn a),.fn (.func 192) [] [.ipt 1 [[.ipt 2 [[.isl 6 (map zc b),.imp (map (rKV (fun x=>iA x)) c)]] 0 0]] 0 0]] (ziT a b c) bA:=⟨fun _=>zkM a b c⟩
def zjj(a:List za)(b:T2)(c:T0)(d:zb)(e:T1)(f:T1)(i:Bool)(j:Bool):Unit:=
  ()
theorem zq(a:List za)(b:T2)(c:T0)(d:zb)(e:T1)(f:T1)(i:Bool)(j:Bool){r:Unit}(h:zjj a b c d e f i j=r):SC Tryz.prog 194 [.mpt 0 0 0,bA j] (tV a b c d e f i []) (.tup []) (tV a b c d e f (i||(!j)) []):=by
 refine ⟨⟨t,zg0 (sz:=1) (fun _=>y),zg0 (sz:=1) (fun _=>y),t⟩,zai Tryz.func194 y kz y ?_⟩
 unfold zjj at h
 refine A ?_
 obtain rfl:=h
 exact ⟨_,y,zbG [.old 0,.old 1,.old 2]⟩
def zjh(a:T0)(b:List za)(c:T2):Option (Bool):=
  (zcb b c a a).bind fun d=>some d
instance (a:T0)(b:List za)(c:T2):PF Tryz.prog 197 [sA a,.ipt 1 [[.ipt 2 [[.isl 6 (map zc b),.imp (map (rKV (fun x=>iA x)) c)]] 0 0]] 0 0] (zjh a b c) bA:=⟨fun r h=>by
 refine zj Tryz.func197 y kz y y<|A ?_
 obtain ⟨e,d,h⟩:=bs h
 refine rg y<|u<|ld ti y y<|u<|mv y<|u<|mv y<|u<|pc (zc3 b c a a d) y y y<|u<|asg y<|zJ ?_
 exact RT0⟩
def zji(a:T0)(b:List za)(c:T2):Option (Bool):=
  (zjh a b c).bind fun d=>some (!d)
instance (a:T0)(b:List za)(c:T2):PF Tryz.prog 274 [sA a,.ipt 1 [[.fn (.func 197) [] [.ipt 1 [[.ipt 2 [[.isl 6 (map zc b),.imp (map (rKV (fun x=>iA x)) c)]] 0 0]] 0 0]]] 0 0] (zji a b c) bA:=⟨fun r h=>by
 refine zj Tryz.func274 y kz y y<|A ?_
 obtain ⟨d,e,h⟩:=bs h
 refine A ?_
 exact RT0⟩
def zec:Option (Int):=
  some (-1)
def za9(b:T1)(c:List za)(d:T2)(a:Int):Option (Sum (Int) (Sum (Unit) (Int))):=
  cond (decide (a<(length b:Int))) ((idx b a).bind fun e=>(zji e c d).bind fun f=>cond f (some (.inr (.inr a))) (some (.inl (IntKind.i64.wrap (a+1))))) (some (.inr (.inl ())))
def zcM(a:T1)(c:List za)(d:T2):Option (Int):=
  (zm (fun z=>za9 a c d z) 0).bind fun o=>zI o (fun b=>zec) some
instance (a:T1)(c:List za)(d:T2):PF Tryz.prog 181 [.isl 1 (map zn a),.fn (.func 274) [] [.ipt 1 [[.fn (.func 197) [] [.ipt 1 [[.ipt 2 [[.isl 6 (map zc c),.imp (map (rKV (fun x=>iA x)) d)]] 0 0]] 0 0]]] 0 0]] (zcM a c d) iA:=⟨fun r h=>by
 refine zj Tryz.func181 y kz y y<|A ?_
 refine zh<|A ?_
 obtain ⟨o,ho,h⟩:=bs h
 refine lpB ho (fun z=>[(0,.isl 1 (map zn a)),(1,.fn (.func 274) [] [.ipt 1 [[.fn (.func 197) [] [.ipt 1 [[.ipt 2 [[.isl 6 (map zc c),.imp (map (rKV (fun x=>iA x)) d)]] 0 0]] 0 0]]] 0 0]),(7,iA (length a:Int)),(8,iA z)]) (fun z=>[]) (fun b=>[]) (fun b=>[]) (pG Tryz.f181 iA) (zcs []) ?_ ?_
 ·rintro i r h
  refine A ?_
  refine zh ?_
  refine zeh h y (fun e h=>?_) fun e h=>?_
  ·refine zf<|zh<|zp<|A ?_
   obtain ⟨j,l,m,n,h⟩:=bs2 h
   refine A ?_
   refine zeh h y (fun f h=>?_) fun f h=>?_
   ·refine A ?_
    refine zK ?_
    obtain rfl:=sm h
    exact ⟨_,y,_,y,zbG []⟩
   ·refine zf<|A ?_
    obtain rfl:=sm h
    exact ⟨_,y,zH []⟩
  ·refine zG ?_
   obtain rfl:=sm h
   exact ⟨y,_,y,zH []⟩
 ·rintro ⟨⟩ rfl
  refine zv<|A ?_
  exact RT0⟩
def za2(a:T1)(b:List za)(c:T2):Option (Bool):=
  (zcM a b c).bind fun d=>some (decide (0≤d))
theorem zdw(a:T1)(b:List za)(c:T2){r:Bool}(h:za2 a b c=some r):zaj Tryz.prog 99 [.isl 1 (map zn a),.fn (.func 274) [] [.ipt 1 [[.fn (.func 197) [] [.ipt 1 [[.ipt 2 [[.isl 6 (map zc b),.imp (map (rKV (fun x=>iA x)) c)]] 0 0]] 0 0]]] 0 0]] (bA r):=by
 refine zj Tryz.func99 y kz y y<|A ?_
 obtain ⟨d,e,h⟩:=bs h
 refine A ?_
 exact RT0
instance (a:T1)(b:List za)(c:T2):PF Tryz.prog 99 [.isl 1 (map zn a),.fn (.func 274) [] [.ipt 1 [[.fn (.func 197) [] [.ipt 1 [[.ipt 2 [[.isl 6 (map zc b),.imp (map (rKV (fun x=>iA x)) c)]] 0 0]] 0 0]]] 0 0]] (za2 a b c) bA:=⟨fun _=>zdw a b c⟩
def zhv(a:T1)(b:List za)(c:T2):Option (Bool):=
  (za2 a b c).bind fun d=>some (!d)
theorem zkY(a:T1)(b:List za)(c:T2){r:Bool}(h:zhv a b c=some r):zaj Tryz.prog 195 [.isl 1 (map zn a),.fn (.func 197) [] [.ipt 1 [[.ipt 2 [[.isl 6 (map zc b),.imp (map (rKV (fun x=>iA x)) c)]] 0 0]] 0 0]] (bA r):=by
 refine zj Tryz.func195 y kz y y<|A ?_
 obtain ⟨e,d,h⟩:=bs h
 refine A ?_
 refine u<|pcs (zdw a b c d) y y (.cons (si y) (.cons (zfx t ⟨(zbY y ⟨(si y),t⟩),t⟩) .nil)) zbQ<|A ?_
 exact RT0
instance (a:T1)(b:List za)(c:T2):PF Tryz.prog 195 [.isl 1 (map zn a),.fn (.func 197) [] [.ipt 1 [[.ipt 2 [[.isl 6 (map zc b),.imp (map (rKV (fun x=>iA x)) c)]] 0 0]] 0 0]] (zhv a b c) bA:=⟨fun _=>zkY a b c⟩
def zeY(a:zT)(b:Int):Bool:=
  (a.At == b)
instance (a:zT)(b:Int):PF Tryz.prog 340 [.agg (z7 a),.ipt 1 [[iA b]] 0 0] (some (zeY a b)) bA:=.of fun r h=>by
 refine zj Tryz.func340 y kz y y ?_
 unfold zeY at h
 refine A ?_
 refine A ?_
 refine zK ?_
 obtain rfl:=h
 exact ⟨_,y,zbG []⟩
def zeq:Option (Int):=
  some (-1)
def zbi(b:List zT)(c:Int)(a:Int):Option (Sum (Int) (Sum (Unit) (Int))):=
  cond (decide (a<(length b:Int))) ((idx b a).bind fun d=>cond (zeY d c) (some (.inr (.inr a))) (some (.inl (IntKind.i64.wrap (a+1))))) (some (.inr (.inl ())))
def zbJ(a:List zT)(c:Int):Option (Int):=
  (zm (fun z=>zbi a c z) 0).bind fun o=>zI o (fun b=>zeq) some
theorem zer(a:List zT)(c:Int){r:Int}(h:zbJ a c=some r):zaj Tryz.prog 339 [.isl 3 (map z7 a),.fn (.func 340) [] [.ipt 1 [[iA c]] 0 0]] (iA r):=by
 refine zj Tryz.func339 y kz y y<|A ?_
 refine zh<|A ?_
 obtain ⟨o,ho,h⟩:=bs h
 refine lpB ho (fun z=>[(0,.isl 3 (map z7 a)),(1,.fn (.func 340) [] [.ipt 1 [[iA c]] 0 0]),(7,iA (length a:Int)),(8,iA z)]) (fun z=>[]) (fun b=>[]) (fun b=>[]) (pG Tryz.f339 iA) (zcs []) ?_ ?_
 ·rintro f r h
  refine A ?_
  refine zh ?_
  refine zeh h y (fun d h=>?_) fun d h=>?_
  ·refine zf<|zh<|zp<|A ?_
   obtain ⟨i,j,h⟩:=bs h
   refine A ?_
   refine zeh h y (fun e h=>?_) fun e h=>?_
   ·refine A ?_
    refine zK ?_
    obtain rfl:=sm h
    exact ⟨_,y,_,y,zbG []⟩
   ·refine zf<|A ?_
    obtain rfl:=sm h
    exact ⟨_,y,zH []⟩
  ·refine zG ?_
   obtain rfl:=sm h
   exact ⟨y,_,y,zH []⟩
 ·rintro ⟨⟩ rfl
  refine zv<|A ?_
  exact RT0
instance (a:List zT)(b:Int):PF Tryz.prog 339 [.isl 3 (map z7 a),.fn (.func 340) [] [.ipt 1 [[iA b]] 0 0]] (zbJ a b) iA:=⟨fun _=>zer a b⟩
def zdf(e:List za)(f:T2)(i:T0)(a:zb)(j:T1)(l:T1)(m:Bool)(d:Int):Option ((Option zT)):=
  (zbJ a.Maps d).bind fun b=>cond (decide (b<0)) (some none) ((idx a.Maps b).bind fun c=>some (some c))
theorem zf2(b:List za)(c:T2)(d:T0)(a:zb)(e:T1)(f:T1)(i:Bool)(j:Int){r:(Option zT)}(h:zdf b c d a e f i j=some r):SC Tryz.prog 277 [.mpt 0 0 0,iA j] (tV b c d a e f i []) (zkD 3 z7 r) (tV b c d a e f i []):=by
 refine ⟨⟨t,zg0 (sz:=1) (fun _=>y),zg0 (sz:=1) (fun _=>y),t⟩,zai Tryz.func277 y kz y ?_⟩
 refine A ?_
 obtain ⟨p,n,h⟩:=bs h
 refine A ?_
 refine u<|pcs (zer a.Maps j n) y y (.cons (si y) (.cons (zfx t ⟨(zbY y ⟨(si y),t⟩),t⟩) .nil)) zbQ<|A ?_
 refine zh<|A ?_
 refine zeh h y (fun l h=>?_) fun l h=>?_
 ·refine A ?_
  exact RT3
 ·refine zf ?_
  obtain ⟨o,m,h⟩:=bs h
  refine rg y<|u<|mv y<|u<|nc y y<|u<|fa ti y y y<|u<|fa ti y y y<|u<|ld ti y y<|u<|mv y<|u<|ixI ti y ti y y y m<|zEX m<|u<|asg y<|zJ ?_
  exact RT3
def zhg(b:List za)(c:T2)(a:T0):Option (Bool):=
  (cond (!(a == [73])) ((zcb b c a a).bind fun d=>some d) (some false)).bind fun e=>some e
instance (d:List za)(e:T2)(c:T0):PF Tryz.prog 337 [.ipt 2 [[.isl 6 (map zc d),.imp (map (rKV (fun x=>iA x)) e)]] 0 0,sA c] (zhg d e c) bA:=⟨fun r h=>by
 refine zj Tryz.func337 y kz y y<|A ?_
 obtain ⟨f,b,h⟩:=bs h
 refine rg y<|u<|mv y<|u<|sne ti y y<|u<|mv y<|zik (x:=f) (j:=2) 4 y y y y y gpn (fun a=>by replace b:=bT a b;obtain ⟨l,i,b⟩:=bs b;obtain rfl:=sm b;exact g y a<|mv y<|g y a<|mv y<|g y a<|mv y<|g y a<|pc (zc3 d e c c i) y y y<|zJ (eg [8,9,10,11] 4 y y y y)) (fun hb=>(sm (bF hb b)).symm)<|u<|asg y<|zJ ?_
 exact RT0⟩
def zeW(a:List za)(b:T2)(d:T0)(c:T0):Option (Bool):=
  (zdl a b d).bind fun m=>(cond (!m) (some true) ((zdl a b c).bind fun n=>some (!n))).bind fun o=>cond o (some false) (cond ((c == [84])||(d == c)) (some true) (cond (d == [78]) ((zhg a b c).bind fun p=>some p) ((zhg a b d).bind fun q=>(cond (!q) (some true) ((zhg a b c).bind fun e=>some (!e))).bind fun f=>cond f (some false) ((zz a b c).bind fun i=>(cond i.1.Interface (some true) ((zcb a b d c).bind fun j=>some j)).bind fun l=>some l))))
theorem ziA(c:List za)(d:T2)(e:T0)(f:T0){r:Bool}(h:zeW c d e f=some r):zaj Tryz.prog 271 [.ipt 2 [[.isl 6 (map zc c),.imp (map (rKV (fun x=>iA x)) d)]] 0 0,sA e,sA f] (bA r):=by
 refine zj Tryz.func271 y kz y y<|A ?_
 refine zh<|zp ?_
 obtain ⟨E,F,G,H,h⟩:=bs2 h
 refine A ?_
 refine zeh h y (fun l h=>?_) fun l h=>?_
 ·refine A ?_
  exact RT0
 ·refine A ?_
  refine zeh h y (fun m h=>?_) fun m h=>?_
  ·refine A ?_
   exact RT0
  ·refine A ?_
   refine zeh h y (fun n h=>?_) fun n h=>?_
   ·obtain ⟨I,J,h⟩:=bs h
    refine A ?_
    exact RT0
   ·obtain ⟨K,q,s,v,h⟩:=bs2 h
    refine A ?_
    refine zeh h y (fun i h=>?_) fun i h=>?_
    ·refine A ?_
     exact RT0
    ·refine zf ?_
     obtain ⟨B,C,h⟩:=bs h
     refine A ?_
     obtain ⟨o,b,h⟩:=bs h
     refine rg y<|u<|fa ti y y y<|u<|ld ti y y<|u<|mv y<|zwC (x:=o) (j:=2) 4 y y y y y gpn (fun a=>by replace b:=bF a b;obtain ⟨D,p,b⟩:=bs b;obtain rfl:=sm b;exact g y a<|mv y<|g y a<|mv y<|g y a<|mv y<|g y a<|pc (zc3 c d e f p) y y y<|zJ (eg [54,55,56,57] 4 y y y y)) (fun hb=>(sm (bT hb b)).symm)<|u<|asg y<|zJ ?_
     exact RT0
instance (a:List za)(b:T2)(c:T0)(d:T0):PF Tryz.prog 271 [.ipt 2 [[.isl 6 (map zc a),.imp (map (rKV (fun x=>iA x)) b)]] 0 0,sA c,sA d] (zeW a b c d) bA:=⟨fun _=>ziA a b c d⟩
def zp3:Option (Bool):=
  some true
def zfv(f:List za)(i:T2)(b:T1)(j:T1)(a:Int):Option (Sum (Int) (Sum (Unit) (Bool))):=
  cond (decide (a<(length b:Int))) ((idx b a).bind fun c=>(idx j a).bind fun d=>(zeW f i c d).bind fun e=>cond (!e) (some (.inr (.inr false))) (some (.inl (IntKind.i64.wrap (a+1))))) (some (.inr (.inl ())))
def zio(d:List za)(e:T2)(a:T1)(c:T1):Option (Bool):=
  cond (!((length a:Int) == (length c:Int))) (some false) ((zm (fun z=>zfv d e a c z) 0).bind fun o=>zI o (fun b=>zp3) some)
instance (c:List za)(d:T2)(a:T1)(e:T1):PF Tryz.prog 272 [.ipt 2 [[.isl 6 (map zc c),.imp (map (rKV (fun x=>iA x)) d)]] 0 0,.isl 1 (map zn a),.isl 1 (map zn e)] (zio c d a e) bA:=⟨fun r h=>by
 refine zj Tryz.func272 y kz y y<|A ?_
 refine zh<|A ?_
 refine zeh h y (fun i h=>?_) fun i h=>?_
 ·refine A ?_
  exact RT0
 ·refine zf<|zh<|A ?_
  obtain ⟨o,ho,h⟩:=bs h
  refine lpB ho (fun z=>[(0,.ipt 2 [[.isl 6 (map zc c),.imp (map (rKV (fun x=>iA x)) d)]] 0 0),(1,.isl 1 (map zn a)),(2,.isl 1 (map zn e)),(14,iA (length a:Int)),(15,iA z)]) (fun z=>[]) (fun b=>[]) (fun b=>[]) (pG Tryz.f272 bA) (zcs []) ?_ ?_
  ·rintro q r h
   refine A ?_
   refine zh ?_
   refine zeh h y (fun j h=>?_) fun j h=>?_
   ·refine zf<|zh<|zp<|A ?_
    obtain ⟨l,s,m,v,n,p,h⟩:=bs3 h
    refine rdA [(0,_),(1,_),(2,_),(14,_),(15,_),(28,_)] [] [] [0,1,2,3,4,5,6,7,8,9,10] [(28,_),(27,_),(26,_),(25,_),(24,_),(23,_),(22,_),(21,_),(20,_),(19,_),(18,_)] 0 (zhx (z:=zcs [])) ?_
    refine zeh h y (fun f h=>?_) fun f h=>?_
    ·refine A ?_
     refine zK ?_
     obtain rfl:=sm h
     exact ⟨_,y,_,y,zbG []⟩
    ·refine zf<|A ?_
     obtain rfl:=sm h
     exact ⟨_,y,zH []⟩
   ·refine zG ?_
    obtain rfl:=sm h
    exact ⟨y,_,y,zH []⟩
  ·rintro ⟨⟩ rfl
   refine zv<|A ?_
   exact RT0⟩
def zeX(a:List za)(b:T2)(c:zT)(d:T1)(e:T1):Option (Bool):=
  (zio a b d c.Locals).bind fun f=>(cond f ((zio a b e c.Stack).bind fun i=>some i) (some false)).bind fun j=>some j
theorem ziB(a:List za)(b:T2)(c:zT)(d:T1)(e:T1){r:Bool}(h:zeX a b c d e=some r):zaj Tryz.prog 273 [.ipt 2 [[.isl 6 (map zc a),.imp (map (rKV (fun x=>iA x)) b)]] 0 0,.agg (z7 c),.isl 1 (map zn d),.isl 1 (map zn e)] (bA r):=by
 refine zj Tryz.func273 y kz y y<|A ?_
 obtain ⟨f,i,j,l,h⟩:=bs2 h
 refine A ?_
 exact RT0
instance (a:List za)(b:T2)(c:zT)(d:T1)(e:T1):PF Tryz.prog 273 [.ipt 2 [[.isl 6 (map zc a),.imp (map (rKV (fun x=>iA x)) b)]] 0 0,.agg (z7 c),.isl 1 (map zn d),.isl 1 (map zn e)] (zeX a b c d e) bA:=⟨fun _=>ziB a b c d e⟩
def zdg(b:List za)(c:T2)(j:T0)(l:zb)(d:T1)(e:T1)(a:Bool)(m:Int):Option (Bool):=
  (zdf b c j l d e a m).bind fun n=>zwx n (some (a||(!false))) (fun f=>(zeX b c f d e).bind fun i=>some (a||(!i)))
theorem zhE(c:List za)(d:T2)(f:T0)(i:zb)(e:T1)(a:T1)(j:Bool)(m:Int){r:Bool}(h:zdg c d f i e a j m=some r):SC Tryz.prog 202 [.mpt 0 0 0,iA m,.msl 2 0 (length a)] (tV c d f i e a j []) (.tup []) (tV c d f i e a r []):=by
 refine ⟨⟨t,zg0 (sz:=1) (fun _=>y),zg0 (sz:=1) (fun _=>y),t⟩,zai Tryz.func202 y kz y ?_⟩
 obtain ⟨n,p,h⟩:=bs h
 refine A ?_
 refine u<|sx [0,1,2] (zf2 c d f i e a j m p)<|zEm zyN<|zL (env0:=[(0,.mpt 0 0 0),(2,.msl 2 0 (length a)),(9,zkD 3 z7 n)]) (st0:=(sV c d f i e a j [])) (zH [.old 0,.old 1,.old 2])<|A ?_
 rcases n with _ |o
 ·replace h:=oeN h
  refine zqW [] (sV c d f i e a (j||(!false)) []) [18] [17,16,15,14,13,12,11,10,9,8,7,6,5,4,3,2,1,0] [(27,bA false),(26,.lit undef),(25,.lit undef),(24,.lit undef),(23,.lit undef),(22,.lit undef),(21,.lit undef),(20,.lit undef),(19,.lit undef),(18,.lit undef),(17,.lit undef),(16,.lit undef),(15,.lit undef),(14,.lit undef),(13,bA false),(12,bA false),(11,.lit (.pointer none)),(10,.mpt 0 0 0)] 1 (zB2 ⟨pe,pe,pe,pe,pe,pe,pe,pe,pe,pe,pe,pe,pe,pe,pe,(pb y (nep ti y y y y y y w)),pe,pe,t⟩ ⟨(fun _ _=>⟨_,y,y,sc [0,1,2] (args:=[.mpt 0 0 0,bA false]) (zq c d f i e a j false y) y y y y ⟨(.mpt y),(rnI y),t⟩ ⟨⟨_,y,(zyO y ⟨(.msl y),(.msl y),(rnI y),t⟩)⟩,⟨y,mkI (fun _=>y)⟩,⟨y,mkI (fun _=>y)⟩,t⟩<|⟨(.tup []),[],[(28,.tup [])],y,y,kz,y,zB1 ⟨pe,pe,pe,pe,pe,pe,pe,pe,pe,pe,pe,pe,pe,pe,pe,(pb y (nep ti y y y y y y w)),pe,pe,t⟩ (zH [.old 0,.old 1,.old 2])⟩⟩),t⟩) ?_
  obtain rfl:=sm h
  exact ⟨_,y,zbG [.old 0,.old 1,.old 2]⟩
 ·replace h:=oeS h
  obtain ⟨l,q,h⟩:=bs h
  refine zqW [] (sV c d f i e a (j||(!l)) []) [18] [0,1,2,3,4,5,6,7,8,9,10,11,12,13,14,15,16,17] [(27,_),(26,_),(25,_),(24,_),(23,_),(22,_),(21,_),(20,_),(19,_),(18,_),(17,_),(16,_),(15,_),(14,_),(13,_),(12,_),(11,_),(10,_)] 1 (zgE ⟨peC,peC,peC,peC,peC,peC,peC,peC,peC,peC,peC,peC,peC,peC,peC,peC,(by exact fun _=>pag (b:=true) y y y y y y (pcs (ziB c d o e a q) y y (.cons (si y) (.cons (si y) (.cons (zgN y (fun _=>y)) (.cons (zgN y (fun _=>y)) .nil)))) zbQ<|w)),peC,t⟩ (by exact ⟨(fun _ _=>⟨_,y,y,sc [0,1,2] (args:=[.mpt 0 0 0,bA l]) (zq c d f i e a j l y) y y y y ⟨(.mpt y),(rnI y),t⟩ ⟨⟨_,y,(zyO y ⟨(.msl y),(.msl y),(rnI y),t⟩)⟩,⟨y,mkI (fun _=>y)⟩,⟨y,mkI (fun _=>y)⟩,t⟩<|⟨(.tup []),[],[(28,_)],y,y,y,y,zhx (z:=zcs [.old 0,.old 1,.old 2])⟩⟩),t⟩)) ?_
  obtain rfl:=sm h
  exact ⟨_,y,zbG [.old 0,.old 1,.old 2]⟩
def zkT(a:T1):Option T1:=zgT 16 ([]:T1) a
theorem zjR(a:T1){r:T1}(h:zkT a=some r):SC Tryz.prog 130 [.isl 1 (map zn a)] [] (.msl 0 0 (length r)) [.many 1 (map zn r)]:=by
 refine ⟨⟨zg0 (sz:=1) (fun _=>y),t⟩,zai Tryz.func130 y kz y ?_⟩
 unfold zkT at h
 refine A ?_
 refine zh ?_
 refine rg y<|u<|mv y<|zEj ti y y y<|And.intro ?_ ?_
 · intro hl
   refine zJ ?_
   subst hl
   obtain rfl:[]=r:=by simpa [zgT] using h
   refine zhY y (fun _=>?_) (fun hx=>by cases hx)
   refine A ?_
   refine zK ?_
   exact ⟨_,y,[.fresh 1],.nilown y,y,⟨w,t⟩,y,k⟩
 · refine zJ ?_
   refine zhY y (fun hx=>by cases hx) (fun _=>?_)
   refine zf<|A ?_
   refine u<|apM (l:=([]:T1)) (f:=zn) 1 ti y ti y y (by decide) ti y y y y roI (fun _=>y) y h<|A ?_
   refine zK ?_
   exact ⟨_,y,zbG [.old 1]⟩
def zbj(b:(Option zT))(c:Bool):Option (T1×T1×Bool):=
  zwx b (none) (fun a=>(zkT a.Locals).bind fun d=>(zkT a.Stack).bind fun e=>some (d,e,c))
def zfa(e:List za)(f:T2)(i:T0)(j:zb)(c:T1)(d:T1)(b:Bool)(l:Int)(m:Bool):Option (T1×T1×Bool):=
  (zdf e f i j c d b l).bind fun a=>cond (Option.isNone a) (some (c,d,(b||(!m)))) (cond m ((zdg e f i j c d b l).bind fun n=>zbj a n) (zbj a b))
theorem zkN(a:List za)(b:T2)(c:T0)(d:zb)(e:T1)(f:T1)(j:Bool)(l:Int)(m:Bool){r:T1×T1×Bool}(h:zfa a b c d e f j l m=some r):SC Tryz.prog 198 [.mpt 0 0 0,iA l,bA m] (tV a b c d e f j []) (.tup []) [.one 15 (vK a b c d (.msl 3 0 (length r.1)) (.msl 4 0 (length r.2.1)) (bA r.2.2)),.no,.no,.many 1 (map zn r.1),.many 1 (map zn r.2.1)]:=by
 refine ⟨⟨t,t,t,zg0 (sz:=1) (fun _=>y),zg0 (sz:=1) (fun _=>y),t⟩,zai Tryz.func198 y kz y ?_⟩
 obtain ⟨i,B,h⟩:=bs h
 refine A ?_
 refine u<|sx [0,1,2] (zf2 a b c d e f j l B)<|zEm zyN<|zL (env0:=[(0,.mpt 0 0 0),(1,iA l),(2,bA m),(9,zkD 3 z7 i)]) (st0:=(sV a b c d e f j [])) (zH [.old 0,.old 1,.old 2])<|A ?_
 refine zh ?_
 refine rg y<|u<|mv y<|u<|zEQ ti y y y<|zJ ?_
 refine zeh h y (fun v h=>?_) fun v h=>?_
 ·refine A ?_
  refine u<|sx [0,1,2] (zq a b c d e f j m y)<|zL (env0:=[]) (st0:=(sV a b c d e f (j||(!m)) [])) (zH [.old 0,.old 1,.old 2])<|zJ ?_
  refine zK ?_
  obtain rfl:=sm h
  exact ⟨_,y,zzA [.old 0,.dead,.dead,.old 1,.old 2]⟩
 ·refine zf ?_
  refine zcX (X:=Bool) (fun z=>[(0,.mpt 0 0 0),(6,zkD 3 z7 i)]) (fun z=>(sV a b c d e f z [])) (fun z=>zbj i z=some r) ?_ ?_
  ·refine A ?_
   refine zeh h y (fun x h=>?_) fun x h=>?_
   ·obtain ⟨p,C,h⟩:=bs h
    refine A ?_
    exact u<|sx [0,1,2] (zhE a b c d e f j l C)<|zL (env0:=[(0,.mpt 0 0 0),(6,zkD 3 z7 i)]) (st0:=(sV a b c d e f p [])) (zH [.old 0,.old 1,.old 2])<|zJ (⟨p,h,zH [.old 0,.old 1,.old 2]⟩)
   ·refine zf ?_
    exact ⟨j,h,zH [.old 0,.old 1,.old 2]⟩
  ·rintro q h
   replace h:zbj i q=some r:=h
   unfold zbj at h
   rcases i with _ |s
   ·replace h:=oeN h
    cases h
   ·replace h:=oeS h
    obtain ⟨n,D,o,E,h⟩:=bs2 h
    refine zqW [] [some (15,[(vK a b c d (.msl 3 0 (length n)) (.msl 4 0 (length o)) (bA q))]),some (1,map zn e),some (1,map zn f),some (1,map zn n),some (1,map zn o)] [6,11,14,17] [0,1,2,3,4,5,7,8,9,10] [(33,_),(32,_),(31,_),(30,_),(28,_),(27,_),(26,_),(25,_),(24,_),(23,_)] 4 (zgE (z:=by exact ⟨(fun _ _=>⟨_,y,y,sx [] (zjR s.Locals D)<|⟨(.msl 3 0 (length n)),[],[(29,_)],y,y,y,y,zgE (z:=by exact ⟨nv,(fun _ _=>⟨_,y,y,sx [] (zjR s.Stack E)<|⟨(.msl 4 0 (length o)),[12,13],[(36,_),(35,_),(34,_)],y,y,y,y,zgE (z:=by exact ⟨nv,nv,(fun _ _=>⟨_,y,y,sto ti y y y<|⟨.any,[15,16],[(38,_),(37,_)],y,y,y,t,zgE (z:=by exact ⟨nv,nv,nv,(fun _ _=>⟨_,y,y,sto ti y y y<|⟨.any,[],[],y,y,y,t,zhx (z:=zcs [.old 0,.old 1,.old 2,.old 3,.old 4])⟩⟩),t⟩)⟩⟩),nw,t⟩)⟩⟩),nw,nw,t⟩)⟩⟩),nw,nw,nw,t⟩)) ?_
    obtain rfl:=sm h
    exact ⟨_,y,zbG [.old 0,.dead,.dead,.old 3,.old 4]⟩
def zex(b:List za)(c:T2)(j:T0)(l:zb)(d:T1)(m:T1)(a:Bool)(n:Int)(o:T1):Option (Bool):=
  (zdf b c j l d m a n).bind fun e=>zwx e (some (a||(!false))) (fun f=>(zeX b c f d o).bind fun i=>some (a||(!i)))
theorem zjK(a:List za)(c:T2)(e:T0)(f:zb)(d:T1)(i:T1)(l:Bool)(o:Int)(j:T1){r:Bool}(h:zex a c e f d i l o j=some r):SC Tryz.prog 202 [.mpt 0 0 0,iA o,.msl 3 0 (length j)] (tV a c e f d i l [.many 1 (map zn j)]) (.tup []) (tV a c e f d i r [.many 1 (map zn j)]):=by
 refine ⟨⟨t,zg0 (sz:=1) (fun _=>y),zg0 (sz:=1) (fun _=>y),zg0 (sz:=1) (fun _=>y),t⟩,zai Tryz.func202 y kz y ?_⟩
 obtain ⟨n,q,h⟩:=bs h
 refine A ?_
 refine u<|sx [0,1,2] (zf2 a c e f d i l o q)<|zEm zyN<|zL (env0:=[(0,.mpt 0 0 0),(2,.msl 3 0 (length j)),(9,zkD 3 z7 n)]) (st0:=(sV a c e f d i l [some (1,map zn j)])) (zH [.old 0,.old 1,.old 2,.old 3])<|A ?_
 rcases n with _ |p
 ·replace h:=oeN h
  refine zqW [] (sV a c e f d i (l||(!false)) [some (1,map zn j)]) [18] [17,16,15,14,13,12,11,10,9,8,7,6,5,4,3,2,1,0] [(27,bA false),(26,.lit undef),(25,.lit undef),(24,.lit undef),(23,.lit undef),(22,.lit undef),(21,.lit undef),(20,.lit undef),(19,.lit undef),(18,.lit undef),(17,.lit undef),(16,.lit undef),(15,.lit undef),(14,.lit undef),(13,bA false),(12,bA false),(11,.lit (.pointer none)),(10,.mpt 0 0 0)] 1 (zB2 ⟨pe,pe,pe,pe,pe,pe,pe,pe,pe,pe,pe,pe,pe,pe,pe,(pb y (nep ti y y y y y y w)),pe,pe,t⟩ ⟨(fun _ _=>⟨_,y,y,sc [0,1,2] (args:=[.mpt 0 0 0,bA false]) (zq a c e f d i l false y) y y y y ⟨(.mpt y),(rnI y),t⟩ ⟨⟨_,y,(zyO y ⟨(.msl y),(.msl y),(rnI y),t⟩)⟩,⟨y,mkI (fun _=>y)⟩,⟨y,mkI (fun _=>y)⟩,t⟩<|⟨(.tup []),[],[(28,.tup [])],y,y,kz,y,zB1 ⟨pe,pe,pe,pe,pe,pe,pe,pe,pe,pe,pe,pe,pe,pe,pe,(pb y (nep ti y y y y y y w)),pe,pe,t⟩ (zH [.old 0,.old 1,.old 2,.old 3])⟩⟩),t⟩) ?_
  obtain rfl:=sm h
  exact ⟨_,y,zbG [.old 0,.old 1,.old 2,.old 3]⟩
 ·replace h:=oeS h
  obtain ⟨m,s,h⟩:=bs h
  refine zqW [] (sV a c e f d i (l||(!m)) [some (1,map zn j)]) [18] [0,1,2,3,4,5,6,7,8,9,10,11,12,13,14,15,16,17] [(27,_),(26,_),(25,_),(24,_),(23,_),(22,_),(21,_),(20,_),(19,_),(18,_),(17,_),(16,_),(15,_),(14,_),(13,_),(12,_),(11,_),(10,_)] 1 (zgE ⟨peC,peC,peC,peC,peC,peC,peC,peC,peC,peC,peC,peC,peC,peC,peC,peC,(by exact fun _=>pag (b:=true) y y y y y y (pcs (ziB a c p d j s) y y (.cons (si y) (.cons (si y) (.cons (zgN y (fun _=>y)) (.cons (zgN y (fun _=>y)) .nil)))) zbQ<|w)),peC,t⟩ (by exact ⟨(fun _ _=>⟨_,y,y,sc [0,1,2] (args:=[.mpt 0 0 0,bA m]) (zq a c e f d i l m y) y y y y ⟨(.mpt y),(rnI y),t⟩ ⟨⟨_,y,(zyO y ⟨(.msl y),(.msl y),(rnI y),t⟩)⟩,⟨y,mkI (fun _=>y)⟩,⟨y,mkI (fun _=>y)⟩,t⟩<|⟨(.tup []),[],[(28,_)],y,y,y,y,zhx (z:=zcs [.old 0,.old 1,.old 2,.old 3])⟩⟩),t⟩)) ?_
  obtain rfl:=sm h
  exact ⟨_,y,zbG [.old 0,.old 1,.old 2,.old 3]⟩
def zkP(a:Bool):Option (Bool):=
  some a
def zdY(a:Int)(b:Bool):Option (Sum (Bool×Int) (Sum (Bool) (Bool))):=
  some (.inl (b,(IntKind.i64.wrap (a+1))))
def zcO(f:List za)(i:T2)(m:T0)(n:zb)(o:T1)(p:T1)(j:Int)(b:Bool)(c:Int)(a:zN)(d:T0):Option (Sum (Bool×Int) (Sum (Bool) (Bool))):=
  (zcb f i d [84,104,114,111,119,110]).bind fun e=>cond ((decide (a.From≤j))&&(decide (j<a.To))) ((zex f i m n o p (b||(!e)) a.At [d]).bind fun l=>zdY c l) (zdY c (b||(!e)))
def zbU(e:List za)(f:T2)(i:T0)(d:zb)(j:T1)(l:T1)(m:Int)(c:Bool)(a:Int):Option (Sum (Bool×Int) (Sum (Bool) (Bool))):=
  cond (decide (a<(length d.Traps:Int))) ((idx d.Traps a).bind fun b=>cond (b.C == []) (zcO e f i d j l m c a b [84,104,114,111,119,110]) (zcO e f i d j l m c a b b.C)) (some (.inr (.inl c)))
def zdS(a:List za)(c:T2)(d:T0)(e:zb)(f:T1)(i:T1)(j:Bool)(l:Int):Option (Bool):=
  (zm (fun z=>zbU a c d e f i l z.1 z.2) (j,0)).bind fun o=>zI o (fun b=>zkP b) some
theorem zkQ(c:List za)(d:T2)(e:T0)(a:zb)(f:T1)(i:T1)(B:Bool)(m:Int){r:Bool}(h:zdS c d e a f i B m=some r):SC Tryz.prog 199 [.mpt 0 0 0,iA m] (tV c d e a f i B []) (.tup []) (tV c d e a f i r []):=by
 refine ⟨⟨t,zg0 (sz:=1) (fun _=>y),zg0 (sz:=1) (fun _=>y),t⟩,zai Tryz.func199 y kz y ?_⟩
 refine A ?_
 obtain ⟨o,ho,h⟩:=bs h
 refine lpB ho (fun z=>[(0,.mpt 0 0 0),(1,iA m),(11,.isl 4 (map zaa a.Traps)),(12,iA (length a.Traps:Int)),(13,iA z.2)]) (fun z=>(sV c d e a f i z.1 [])) (fun b=>[]) (fun b=>(sV c d e a f i b [])) (fun r env st=>zq9 Tryz.prog Tryz.f199 3 (.tup []) (sV c d e a f i r []) env st) (zcs [.old 0,.old 1,.old 2]) ?_ ?_
 ·rintro ⟨j,l⟩ r h
  refine A ?_
  refine zh ?_
  refine zeh h y (fun D h=>?_) fun D h=>?_
  ·refine zf ?_
   refine zcX (X:=Bool) (fun z=>[(0,.mpt 0 0 0),(1,iA m),(11,.isl 4 (map zaa a.Traps)),(12,iA (length a.Traps:Int)),(13,iA l)]) (fun z=>(sV c d e a f i z [])) (fun z=>zdY l z=some r) ?_ ?_
   ·refine zp ?_
    obtain ⟨n,I,h⟩:=bs h
    refine A ?_
    refine A ?_
    refine zcX (X:=T0) (fun z=>[(0,.mpt 0 0 0),(1,iA m),(5,.mpt 3 0 0),(6,sA z),(11,.isl 4 (map zaa a.Traps)),(12,iA (length a.Traps:Int)),(13,iA l)]) (fun z=>(sV c d e a f i j [some (4,[(zaa n)])])) (fun z=>zcO c d e a f i m j l n z=some r) ?_ ?_
    ·refine A ?_
     refine zeh h y (fun v h=>?_) fun v h=>?_
     ·refine A ?_
      exact (⟨[84,104,114,111,119,110],h,zH [.old 0,.old 1,.old 2,.old 3]⟩)
     ·refine zf ?_
      exact ⟨n.C,h,zH [.old 0,.old 1,.old 2,.old 3]⟩
    ·rintro q h
     obtain ⟨p,E,h⟩:=bs h
     refine rg y<|u<|mv y<|u<|mv y<|u<|nc y y<|u<|fa ti y y y<|u<|ld ti y y<|u<|mv y<|u<|pc (zc3 c d q [84,104,114,111,119,110] E) y y y<|u<|sx [0,1,2] (zq c d e a f i j p y)<|zL (env0:=[(0,.mpt 0 0 0),(1,iA m),(5,.mpt 3 0 0),(6,sA q),(11,.isl 4 (map zaa a.Traps)),(12,iA (length a.Traps:Int)),(13,iA l)]) (st0:=(sV c d e a f i (j||(!p)) [some (4,[(zaa n)])])) (zH [.old 0,.old 1,.old 2,.old 3])<|zJ ?_
     refine A ?_
     refine zeh h y (fun x h=>?_) fun x h=>?_
     ·obtain ⟨s,F,h⟩:=bs h
      refine A ?_
      exact u<|sx [0,1,2,4] (zjK c d e a f i (j||(!p)) n.At [q] F)<|zL (env0:=[(0,.mpt 0 0 0),(1,iA m),(11,.isl 4 (map zaa a.Traps)),(12,iA (length a.Traps:Int)),(13,iA l)]) (st0:=(sV c d e a f i s [])) (zH [.old 0,.old 1,.old 2])<|zJ (⟨s,h,zH [.old 0,.old 1,.old 2]⟩)
     ·refine zf ?_
      exact ⟨(j||(!p)),h,zH [.old 0,.old 1,.old 2]⟩
   ·rintro G h
    refine A ?_
    obtain rfl:=sm h
    exact ⟨_,y,zH [.old 0,.old 1,.old 2]⟩
  ·refine zG ?_
   obtain rfl:=sm h
   exact ⟨y,_,y,zH [.old 0,.old 1,.old 2]⟩
 ·rintro H rfl
  refine zv ?_
  obtain rfl:=sm h
  exact ⟨_,y,zbG [.old 0,.old 1,.old 2]⟩
def zau(a:Int)(b:Int)(c:Int):Bool:=
  ((decide (b≤a))&&(decide (a≤c)))
instance (a:Int)(b:Int)(c:Int):PF Tryz.prog 278 [iA a,iA b,iA c] (some (zau a b c)) bA:=.of fun r h=>by
 refine zj Tryz.func278 y kz y y ?_
 unfold zau at h
 refine A ?_
 refine A ?_
 refine zK ?_
 obtain rfl:=h
 exact ⟨_,y,zbG []⟩
def zw(d:List za)(e:T2)(f:T0)(i:zb)(j:T1)(a:T1)(l:Bool)(b:T0):Option (T1):=
  (zgT 16 a [b]).bind fun c=>some c
theorem zu(a:List za)(b:T2)(c:T0)(d:zb)(e:T1)(l:T1)(i:Bool)(j:T0){r:T1}(h:zw a b c d e l i j=some r):SC Tryz.prog 281 [.mpt 0 0 0,sA j] (tV a b c d e l i []) (.tup []) (tU a b c d e r i []):=by
 refine ⟨⟨t,zg0 (sz:=1) (fun _=>y),t,zg0 (sz:=1) (fun _=>y),t⟩,zai Tryz.func281 y kz y ?_⟩
 obtain ⟨n,m,h⟩:=bs h
 refine A ?_
 refine u<|apM 4 ti y ti y y (by decide) ti y y y y (roX (f:=zn) (z:=[j]) y y) (fun _=>y) y m<|A ?_
 obtain rfl:=sm h
 exact ⟨_,y,zbG [.old 0,.old 1,.dead,.old 4]⟩
def zaf(e:List za)(f:T2)(i:T0)(j:zb)(l:T1)(a:T1)(b:Bool):Option (T0×T1×Bool):=
  cond (((length a):Int) == (0:Int)) (some ([84],a,true)) ((idx a (IntKind.i64.wrap (((length a):Int)-1))).bind fun c=>(zjs a 0 (IntKind.i64.wrap (((length a):Int)-1))).bind fun d=>some (c,d,b))
theorem zaw(e:List za)(i:T2)(j:T0)(m:zb)(d:T1)(a:T1)(n:Bool){r:T0×T1×Bool}(h:zaf e i j m d a n=some r):SC Tryz.prog 341 [.mpt 0 0 0] (tV e i j m d a n []) (sA r.1) (tV e i j m d r.2.1 r.2.2 []):=by
 refine ⟨⟨t,zg0 (sz:=1) (fun _=>y),zg0 (sz:=1) (fun _=>y),t⟩,zai Tryz.func341 y kz y ?_⟩
 refine A ?_
 refine zh<|A ?_
 refine zeh h y (fun p h=>?_) fun p h=>?_
 ·refine A ?_
  refine A ?_
  exact RT3
 ·refine zf ?_
  obtain ⟨s,v,h⟩:=bs h
  refine rdA [(0,_),(3,_)] (sV e i j m d a n []) [] [0,1,2,3,4,5,6,7,8,9,10,11,12] [(3,_),(24,_),(23,_),(22,_),(21,_),(20,_),(19,_),(18,_),(17,_),(16,_),(15,_),(14,_),(13,_)] 0 (zhx (z:=zcs [.old 0,.old 1,.old 2])) ?_
  obtain ⟨q,o,h⟩:=bs h
  refine rdA [(3,_)] [some (15,[(vK e i j m (.msl 1 0 (length d)) (.msl 2 0 (length q)) (bA n))]),some (1,map zn d),some (1,map zn a)] [14] [0,1,2,3,4,5,6,7,8,9,10,11,12,13] [(38,_),(37,_),(36,_),(35,_),(34,_),(33,_),(32,_),(31,_),(30,_),(29,_),(28,_),(27,_),(26,_),(25,_)] 1 (zgE ⟨peC,peC,peC,peC,peC,peC,peC,peC,peC,peC,peC,(by exact pb y (slM (l:=a) (c:=(IntKind.i64.wrap (((length a):Int)-1))) ti y ti y y y (zox y o) o<|w)),peC,peC,t⟩ (by exact ⟨(fun _ _=>⟨_,y,y,sto ti y y y<|⟨.any,[],[],y,y,y,t,zhx (z:=zcs [.old 0,.old 1,.old 2])⟩⟩),t⟩)) ?_
  refine zEs (b:=2) (l:=a) (f:=zn) (c:=(IntKind.i64.wrap (((length a):Int)-1))) y y o ?_
  refine A ?_
  exact RT3
def zbA(i:List za)(j:T2)(l:T0)(m:zb)(a:T1)(b:T1)(c:Bool)(n:zl)(d:Bool):Option (T1×T1×Bool):=
  cond d (some (a,b,true)) ((idx a n.A).bind fun e=>(zw i j l m a b c e).bind fun f=>some (a,f,c))
def zaP(c:List za)(d:T2)(e:T0)(f:zb)(a:T1)(l:T1)(i:Bool)(b:zl):Option (T1×T1×Bool):=
  cond (b.Op == (1:Int)) ((zw c d e f a l i [73]).bind fun E=>some (a,E,i)) (cond (b.Op == (2:Int)) ((zw c d e f a l i [78]).bind fun s=>some (a,s,i)) (cond (b.Op == (3:Int)) (cond (decide (((length a):Int)≤b.A)) (zbA c d e f a l i b true) ((idx a b.A).bind fun v=>zbA c d e f a l i b (v == [84]))) (cond (b.Op == (4:Int)) ((zaf c d e f a l i).bind fun n=>cond (decide (((length a):Int)≤b.A)) (some (a,n.2.1,true)) ((zkT a).bind fun p=>(idx p b.A).bind fun F=>some ((List.set p (Int.toNat b.A) n.1),n.2.1,n.2.2))) (cond (b.Op == (5:Int)) ((zaf c d e f a l i).bind fun q=>some (a,q.2.1,q.2.2)) (cond (b.Op == (6:Int)) ((zaf c d e f a l i).bind fun j=>(zw c d e f a j.2.1 j.2.2 j.1).bind fun x=>(zw c d e f a x j.2.2 j.1).bind fun B=>some (a,B,j.2.2)) (cond (b.Op == (7:Int)) ((zaf c d e f a l i).bind fun o=>(zaf c d e f a o.2.1 o.2.2).bind fun m=>(zw c d e f a m.2.1 m.2.2 o.1).bind fun C=>(zw c d e f a C m.2.2 m.1).bind fun D=>some (a,D,m.2.2)) (some (a,l,i))))))))
theorem zle(b:List za)(c:T2)(d:T0)(e:zb)(a:T1)(m:T1)(l:Bool)(n:zl){r:T1×T1×Bool}(h:zaP b c d e a m l n=some r):SC Tryz.prog 279 [.mpt 0 0 0,.agg (zA n)] (tV b c d e a m l []) (.tup []) [.one 15 (vK b c d e (.msl 3 0 (length r.1)) (.msl 4 0 (length r.2.1)) (bA r.2.2)),.no,.no,.many 1 (map zn r.1),.many 1 (map zn r.2.1)]:=by
 refine ⟨⟨t,t,t,zg0 (sz:=1) (fun _=>y),zg0 (sz:=1) (fun _=>y),t⟩,zai Tryz.func279 y kz y ?_⟩
 refine A ?_
 refine A ?_
 refine zp<|A ?_
 refine zeh h y (fun G h=>?_) fun G h=>?_
 ·obtain ⟨v9,q2,h⟩:=bs h
  refine rl y<|u<|mv y<|u<|sx [0,1,2] (zu b c d e a m l [73] q2)<|zL (env0:=[]) (st0:=(sU b c d e a v9 l [])) (zH [.old 0,.old 1,.dead,.old 4])<|zJ ?_
  obtain rfl:=sm h
  exact ⟨_,y,zbG [.old 0,.dead,.dead,.old 1,.old 3]⟩
 ·refine A ?_
  refine zeh h y (fun H h=>?_) fun H h=>?_
  ·obtain ⟨I,q4,h⟩:=bs h
   refine rl y<|u<|mv y<|u<|sx [0,1,2] (zu b c d e a m l [78] q4)<|zL (env0:=[]) (st0:=(sU b c d e a I l [])) (zH [.old 0,.old 1,.dead,.old 4])<|zJ ?_
   obtain rfl:=sm h
   exact ⟨_,y,zbG [.old 0,.dead,.dead,.old 1,.old 3]⟩
  ·refine A ?_
   refine zeh h y (fun J h=>?_) fun J h=>?_
   ·refine zh ?_
    refine zcX (X:=Bool) (fun z=>[(0,.mpt 0 0 0),(3,.mpt 3 0 0),(38,bA z)]) (fun z=>(sV b c d e a m l [some (4,[(zA n)])])) (fun z=>zbA b c d e a m l n z=some r) ?_ ?_
    ·rcases bb (decide (((length a):Int)≤n.A)) with q |q
     ·replace h:=bT q h
      exact rdQ [] [0,1,2,3,4,5,6,7,8,9,10,11,12,13,14,15,16,17,18] [(38,_),(37,_),(36,_),(35,_),(34,_),(33,_),(32,_),(31,_),(30,_),(29,_),(28,_),(27,_),(26,_),(25,_),(24,_),(23,_),(22,_),(21,_),(20,_)] 0 (zhx (z:=by exact ⟨true,h,zcs [.old 0,.old 1,.old 2,.old 3]⟩))
     ·replace h:=bF q h
      obtain ⟨K,q7,h⟩:=bs h
      exact rdQ [] [0,1,2,3,4,5,6,7,8,9,10,11,12,13,14,15,16,17,18] [(38,_),(37,_),(36,_),(35,_),(34,_),(33,_),(32,_),(31,_),(30,_),(29,_),(28,_),(27,_),(26,_),(25,_),(24,_),(23,_),(22,_),(21,_),(20,_)] 0 (zhx (z:=by exact ⟨(K == [84]),h,zcs [.old 0,.old 1,.old 2,.old 3]⟩))
    ·rintro v12 h
     refine zeh h y (fun L h=>?_) fun L h=>?_
     ·refine A ?_
      refine zK ?_
      obtain rfl:=sm h
      exact ⟨_,y,zzA [.old 0,.dead,.dead,.old 1,.old 2]⟩
     ·refine zf ?_
      obtain ⟨M,q9,N,O,h⟩:=bs2 h
      refine zqW [] (sU b c d e a N l []) [9] [0,1,2,3,4,5,6,7,8] [(50,_),(49,_),(48,_),(47,_),(46,_),(45,_),(44,_),(43,_),(42,_)] 1 (zgE (z:=by exact ⟨(fun _ _=>⟨_,y,y,sx [0,1,2] (zu b c d e a m l M O)<|⟨(.tup []),[],[(51,_)],y,y,y,y,zhx (z:=zcs [.old 0,.old 1,.dead,.old 4])⟩⟩),t⟩)) ?_
      obtain rfl:=sm h
      exact ⟨_,y,zbG [.old 0,.dead,.dead,.old 1,.old 3]⟩
   ·refine A ?_
    refine zeh h y (fun B h=>?_) fun B h=>?_
    ·obtain ⟨f,P,h⟩:=bs h
     refine rg y<|u<|mv y<|u<|sx [0,1,2] (zaw b c d e a m l P)<|zL (env0:=[(0,.mpt 0 0 0),(3,.mpt 3 0 0),(55,sA f.1)]) (st0:=(sV b c d e a f.2.1 f.2.2 [some (4,[(zA n)])])) (zH [.old 0,.old 1,.old 2,.old 3])<|A ?_
     refine zh ?_
     refine rdA [(0,_),(3,_),(4,_),(63,_)] (sV b c d e a f.2.1 f.2.2 [some (4,[(zA n)])]) [] [0,1,2,3,4,5,6,7] [(63,_),(62,_),(61,_),(60,_),(59,_),(58,_),(57,_),(56,_)] 0 (zhx (z:=zcs [.old 0,.old 1,.old 2,.old 3])) ?_
     refine zeh h y (fun C h=>?_) fun C h=>?_
     ·refine A ?_
      refine zK ?_
      obtain rfl:=sm h
      exact ⟨_,y,zzA [.old 0,.dead,.dead,.old 1,.old 2]⟩
     ·refine zf ?_
      obtain ⟨p,Q,h⟩:=bs h
      refine A ?_
      refine zL (env0:=[(0,.mpt 0 0 0),(3,.mpt 3 0 0),(4,sA f.1),(67,.mpt 0 0 0),(71,.isl 1 (map zn a))]) (st0:=[some (15,[(vK b c d e (.isl 1 (map zn a)) (.msl 2 0 (length f.2.1)) (bA f.2.2))]),none,some (1,map zn f.2.1),some (4,[(zA n)])]) (zH [.old 0,.dead,.old 2,.old 3])<|u<|sx [] (zjR a Q)<|zL (env0:=[(0,.mpt 0 0 0),(3,.mpt 3 0 0),(4,sA f.1),(67,.mpt 0 0 0),(72,.msl 4 0 (length p))]) (st0:=[some (15,[(vK b c d e (.isl 1 (map zn a)) (.msl 2 0 (length f.2.1)) (bA f.2.2))]),none,some (1,map zn f.2.1),some (4,[(zA n)]),some (1,map zn p)]) (zH [.old 0,.dead,.old 2,.old 3,.old 4])<|A ?_
      obtain ⟨v17,R,h⟩:=bs h
      refine zqW [] [some (15,[(vK b c d e (.msl 3 0 (length (List.set p (Int.toNat n.A) f.1))) (.msl 2 0 (length f.2.1)) (bA f.2.2))]),none,some (1,map zn f.2.1),some (1,map zn (List.set p (Int.toNat n.A) f.1))] [8] [0,1,2,3,4,5,6,7] [(82,_),(81,_),(80,_),(79,_),(78,_),(77,_),(76,_),(75,_)] 1 (zgE (z:=by exact ⟨(fun _ _=>⟨_,y,y,zEp (c':=f.1) ti y y (zbI R).2.2 y y y y y<|⟨.any,[],[],y,y,y,t,zhx (z:=by exact ⟨[.old 0,.dead,.old 2,.old 4],cn,y,⟨⟨_,y,zbV (zzz y (by exact ⟨zDQ (by simp) y,.msl y,ci y,t⟩))⟩,⟨_,y,zP (fun _=>y)⟩,⟨_,y,zP (fun _=>y)⟩,t⟩,y,k⟩)⟩⟩),t⟩)) ?_
      obtain rfl:=sm h
      exact ⟨_,y,zbG [.old 0,.dead,.dead,.old 3,.old 2]⟩
    ·refine A ?_
     refine zeh h y (fun D h=>?_) fun D h=>?_
     ·obtain ⟨s,S,h⟩:=bs h
      refine rl y<|u<|mv y<|u<|sx [0,1,2] (zaw b c d e a m l S)<|zL (env0:=[]) (st0:=(sV b c d e a s.2.1 s.2.2 [])) (zH [.old 0,.old 1,.old 2])<|zJ ?_
      obtain rfl:=sm h
      exact ⟨_,y,zbG [.old 0,.dead,.dead,.old 1,.old 2]⟩
     ·refine A ?_
      refine zeh h y (fun E h=>?_) fun E h=>?_
      ·obtain ⟨i,T,h⟩:=bs h
       refine rg y<|u<|mv y<|u<|sx [0,1,2] (zaw b c d e a m l T)<|zL (env0:=[(0,.mpt 0 0 0),(90,sA i.1)]) (st0:=(sV b c d e a i.2.1 i.2.2 [])) (zH [.old 0,.old 1,.old 2])<|A ?_
       obtain ⟨v,U,h⟩:=bs h
       refine rg y<|u<|mv y<|u<|mv y<|u<|sx [0,1,2] (zu b c d e a i.2.1 i.2.2 i.1 U)<|zL (env0:=[(0,.mpt 0 0 0),(5,sA i.1)]) (st0:=(sU b c d e a v i.2.2 [])) (zH [.old 0,.old 1,.dead,.old 3])<|zJ ?_
       obtain ⟨V,W,h⟩:=bs h
       refine rl y<|u<|mv y<|u<|mv y<|u<|sx [0,1,3] (zu b c d e a v i.2.2 i.1 W)<|zL (env0:=[]) (st0:=(sU b c d e a V i.2.2 [])) (zH [.old 0,.old 1,.dead,.old 4])<|zJ ?_
       obtain rfl:=sm h
       exact ⟨_,y,zbG [.old 0,.dead,.dead,.old 1,.old 3]⟩
      ·refine A ?_
       refine zeh h y (fun F h=>?_) fun F h=>?_
       ·obtain ⟨o,Y,j,Z,h⟩:=bs2 h
        refine rg y<|u<|mv y<|u<|sx [0,1,2] (zaw b c d e a m l Y)<|zL (env0:=[(0,.mpt 0 0 0),(100,sA o.1)]) (st0:=(sV b c d e a o.2.1 o.2.2 [])) (zH [.old 0,.old 1,.old 2])<|u<|mv y<|u<|sx [0,1,2] (zaw b c d e a o.2.1 o.2.2 Z)<|zL (env0:=[(0,.mpt 0 0 0),(100,sA o.1),(102,sA j.1)]) (st0:=(sV b c d e a j.2.1 j.2.2 [])) (zH [.old 0,.old 1,.old 2])<|A ?_
        obtain ⟨x,q25,h⟩:=bs h
        refine rg y<|u<|mv y<|u<|mv y<|u<|sx [0,1,2] (zu b c d e a j.2.1 j.2.2 o.1 q25)<|zL (env0:=[(0,.mpt 0 0 0),(7,sA j.1)]) (st0:=(sU b c d e a x j.2.2 [])) (zH [.old 0,.old 1,.dead,.old 3])<|zJ ?_
        obtain ⟨v25,q26,h⟩:=bs h
        refine rl y<|u<|mv y<|u<|mv y<|u<|sx [0,1,3] (zu b c d e a x j.2.2 j.1 q26)<|zL (env0:=[]) (st0:=(sU b c d e a v25 j.2.2 [])) (zH [.old 0,.old 1,.dead,.old 4])<|zJ ?_
        obtain rfl:=sm h
        exact ⟨_,y,zbG [.old 0,.dead,.dead,.old 1,.old 3]⟩
       ·refine zf ?_
        obtain rfl:=sm h
        exact ⟨_,y,zbG [.old 0,.dead,.dead,.old 1,.old 2]⟩
def zlg(a:T1)(b:Bool):Option (T1×Bool):=
  some (a,b)
def zaH(e:List za)(f:T2)(l:T0)(m:zb)(n:T1)(o:T1)(c:T1)(d:Bool)(a:Int):Option (Sum (T1×Bool×Int) (Sum (T1×Bool) (T1×Bool))):=
  cond (decide (0≤a)) ((idx o a).bind fun i=>(zaf e f l m n c d).bind fun b=>(zeW e f b.1 i).bind fun j=>some (.inl (b.2.1,(b.2.2||(!j)),(IntKind.i64.wrap (a-1))))) (some (.inr (.inl (c,d))))
def zB(c:List za)(d:T2)(e:T0)(f:zb)(i:T1)(j:T1)(l:Bool)(a:T1):Option (T1×Bool):=
  (zm (fun z=>zaH c d e f i a z.1 z.2.1 z.2.2) (j,l,(IntKind.i64.wrap ((length a:Int)-1)))).bind fun o=>zI o (fun b=>zlg b.1 b.2) some
theorem zy(a:List za)(c:T2)(d:T0)(e:zb)(f:T1)(m:T1)(n:Bool)(l:T1){r:T1×Bool}(h:zB a c d e f m n l=some r):SC Tryz.prog 280 [.mpt 0 0 0,.isl 1 (map zn l)] (tV a c d e f m n []) (.tup []) (tV a c d e f r.1 r.2 []):=by
 refine ⟨⟨t,zg0 (sz:=1) (fun _=>y),zg0 (sz:=1) (fun _=>y),t⟩,zai Tryz.func280 y kz y ?_⟩
 refine A ?_
 obtain ⟨o,ho,h⟩:=bs h
 refine lpB ho (fun z=>[(0,.mpt 0 0 0),(1,.isl 1 (map zn l)),(4,iA z.2.2)]) (fun z=>(sV a c d e f z.1 z.2.1 [])) (fun b=>[]) (fun b=>(sV a c d e f b.1 b.2 [])) (fun r env st=>zq9 Tryz.prog Tryz.f280 3 (.tup []) (sV a c d e f r.1 r.2 []) env st) (zcs [.old 0,.old 1,.old 2]) ?_ ?_
 ·rintro ⟨p,q,x⟩ r h
  refine zh<|A ?_
  refine zeh h y (fun s h=>?_) fun s h=>?_
  ·refine zf<|zh<|zp ?_
   obtain ⟨B,E,i,v,j,F,h⟩:=bs3 h
   refine zqW [(0,_),(1,_),(4,_)] (sV a c d e f i.2.1 (i.2.2||(!j)) []) [6,12] [0,1,2,3,4,5,7,8,9,10] [(22,_),(21,_),(20,_),(19,_),(17,_),(16,_),(15,_),(14,_),(13,_),(12,_)] 2 (zgE (z:=by exact ⟨(fun _ _=>⟨_,y,y,sx [0,1,2] (zaw a c d e f p q v)<|⟨(sA i.1),[11],[(23,_),(18,_)],y,y,y,y,zgE (z:=by exact ⟨nv,(fun _ _=>⟨_,y,y,sx [0,1,2] (zq a c d e f i.2.1 i.2.2 j y)<|⟨(.tup []),[],[(24,_)],y,y,y,y,zhx (z:=zcs [.old 0,.old 1,.old 2])⟩⟩),t⟩)⟩⟩),nw,t⟩)) ?_
   refine A ?_
   obtain rfl:=sm h
   exact ⟨_,y,zH [.old 0,.old 1,.old 2]⟩
  ·refine zG ?_
   obtain rfl:=sm h
   exact ⟨y,_,y,zH [.old 0,.old 1,.old 2]⟩
 ·rintro ⟨C,D⟩ rfl
  refine zv ?_
  obtain rfl:=sm h
  exact ⟨_,y,zbG [.old 0,.old 1,.old 2]⟩
def zb1(c:List za)(d:T2)(e:T0)(f:zb)(i:T1)(j:T1)(l:Bool):Option (T0×T1×Bool):=
  (zaf c d e f i j l).bind fun a=>(cond (a.1 == [78]) (some true) ((zku a.1).bind fun m=>some m)).bind fun b=>some (a.1,a.2.1,(a.2.2||(!b)))
theorem zdA(b:List za)(c:T2)(d:T0)(e:zb)(f:T1)(j:T1)(l:Bool){r:T0×T1×Bool}(h:zb1 b c d e f j l=some r):SC Tryz.prog 282 [.mpt 0 0 0] (tV b c d e f j l []) (sA r.1) (tV b c d e f r.2.1 r.2.2 []):=by
 refine ⟨⟨t,zg0 (sz:=1) (fun _=>y),zg0 (sz:=1) (fun _=>y),t⟩,zai Tryz.func282 y kz y ?_⟩
 refine A ?_
 obtain ⟨a,m,h⟩:=bs h
 refine rg y<|u<|mv y<|u<|sx [0,1,2] (zaw b c d e f j l m)<|zL (env0:=[(0,.mpt 0 0 0),(5,sA a.1)]) (st0:=(sV b c d e f a.2.1 a.2.2 [])) (zH [.old 0,.old 1,.old 2])<|A ?_
 obtain ⟨i,n,h⟩:=bs h
 refine A ?_
 refine u<|sx [0,1,2] (zq b c d e f a.2.1 a.2.2 i y)<|zL (env0:=[(3,sA a.1)]) (st0:=(sV b c d e f a.2.1 (a.2.2||(!i)) [])) (zH [.old 0,.old 1,.old 2])<|zJ ?_
 refine A ?_
 exact RT3
def zdR(c:List za)(d:T2)(f:T0)(i:zb)(j:T1)(l:T1)(e:Bool)(b:zl):Option (T1×Bool):=
  cond (b.Op == (37:Int)) ((zz c d b.C).bind fun n=>(zw c d f i j l (e||(!(n.2&&(!n.1.Interface)))) b.C).bind fun q=>some (q,(e||(!(n.2&&(!n.1.Interface)))))) ((zgB c d b.C b.M).bind fun a=>cond (b.Op == (38:Int)) ((zB c d f i j l (e||(!(a.2.2&&(a.2.1.Static == ((b.Op == (40:Int))||(b.Op == (41:Int))))))) [b.C]).bind fun m=>(zw c d f i j m.1 m.2 a.2.1.Type_).bind fun s=>some (s,m.2)) (cond (b.Op == (39:Int)) ((zB c d f i j l (e||(!(a.2.2&&(a.2.1.Static == ((b.Op == (40:Int))||(b.Op == (41:Int))))))) [b.C,a.2.1.Type_]).bind fun o=>some (o.1,o.2)) (cond (b.Op == (40:Int)) ((zw c d f i j l (e||(!(a.2.2&&(a.2.1.Static == ((b.Op == (40:Int))||(b.Op == (41:Int))))))) a.2.1.Type_).bind fun v=>some (v,(e||(!(a.2.2&&(a.2.1.Static == ((b.Op == (40:Int))||(b.Op == (41:Int))))))))) ((zB c d f i j l (e||(!(a.2.2&&(a.2.1.Static == ((b.Op == (40:Int))||(b.Op == (41:Int))))))) [a.2.1.Type_]).bind fun p=>some (p.1,p.2)))))
theorem zkO(c:List za)(d:T2)(e:T0)(f:zb)(i:T1)(l:T1)(j:Bool)(b:zl){r:T1×Bool}(h:zdR c d e f i l j b=some r):SC Tryz.prog 283 [.mpt 0 0 0,.agg (zA b)] (tV c d e f i l j []) (.tup []) (tU c d e f i r.1 r.2 []):=by
 refine ⟨⟨t,zg0 (sz:=1) (fun _=>y),t,zg0 (sz:=1) (fun _=>y),t⟩,zai Tryz.func283 y kz y ?_⟩
 refine A ?_
 refine zh<|A ?_
 refine zeh h y (fun v h=>?_) fun v h=>?_
 ·obtain ⟨m,L,h⟩:=bs h
  refine rdA [(0,_),(3,_),(4,_),(5,_)] (sV c d e f i l j [some (4,[(zA b)]),some (6,[(zc m.1)])]) [10,11] [0,1,2,3,4,5,6,7,8,9] [(21,_),(20,_),(12,_),(19,_),(18,_),(17,_),(16,_),(15,_),(14,_),(13,_)] 2 (zgE (z:=by exact ⟨(fun _ _=>⟨_,y,y,al 4 ti y<|⟨(.mpt 4 0 0),[],[(4,_)],y,y,y,y,zgE (z:=by exact ⟨nv,(fun _ _=>⟨_,y,y,sto ti y y y<|⟨.any,[12],[(5,_)],y,y,y,t,zhx (z:=zcs [.old 0,.old 1,.old 2,.old 3,.old 4])⟩⟩),t⟩)⟩⟩),nw,t⟩)) ?_
  refine A ?_
  refine u<|sx [0,1,2] (zq c d e f i l j (m.2&&(!m.1.Interface)) y)<|zL (env0:=[(0,.mpt 0 0 0),(3,.mpt 3 0 0)]) (st0:=(sV c d e f i l (j||(!(m.2&&(!m.1.Interface)))) [some (4,[(zA b)])])) (zH [.old 0,.old 1,.old 2,.old 3])<|zJ ?_
  obtain ⟨x,J,h⟩:=bs h
  refine A ?_
  refine u<|sx [0,1,2] (zu c d e f i l (j||(!(m.2&&(!m.1.Interface)))) b.C J)<|zL (env0:=[]) (st0:=(sU c d e f i x (j||(!(m.2&&(!m.1.Interface)))) [])) (zH [.old 0,.old 1,.dead,.old 4])<|zJ ?_
  refine zK ?_
  obtain rfl:=sm h
  exact ⟨_,y,zzA [.old 0,.old 1,.dead,.old 3]⟩
 ·refine zf ?_
  obtain ⟨a,M,h⟩:=bs h
  refine rdA [(0,_),(3,_),(7,_),(8,_)] (sV c d e f i l j [some (4,[(zA b)]),some (3,[(zD a.2.1)])]) [13,15] [0,1,2,3,4,5,6,7,8,9,10,11,12] [(46,_),(45,_),(44,_),(34,_),(43,_),(42,_),(41,_),(40,_),(39,_),(38,_),(37,_),(36,_),(35,_)] 2 (zgE (z:=by exact ⟨(fun _ _=>⟨_,y,y,al 4 ti y<|⟨(.mpt 4 0 0),[14],[(6,_),(7,_)],y,y,y,y,zgE (z:=by exact ⟨nv,(fun _ _=>⟨_,y,y,sto ti y y y<|⟨.any,[16],[(8,_)],y,y,y,t,zhx (z:=zcs [.old 0,.old 1,.old 2,.old 3,.old 4])⟩⟩),t⟩)⟩⟩),nw,t⟩)) ?_
  refine A ?_
  refine u<|sx [0,1,2] (zq c d e f i l j (a.2.2&&(a.2.1.Static == ((b.Op == (40:Int))||(b.Op == (41:Int))))) y)<|zL (env0:=[(0,.mpt 0 0 0),(3,.mpt 3 0 0),(7,.mpt 4 0 0)]) (st0:=(sV c d e f i l (j||(!(a.2.2&&(a.2.1.Static == ((b.Op == (40:Int))||(b.Op == (41:Int))))))) [some (4,[(zA b)]),some (3,[(zD a.2.1)])])) (zH [.old 0,.old 1,.old 2,.old 3,.old 4])<|zJ ?_
  refine A ?_
  refine zp<|A ?_
  refine zeh h y (fun B h=>?_) fun B h=>?_
  ·obtain ⟨n,K,h⟩:=bs h
   refine A ?_
   refine zL (env0:=[(0,.mpt 0 0 0),(7,.mpt 3 0 0),(72,.mpt 0 0 0),(75,.isl 1 (map zn [b.C]))]) (st0:=(sV c d e f i l (j||(!(a.2.2&&(a.2.1.Static == ((b.Op == (40:Int))||(b.Op == (41:Int))))))) [some (3,[(zD a.2.1)])])) (zH [.old 0,.old 1,.old 2,.old 4])<|u<|sx [0,1,2] (zy c d e f i l (j||(!(a.2.2&&(a.2.1.Static == ((b.Op == (40:Int))||(b.Op == (41:Int))))))) [b.C] K)<|zL (env0:=[(0,.mpt 0 0 0),(7,.mpt 3 0 0)]) (st0:=(sV c d e f i n.1 n.2 [some (3,[(zD a.2.1)])])) (zH [.old 0,.old 1,.old 2,.old 3])<|zJ ?_
   obtain ⟨D,E,h⟩:=bs h
   refine A ?_
   refine u<|sx [0,1,2] (zu c d e f i n.1 n.2 a.2.1.Type_ E)<|zL (env0:=[]) (st0:=(sU c d e f i D n.2 [])) (zH [.old 0,.old 1,.dead,.old 4])<|zJ ?_
   obtain rfl:=sm h
   exact ⟨_,y,zbG [.old 0,.old 1,.dead,.old 3]⟩
  ·refine A ?_
   refine zeh h y (fun q h=>?_) fun q h=>?_
   ·obtain ⟨o,F,h⟩:=bs h
    refine A ?_
    refine zL (env0:=[(83,.mpt 0 0 0),(88,.isl 1 (map zn [b.C,a.2.1.Type_]))]) (st0:=(sV c d e f i l (j||(!(a.2.2&&(a.2.1.Static == ((b.Op == (40:Int))||(b.Op == (41:Int))))))) [])) (zH [.old 0,.old 1,.old 2])<|u<|sx [0,1,2] (zy c d e f i l (j||(!(a.2.2&&(a.2.1.Static == ((b.Op == (40:Int))||(b.Op == (41:Int))))))) [b.C,a.2.1.Type_] F)<|zL (env0:=[]) (st0:=(sV c d e f i o.1 o.2 [])) (zH [.old 0,.old 1,.old 2])<|zJ ?_
    obtain rfl:=sm h
    exact ⟨_,y,zbG [.old 0,.old 1,.dead,.old 2]⟩
   ·refine A ?_
    refine zeh h y (fun s h=>?_) fun s h=>?_
    ·obtain ⟨G,H,h⟩:=bs h
     refine A ?_
     refine u<|sx [0,1,2] (zu c d e f i l (j||(!(a.2.2&&(a.2.1.Static == ((b.Op == (40:Int))||(b.Op == (41:Int))))))) a.2.1.Type_ H)<|zL (env0:=[]) (st0:=(sU c d e f i G (j||(!(a.2.2&&(a.2.1.Static == ((b.Op == (40:Int))||(b.Op == (41:Int))))))) [])) (zH [.old 0,.old 1,.dead,.old 5])<|zJ ?_
     obtain rfl:=sm h
     exact ⟨_,y,zbG [.old 0,.old 1,.dead,.old 3]⟩
    ·obtain ⟨p,I,h⟩:=bs h
     refine A ?_
     refine zL (env0:=[(65,.mpt 0 0 0),(68,.isl 1 (map zn [a.2.1.Type_]))]) (st0:=(sV c d e f i l (j||(!(a.2.2&&(a.2.1.Static == ((b.Op == (40:Int))||(b.Op == (41:Int))))))) [])) (zH [.old 0,.old 1,.old 2])<|u<|sx [0,1,2] (zy c d e f i l (j||(!(a.2.2&&(a.2.1.Static == ((b.Op == (40:Int))||(b.Op == (41:Int))))))) [a.2.1.Type_] I)<|zL (env0:=[]) (st0:=(sV c d e f i p.1 p.2 [])) (zH [.old 0,.old 1,.old 2])<|zJ ?_
     obtain rfl:=sm h
     exact ⟨_,y,zbG [.old 0,.old 1,.dead,.old 2]⟩
def zaS(e:List za)(f:T2)(i:T0)(j:zb)(l:T1)(b:zb)(c:T1)(a:Bool):Option (T1×Bool):=
  cond (!(b.Ret == [86])) ((zw e f i j l c a b.Ret).bind fun d=>some (d,a)) (some (c,a))
def zbz(b:List za)(c:T2)(e:T0)(i:zb)(j:T1)(m:zl)(n:T0)(f:zb)(d:T1×Bool)(o:Bool):Option (T1×Bool):=
  cond o ((zB b c e i j d.1 d.2 [m.C]).bind fun l=>zaS b c e i j f l.1 l.2) (cond (m.Op == (44:Int)) ((zaf b c e i j d.1 d.2).bind fun a=>(zeW b c a.1 m.C).bind fun p=>cond p ((zeW b c a.1 e).bind fun q=>cond q ((zak b c e).bind fun s=>(zx s n).bind fun v=>zaS b c e i j f a.2.1 (a.2.2||(!v))) (zaS b c e i j f a.2.1 (a.2.2||(!false)))) (zaS b c e i j f a.2.1 (a.2.2||(!false)))) (zaS b c e i j f d.1 d.2))
def zb4(e:List za)(f:T2)(i:T0)(j:zb)(l:T1)(n:T1)(o:Bool)(b:zl)(c:T0)(a:zb)(m:Bool):Option (T1×Bool):=
  (zB e f i j l n (o||(!(m&&(a.Static == (b.Op == (42:Int)))))) a.Params).bind fun d=>cond (b.Op == (43:Int)) (zbz e f i j l b c a d (b.Op == (43:Int))) (zbz e f i j l b c a d (b.Op == (45:Int)))
def zde(c:List za)(d:T2)(f:T0)(i:zb)(j:T1)(l:T1)(m:Bool)(a:zl):Option (T1×Bool):=
  (zfT c d a.C a.M).bind fun e=>cond (a.Op == (45:Int)) ((zii c d a.C a.M).bind fun b=>zb4 c d f i j l m a b.1 b.2.1 b.2.2) (zb4 c d f i j l m a e.1 e.2.1 (e.2.2&&(!e.2.1.Abstract)))
theorem zld(c:List za)(d:T2)(e:T0)(f:zb)(i:T1)(p:T1)(q:Bool)(l:zl){r:T1×Bool}(h:zde c d e f i p q l=some r):SC Tryz.prog 284 [.mpt 0 0 0,.agg (zA l)] (tV c d e f i p q []) (.tup []) (tU c d e f i r.1 r.2 []):=by
 refine ⟨⟨t,zg0 (sz:=1) (fun _=>y),t,zg0 (sz:=1) (fun _=>y),t⟩,zai Tryz.func284 y kz y ?_⟩
 refine A ?_
 obtain ⟨E,q1,h⟩:=bs h
 refine rdA [(0,_),(3,_),(4,_),(5,_),(6,_)] (sV c d e f i p q [some (4,[(zA l)]),some (10,[(zd E.2.1)])]) [13,15] [0,1,2,3,4,5,6,7,8,9,10,11,12] [(20,_),(19,_),(18,_),(8,_),(17,_),(16,_),(15,_),(14,_),(13,_),(12,_),(11,_),(10,_),(9,_)] 2 (zgE (z:=by exact ⟨(fun _ _=>⟨_,y,y,al 4 ti y<|⟨(.mpt 4 0 0),[14],[(4,_),(5,_)],y,y,y,y,zgE (z:=by exact ⟨nv,(fun _ _=>⟨_,y,y,sto ti y y y<|⟨.any,[16],[(6,_)],y,y,y,t,zhx (z:=zcs [.old 0,.old 1,.old 2,.old 3,.old 4])⟩⟩),t⟩)⟩⟩),nw,t⟩)) ?_
 refine A ?_
 refine zcX (X:=T0×zb×Bool) (fun z=>[(0,.mpt 0 0 0),(3,.mpt 3 0 0),(4,sA z.1),(5,.mpt 4 0 0),(6,bA z.2.2)]) (fun z=>(sV c d e f i p q [some (4,[(zA l)]),some (10,[(zd z.2.1)])])) (fun z=>zb4 c d e f i p q l z.1 z.2.1 z.2.2=some r) ?_ ?_
 ·refine A ?_
  refine zeh h y (fun N h=>?_) fun N h=>?_
  ·obtain ⟨v,q4,h⟩:=bs h
   refine zqW [(0,_),(3,_),(4,_),(5,_),(6,_)] (sV c d e f i p q [some (4,[(zA l)]),some (10,[(zd v.2.1)])]) [14] [0,1,2,3,4,5,6,7,8,9,10,11,12,13] [(4,_),(42,_),(41,_),(40,_),(30,_),(39,_),(38,_),(37,_),(36,_),(35,_),(34,_),(33,_),(32,_),(31,_)] 1 (zgE (z:=by exact ⟨(fun _ _=>⟨_,y,y,sto ti y y y<|⟨.any,[15],[(6,_)],y,y,y,t,zhx (z:=zcs [.old 0,.old 1,.old 2,.old 3,.old 4])⟩⟩),t⟩)) ?_
   exact ⟨⟨v.1,v.2.1,v.2.2⟩,h,zH [.old 0,.old 1,.old 2,.old 3,.old 4]⟩
  ·refine zf ?_
   exact ⟨⟨E.1,E.2.1,(E.2.2&&(!E.2.1.Abstract))⟩,h,zH [.old 0,.old 1,.old 2,.old 3,.old 4]⟩
 ·rintro ⟨o,j,F⟩ h
  refine A ?_
  refine u<|sx [0,1,2] (zq c d e f i p q (F&&(j.Static == (l.Op == (42:Int)))) y)<|zL (env0:=[(0,.mpt 0 0 0),(3,.mpt 3 0 0),(4,sA o),(5,.mpt 4 0 0)]) (st0:=(sV c d e f i p (q||(!(F&&(j.Static == (l.Op == (42:Int)))))) [some (4,[(zA l)]),some (10,[(zd j)])])) (zH [.old 0,.old 1,.old 2,.old 3,.old 4])<|zJ ?_
  obtain ⟨m,W,h⟩:=bs h
  refine A ?_
  refine u<|sx [0,1,2] (zy c d e f i p (q||(!(F&&(j.Static == (l.Op == (42:Int)))))) j.Params W)<|zL (env0:=[(0,.mpt 0 0 0),(3,.mpt 3 0 0),(4,sA o),(5,.mpt 4 0 0)]) (st0:=(sV c d e f i m.1 m.2 [some (4,[(zA l)]),some (10,[(zd j)])])) (zH [.old 0,.old 1,.old 2,.old 3,.old 4])<|zJ ?_
  refine zcX (X:=T1×Bool) (fun z=>[(0,.mpt 0 0 0),(5,.mpt 3 0 0)]) (fun z=>(sV c d e f i z.1 z.2 [some (10,[(zd j)])])) (fun z=>zaS c d e f i j z.1 z.2=some r) ?_ ?_
  ·refine A ?_
   refine zp ?_
   refine zcX (X:=Bool) (fun z=>[(0,.mpt 0 0 0),(3,.mpt 3 0 0),(4,sA o),(5,.mpt 4 0 0),(59,iA l.Op),(60,bA z)]) (fun z=>(sV c d e f i m.1 m.2 [some (4,[(zA l)]),some (10,[(zd j)])])) (fun z=>zbz c d e f i l o j m z=some r) ?_ ?_
   ·refine A ?_
    refine zeh h y (fun O h=>?_) fun O h=>?_
    ·refine zf ?_
     exact ⟨(l.Op == (43:Int)),h,zH [.old 0,.old 1,.old 2,.old 3,.old 4]⟩
    ·refine A ?_
     exact (⟨(l.Op == (45:Int)),h,zH [.old 0,.old 1,.old 2,.old 3,.old 4]⟩)
   ·rintro Z h
    refine zeh h y (fun P h=>?_) fun P h=>?_
    ·obtain ⟨B,Y,h⟩:=bs h
     refine A ?_
     exact zL (env0:=[(0,.mpt 0 0 0),(5,.mpt 3 0 0),(63,.mpt 0 0 0),(66,.isl 1 (map zn [l.C]))]) (st0:=(sV c d e f i m.1 m.2 [some (10,[(zd j)])])) (zH [.old 0,.old 1,.old 2,.old 4])<|u<|sx [0,1,2] (zy c d e f i m.1 m.2 [l.C] Y)<|zL (env0:=[(0,.mpt 0 0 0),(5,.mpt 3 0 0)]) (st0:=(sV c d e f i B.1 B.2 [some (10,[(zd j)])])) (zH [.old 0,.old 1,.old 2,.old 3])<|zJ (⟨⟨B.1,B.2⟩,h,zH [.old 0,.old 1,.old 2,.old 3]⟩)
    ·refine A ?_
     refine zeh h y (fun L h=>?_) fun L h=>?_
     ·obtain ⟨a,Q,h⟩:=bs h
      refine rg y<|u<|mv y<|u<|sx [0,1,2] (zaw c d e f i m.1 m.2 Q)<|zL (env0:=[(0,.mpt 0 0 0),(3,.mpt 3 0 0),(4,sA o),(5,.mpt 4 0 0),(71,sA a.1)]) (st0:=(sV c d e f i a.2.1 a.2.2 [some (4,[(zA l)]),some (10,[(zd j)])])) (zH [.old 0,.old 1,.old 2,.old 3,.old 4])<|A ?_
      obtain ⟨G,I,h⟩:=bs h
      rcases bb G with s |s
      ·replace h:=bT s h
       obtain ⟨H,q14,h⟩:=bs h
       rcases bb H with n |n
       ·replace h:=bT n h
        obtain ⟨J,R,D,S,h⟩:=bs2 h
        refine zqW [(0,.mpt 0 0 0),(5,.mpt 3 0 0)] (sV c d e f i a.2.1 (a.2.2||(!D)) [some (10,[(zd j)])]) [30,34] [0,1,2,3,4,5,6,7,8,9,10,11,12,13,14,15,16,17,18,19,20,21,22,23,24,25,26,27,28,29,31] [(103,_),(101,_),(100,_),(99,_),(98,_),(97,_),(96,_),(95,_),(94,_),(93,_),(92,_),(91,_),(90,_),(89,_),(88,_),(87,_),(86,_),(85,_),(84,_),(83,_),(82,_),(81,_),(80,_),(79,_),(78,_),(77,_),(76,_),(75,_),(74,_),(73,_),(72,_)] 2 (zgE (z:=by exact ⟨(fun _ _=>⟨_,y,cg (b:=H) y n,sx [] (zaE c d e R)<|⟨(.msl 5 0 (length J)),[32,33],[(105,_),(104,_),(102,_)],y,y,y,y,zgE ⟨(by exact fun _=>pag (b:=H) y y y y n y (pcs (zW J o S) y y (.cons (zgN y (fun _=>y)) (.cons (si y) .nil)) zbQ<|w)),peC,peC,peC,peC,peC,peC,peC,peC,peC,peC,peC,peC,peC,peC,peC,peC,peC,peC,peC,peC,peC,peC,peC,peC,peC,peC,peC,peC,peC,peC,peC,peC,t⟩ (by exact ⟨nv,(fun _ _=>⟨_,y,y,sc [0,1,2] (args:=[.mpt 0 0 0,bA D]) (zq c d e f i a.2.1 a.2.2 D y) y y y y ⟨(.mpt y),(rnI y),t⟩ ⟨⟨_,y,(zyO y ⟨(.msl y),(.msl y),(rnI y),t⟩)⟩,⟨y,mkI (fun _=>y)⟩,⟨y,mkI (fun _=>y)⟩,t⟩<|⟨(.tup []),[],[(106,_)],y,y,y,y,zhx (z:=zcs [.old 0,.old 1,.old 2,.old 4])⟩⟩),t⟩)⟩⟩),nw,t⟩)) ?_
        exact ⟨⟨a.2.1,(a.2.2||(!D))⟩,h,zH [.old 0,.old 1,.old 2,.old 3]⟩
       ·replace h:=bF n h
        refine zqW [(0,.mpt 0 0 0),(5,.mpt 3 0 0)] (sV c d e f i a.2.1 (a.2.2||(!false)) [some (10,[(zd j)])]) [34] [0,1,2,3,4,5,6,7,8,9,10,11,12,13,14,15,16,17,18,19,20,21,22,23,24,25,26,27,28,29,30,31,32,33] [(105,_),(104,_),(103,_),(102,_),(101,_),(100,_),(99,_),(98,_),(97,_),(96,_),(95,_),(94,_),(93,_),(92,_),(91,_),(90,_),(89,_),(88,_),(87,_),(86,_),(85,_),(84,_),(83,_),(82,_),(81,_),(80,_),(79,_),(78,_),(77,_),(76,_),(75,_),(74,_),(73,_),(72,_)] 1 (zgE (z:=by exact ⟨(fun _ _=>⟨_,y,y,sc [0,1,2] (args:=[.mpt 0 0 0,bA false]) (zq c d e f i a.2.1 a.2.2 false y) y y y y ⟨(.mpt y),(rnI y),t⟩ ⟨⟨_,y,(zyO y ⟨(.msl y),(.msl y),(rnI y),t⟩)⟩,⟨y,mkI (fun _=>y)⟩,⟨y,mkI (fun _=>y)⟩,t⟩<|⟨(.tup []),[],[(106,_)],y,y,y,y,zhx (z:=zcs [.old 0,.old 1,.old 2,.old 4])⟩⟩),t⟩)) ?_
        exact ⟨⟨a.2.1,(a.2.2||(!false))⟩,h,zH [.old 0,.old 1,.old 2,.old 3]⟩
      ·replace h:=bF s h
       refine zqW [(0,.mpt 0 0 0),(5,.mpt 3 0 0)] (sV c d e f i a.2.1 (a.2.2||(!false)) [some (10,[(zd j)])]) [34] [33,32,31,30,29,28,27,26,25,24,23,22,21,20,19,18,17,16,15,14,13,12,11,10,9,8,7,6,5,4,3,2,1,0] [(105,bA false),(104,.lit undef),(103,.lit undef),(102,.lit undef),(101,.lit undef),(100,.lit undef),(99,.lit undef),(98,.lit undef),(97,.lit undef),(96,.lit undef),(95,.lit undef),(94,.lit undef),(93,bA false),(92,bA false),(91,.lit undef),(90,.lit undef),(89,.lit undef),(88,.lit undef),(87,.lit undef),(86,.lit undef),(85,.lit undef),(84,.lit undef),(83,.lit undef),(82,.lit undef),(81,bA G),(80,bA G),(79,sA l.C),(78,.mpt 3 0 2),(77,sA a.1),(76,.ipt 2 [[.isl 6 (map zc c),.imp (map (rKV (fun x=>iA x)) d)]] 0 0),(75,.mpt 0 0 0),(74,.mpt 0 0 0),(73,.mpt 0 0 0),(72,.mpt 0 0 0)] 1 (zB2 ⟨pe,pe,pe,pe,pe,pe,pe,pe,pe,pe,pe,pe,pe,pe,pe,pe,pe,pe,pe,pe,pe,pe,pe,pe,pe,(pb y (pc (ziA c d a.1 l.C I) y y y w)),(pb y (ld ti y y w)),(pb y (fa ti y y y w)),pe,(pb y (ld ti y y w)),(pb y (fa ti y y y w)),pe,pe,pe,t⟩ ⟨(fun _ _=>⟨_,y,y,sc [0,1,2] (args:=[.mpt 0 0 0,bA false]) (zq c d e f i a.2.1 a.2.2 false y) y y y y ⟨(.mpt y),(rnI y),t⟩ ⟨⟨_,y,(zyO y ⟨(.msl y),(.msl y),(rnI y),t⟩)⟩,⟨y,mkI (fun _=>y)⟩,⟨y,mkI (fun _=>y)⟩,t⟩<|⟨(.tup []),[],[(106,.tup [])],y,y,kz,y,zB1 ⟨pe,pe,pe,pe,pe,pe,pe,pe,pe,pe,pe,pe,pe,pe,pe,pe,pe,pe,pe,pe,pe,pe,pe,pe,pe,(pb y (pc (ziA c d a.1 l.C I) y y y w)),(pb y (ld ti y y w)),(pb y (fa ti y y y w)),pe,(pb y (ld ti y y w)),(pb y (fa ti y y y w)),pe,pe,pe,t⟩ (zH [.old 0,.old 1,.old 2,.old 4])⟩⟩),t⟩) ?_
       exact ⟨⟨a.2.1,(a.2.2||(!false))⟩,h,zH [.old 0,.old 1,.old 2,.old 3]⟩
     ·refine zf ?_
      exact ⟨⟨m.1,m.2⟩,h,zH [.old 0,.old 1,.old 2,.old 4]⟩
  ·rintro ⟨T,K⟩ h
   refine A ?_
   refine zeh h y (fun M h=>?_) fun M h=>?_
   ·obtain ⟨U,V,h⟩:=bs h
    refine A ?_
    refine u<|sx [0,1,2] (zu c d e f i T K j.Ret V)<|zL (env0:=[]) (st0:=(sU c d e f i U K [])) (zH [.old 0,.old 1,.dead,.old 4])<|zJ ?_
    obtain rfl:=sm h
    exact ⟨_,y,zbG [.old 0,.old 1,.dead,.old 3]⟩
   ·refine zf ?_
    obtain rfl:=sm h
    exact ⟨_,y,zbG [.old 0,.old 1,.dead,.old 2]⟩
def zdI(e:List za)(f:T2)(i:T0)(a:zb)(j:T1)(c:T1)(d:Bool)(l:Int):Option (T1×Bool):=
  cond (l == (46:Int)) (some (c,(d||(!(a.Ret == [86]))))) (cond (l == (47:Int)) ((zB e f i a j c (d||(!(a.Ret == [73]))) ([[73]])).bind fun m=>some (m.1,m.2)) ((zku a.Ret).bind fun n=>(zB e f i a j c (d||(!n)) [a.Ret]).bind fun b=>some (b.1,b.2)))
theorem zlS(b:List za)(c:T2)(d:T0)(a:zb)(e:T1)(f:T1)(i:Bool)(m:Int){r:T1×Bool}(h:zdI b c d a e f i m=some r):SC Tryz.prog 285 [.mpt 0 0 0,iA m] (tV b c d a e f i []) (.tup []) (tV b c d a e r.1 r.2 []):=by
 refine ⟨⟨t,zg0 (sz:=1) (fun _=>y),zg0 (sz:=1) (fun _=>y),t⟩,zai Tryz.func285 y kz y ?_⟩
 refine zp<|A ?_
 refine zeh h y (fun n h=>?_) fun n h=>?_
 ·refine A ?_
  refine u<|sx [0,1,2] (zq b c d a e f i (a.Ret == [86]) y)<|zL (env0:=[]) (st0:=(sV b c d a e f (i||(!(a.Ret == [86]))) [])) (zH [.old 0,.old 1,.old 2])<|zJ ?_
  obtain rfl:=sm h
  exact ⟨_,y,zbG [.old 0,.old 1,.old 2]⟩
 ·refine A ?_
  refine zeh h y (fun o h=>?_) fun o h=>?_
  ·refine A ?_
   refine u<|sx [0,1,2] (zq b c d a e f i (a.Ret == [73]) y)<|zL (env0:=[(0,.mpt 0 0 0)]) (st0:=(sV b c d a e f (i||(!(a.Ret == [73]))) [])) (zH [.old 0,.old 1,.old 2])<|zJ ?_
   obtain ⟨p,q,h⟩:=bs h
   refine A ?_
   refine zL (env0:=[(42,.mpt 0 0 0),(43,.isl 1 (map zn ([[73]])))]) (st0:=(sV b c d a e f (i||(!(a.Ret == [73]))) [])) (zH [.old 0,.old 1,.old 2])<|u<|sx [0,1,2] (zy b c d a e f (i||(!(a.Ret == [73]))) ([[73]]) q)<|zL (env0:=[]) (st0:=(sV b c d a e p.1 p.2 [])) (zH [.old 0,.old 1,.old 2])<|zJ ?_
   obtain rfl:=sm h
   exact ⟨_,y,zbG [.old 0,.old 1,.old 2]⟩
  ·obtain ⟨j,v,h⟩:=bs h
   refine A ?_
   refine u<|sx [0,1,2] (zq b c d a e f i j y)<|zL (env0:=[(0,.mpt 0 0 0)]) (st0:=(sV b c d a e f (i||(!j)) [])) (zH [.old 0,.old 1,.old 2])<|zJ ?_
   obtain ⟨l,s,h⟩:=bs h
   refine A ?_
   refine zL (env0:=[(12,.mpt 0 0 0),(18,.isl 1 (map zn [a.Ret]))]) (st0:=(sV b c d a e f (i||(!j)) [])) (zH [.old 0,.old 1,.old 2])<|u<|sx [0,1,2] (zy b c d a e f (i||(!j)) [a.Ret] s)<|zL (env0:=[]) (st0:=(sV b c d a e l.1 l.2 [])) (zH [.old 0,.old 1,.old 2])<|zJ ?_
   obtain rfl:=sm h
   exact ⟨_,y,zbG [.old 0,.old 1,.old 2]⟩
def zjV(a:T0):Option (T0):=
  (zh4 a).bind fun b=>(cond (!b) (some true) ((zqF [91] a).bind fun c=>(zh4 c).bind fun d=>some (!d))).bind fun e=>cond e (some []) ((zqF [91] a).bind fun f=>some f)
instance (a:T0):PF Tryz.prog 221 [sA a] (zjV a) sA:=⟨fun r h=>by
 refine zj Tryz.func221 y kz y y<|A ?_
 refine zh ?_
 obtain ⟨c,d,e,f,h⟩:=bs2 h
 refine A ?_
 refine zeh h y (fun b h=>?_) fun b h=>?_
 ·refine A ?_
  exact RT0
 ·refine zf ?_
  obtain ⟨i,j,h⟩:=bs h
  refine A ?_
  exact RT0⟩
def zdQ(c:List za)(d:T2)(e:T0)(f:zb)(i:T1)(j:T1)(l:Bool):Option (T0×T1×Bool):=
  (zaf c d e f i j l).bind fun a=>(zfH a.1).bind fun b=>cond (a.1 == [78]) (some (a.1,a.2.1,(a.2.2||(!((a.1 == [78])||(b.2&&(!(b.1 == [73])))))))) (some (b.1,a.2.1,(a.2.2||(!((a.1 == [78])||(b.2&&(!(b.1 == [73]))))))))
theorem zhw(b:List za)(c:T2)(d:T0)(e:zb)(f:T1)(j:T1)(l:Bool){r:T0×T1×Bool}(h:zdQ b c d e f j l=some r):SC Tryz.prog 342 [.mpt 0 0 0] (tV b c d e f j l []) (sA r.1) (tV b c d e f r.2.1 r.2.2 []):=by
 refine ⟨⟨t,zg0 (sz:=1) (fun _=>y),zg0 (sz:=1) (fun _=>y),t⟩,zai Tryz.func342 y kz y ?_⟩
 refine A ?_
 obtain ⟨a,n,h⟩:=bs h
 refine rg y<|u<|mv y<|u<|sx [0,1,2] (zaw b c d e f j l n)<|zL (env0:=[(0,.mpt 0 0 0),(7,sA a.1)]) (st0:=(sV b c d e f a.2.1 a.2.2 [])) (zH [.old 0,.old 1,.old 2])<|A ?_
 obtain ⟨i,o,h⟩:=bs h
 refine A ?_
 refine A ?_
 refine u<|sx [0,1,2] (zq b c d e f a.2.1 a.2.2 ((a.1 == [78])||(i.2&&(!(i.1 == [73])))) y)<|zL (env0:=[(3,sA a.1),(4,sA i.1)]) (st0:=(sV b c d e f a.2.1 (a.2.2||(!((a.1 == [78])||(i.2&&(!(i.1 == [73])))))) [])) (zH [.old 0,.old 1,.old 2])<|zJ ?_
 refine zh<|A ?_
 refine zeh h y (fun m h=>?_) fun m h=>?_
 ·refine A ?_
  exact RT3
 ·refine zf<|A ?_
  exact RT3
def zav(a:List za)(b:T2)(c:T0)(d:zb)(e:T1)(i:T1)(j:Bool)(l:zl):Option (T1×Bool):=
  cond (l.Op == (49:Int)) ((zB a b c d e i j ([[73]])).bind fun E=>(zw a b c d e E.1 E.2 [91,73]).bind fun F=>some (F,E.2)) (cond (l.Op == (50:Int)) ((zjV l.C).bind fun n=>(cond (!(n == [])) ((zdl a b n).bind fun G=>some G) (some false)).bind fun H=>(zB a b c d e i (j||(!H)) ([[73]])).bind fun o=>(zw a b c d e o.1 o.2 n).bind fun I=>some (I,o.2)) (cond (l.Op == (51:Int)) ((zaf a b c d e i j).bind fun f=>(zfH f.1).bind fun q=>(zw a b c d e f.2.1 (f.2.2||(!(q.2||(f.1 == [78])))) [73]).bind fun J=>some (J,(f.2.2||(!(q.2||(f.1 == [78])))))) (cond (l.Op == (52:Int)) ((zB a b c d e i j ([[91,73],[73]])).bind fun p=>(zw a b c d e p.1 p.2 [73]).bind fun K=>some (K,p.2)) (cond (l.Op == (53:Int)) ((zB a b c d e i j ([[91,73],[73],[73]])).bind fun s=>some (s.1,s.2)) (cond (l.Op == (54:Int)) ((zB a b c d e i j ([[73]])).bind fun v=>(zdQ a b c d e v.1 v.2).bind fun m=>(zw a b c d e m.2.1 m.2.2 m.1).bind fun L=>some (L,m.2.2)) ((zb1 a b c d e i j).bind fun x=>(zB a b c d e x.2.1 x.2.2 ([[73]])).bind fun B=>(zdQ a b c d e B.1 B.2).bind fun D=>some (D.2.1,D.2.2)))))))
theorem zka(a:List za)(b:T2)(c:T0)(d:zb)(e:T1)(i:T1)(j:Bool)(I:zl){r:T1×Bool}(h:zav a b c d e i j I=some r):SC Tryz.prog 286 [.mpt 0 0 0,.agg (zA I)] (tV a b c d e i j []) (.tup []) (tU a b c d e r.1 r.2 []):=by
 refine ⟨⟨t,zg0 (sz:=1) (fun _=>y),t,zg0 (sz:=1) (fun _=>y),t⟩,zai Tryz.func286 y kz y ?_⟩
 refine A ?_
 refine A ?_
 refine zp<|A ?_
 refine zeh h y (fun J h=>?_) fun J h=>?_
 ·obtain ⟨B,q2,h⟩:=bs h
  refine A ?_
  refine zL (env0:=[(0,.mpt 0 0 0),(19,.mpt 0 0 0),(20,.isl 1 (map zn ([[73]])))]) (st0:=(sV a b c d e i j [])) (zH [.old 0,.old 1,.old 2])<|u<|sx [0,1,2] (zy a b c d e i j ([[73]]) q2)<|zL (env0:=[(0,.mpt 0 0 0)]) (st0:=(sV a b c d e B.1 B.2 [])) (zH [.old 0,.old 1,.old 2])<|zJ ?_
  obtain ⟨K,q3,h⟩:=bs h
  refine rl y<|u<|mv y<|u<|sx [0,1,2] (zu a b c d e B.1 B.2 [91,73] q3)<|zL (env0:=[]) (st0:=(sU a b c d e K B.2 [])) (zH [.old 0,.old 1,.dead,.old 3])<|zJ ?_
  obtain rfl:=sm h
  exact ⟨_,y,zbG [.old 0,.old 1,.dead,.old 3]⟩
 ·refine A ?_
  refine zeh h y (fun L h=>?_) fun L h=>?_
  ·obtain ⟨p,q5,h⟩:=bs h
   refine A ?_
   obtain ⟨q,q8,h⟩:=bs h
   refine A ?_
   refine u<|sx [0,1,2] (zq a b c d e i j q y)<|zL (env0:=[(0,.mpt 0 0 0),(4,sA p)]) (st0:=(sV a b c d e i (j||(!q)) [])) (zH [.old 0,.old 1,.old 2])<|zJ ?_
   obtain ⟨n,q9,h⟩:=bs h
   refine A ?_
   refine zL (env0:=[(0,.mpt 0 0 0),(4,sA p),(41,.mpt 0 0 0),(42,.isl 1 (map zn ([[73]])))]) (st0:=(sV a b c d e i (j||(!q)) [])) (zH [.old 0,.old 1,.old 2])<|u<|sx [0,1,2] (zy a b c d e i (j||(!q)) ([[73]]) q9)<|zL (env0:=[(0,.mpt 0 0 0),(4,sA p)]) (st0:=(sV a b c d e n.1 n.2 [])) (zH [.old 0,.old 1,.old 2])<|zJ ?_
   obtain ⟨M,N,h⟩:=bs h
   refine A ?_
   refine u<|sx [0,1,2] (zu a b c d e n.1 n.2 p N)<|zL (env0:=[]) (st0:=(sU a b c d e M n.2 [])) (zH [.old 0,.old 1,.dead,.old 3])<|zJ ?_
   obtain rfl:=sm h
   exact ⟨_,y,zbG [.old 0,.old 1,.dead,.old 3]⟩
  ·refine A ?_
   refine zeh h y (fun E h=>?_) fun E h=>?_
   ·obtain ⟨f,O,h⟩:=bs h
    refine rg y<|u<|mv y<|u<|sx [0,1,2] (zaw a b c d e i j O)<|zL (env0:=[(0,.mpt 0 0 0),(50,sA f.1)]) (st0:=(sV a b c d e f.2.1 f.2.2 [])) (zH [.old 0,.old 1,.old 2])<|A ?_
    obtain ⟨s,q13,h⟩:=bs h
    refine A ?_
    refine A ?_
    refine u<|sx [0,1,2] (zq a b c d e f.2.1 f.2.2 (s.2||(f.1 == [78])) y)<|zL (env0:=[(0,.mpt 0 0 0)]) (st0:=(sV a b c d e f.2.1 (f.2.2||(!(s.2||(f.1 == [78])))) [])) (zH [.old 0,.old 1,.old 2])<|zJ ?_
    obtain ⟨P,Q,h⟩:=bs h
    refine rl y<|u<|mv y<|u<|sx [0,1,2] (zu a b c d e f.2.1 (f.2.2||(!(s.2||(f.1 == [78])))) [73] Q)<|zL (env0:=[]) (st0:=(sU a b c d e P (f.2.2||(!(s.2||(f.1 == [78])))) [])) (zH [.old 0,.old 1,.dead,.old 3])<|zJ ?_
    obtain rfl:=sm h
    exact ⟨_,y,zbG [.old 0,.old 1,.dead,.old 3]⟩
   ·refine A ?_
    refine zeh h y (fun F h=>?_) fun F h=>?_
    ·obtain ⟨o,R,h⟩:=bs h
     refine A ?_
     refine zL (env0:=[(0,.mpt 0 0 0),(67,.mpt 0 0 0),(68,.isl 1 (map zn ([[91,73],[73]])))]) (st0:=(sV a b c d e i j [])) (zH [.old 0,.old 1,.old 2])<|u<|sx [0,1,2] (zy a b c d e i j ([[91,73],[73]]) R)<|zL (env0:=[(0,.mpt 0 0 0)]) (st0:=(sV a b c d e o.1 o.2 [])) (zH [.old 0,.old 1,.old 2])<|zJ ?_
     obtain ⟨S,T,h⟩:=bs h
     refine rl y<|u<|mv y<|u<|sx [0,1,2] (zu a b c d e o.1 o.2 [73] T)<|zL (env0:=[]) (st0:=(sU a b c d e S o.2 [])) (zH [.old 0,.old 1,.dead,.old 3])<|zJ ?_
     obtain rfl:=sm h
     exact ⟨_,y,zbG [.old 0,.old 1,.dead,.old 3]⟩
    ·refine A ?_
     refine zeh h y (fun G h=>?_) fun G h=>?_
     ·obtain ⟨C,U,h⟩:=bs h
      refine A ?_
      refine zL (env0:=[(74,.mpt 0 0 0),(75,.isl 1 (map zn ([[91,73],[73],[73]])))]) (st0:=(sV a b c d e i j [])) (zH [.old 0,.old 1,.old 2])<|u<|sx [0,1,2] (zy a b c d e i j ([[91,73],[73],[73]]) U)<|zL (env0:=[]) (st0:=(sV a b c d e C.1 C.2 [])) (zH [.old 0,.old 1,.old 2])<|zJ ?_
      obtain rfl:=sm h
      exact ⟨_,y,zbG [.old 0,.old 1,.dead,.old 2]⟩
     ·refine A ?_
      refine zeh h y (fun H h=>?_) fun H h=>?_
      ·obtain ⟨v,V,h⟩:=bs h
       refine A ?_
       refine zL (env0:=[(0,.mpt 0 0 0),(79,.mpt 0 0 0),(80,.isl 1 (map zn ([[73]])))]) (st0:=(sV a b c d e i j [])) (zH [.old 0,.old 1,.old 2])<|u<|sx [0,1,2] (zy a b c d e i j ([[73]]) V)<|zL (env0:=[(0,.mpt 0 0 0)]) (st0:=(sV a b c d e v.1 v.2 [])) (zH [.old 0,.old 1,.old 2])<|zJ ?_
       obtain ⟨l,W,X,Y,h⟩:=bs2 h
       refine rl y<|u<|mv y<|u<|mv y<|u<|sx [0,1,2] (zhw a b c d e v.1 v.2 W)<|zL (env0:=[(82,.mpt 0 0 0),(84,sA l.1)]) (st0:=(sV a b c d e l.2.1 l.2.2 [])) (zH [.old 0,.old 1,.old 2])<|u<|sx [0,1,2] (zu a b c d e l.2.1 l.2.2 l.1 Y)<|zL (env0:=[]) (st0:=(sU a b c d e X l.2.2 [])) (zH [.old 0,.old 1,.dead,.old 3])<|zJ ?_
       obtain rfl:=sm h
       exact ⟨_,y,zbG [.old 0,.old 1,.dead,.old 3]⟩
      ·obtain ⟨m,Z,h⟩:=bs h
       refine rg y<|u<|mv y<|u<|sx [0,1,2] (zdA a b c d e i j Z)<|zL (env0:=[(0,.mpt 0 0 0)]) (st0:=(sV a b c d e m.2.1 m.2.2 [])) (zH [.old 0,.old 1,.old 2])<|zJ ?_
       obtain ⟨x,q26,h⟩:=bs h
       refine A ?_
       refine zL (env0:=[(0,.mpt 0 0 0),(12,.mpt 0 0 0),(13,.isl 1 (map zn ([[73]])))]) (st0:=(sV a b c d e m.2.1 m.2.2 [])) (zH [.old 0,.old 1,.old 2])<|u<|sx [0,1,2] (zy a b c d e m.2.1 m.2.2 ([[73]]) q26)<|zL (env0:=[(0,.mpt 0 0 0)]) (st0:=(sV a b c d e x.1 x.2 [])) (zH [.old 0,.old 1,.old 2])<|zJ ?_
       obtain ⟨D,q27,h⟩:=bs h
       refine rl y<|u<|mv y<|u<|sx [0,1,2] (zhw a b c d e x.1 x.2 q27)<|zL (env0:=[]) (st0:=(sV a b c d e D.2.1 D.2.2 [])) (zH [.old 0,.old 1,.old 2])<|zJ ?_
       obtain rfl:=sm h
       exact ⟨_,y,zbG [.old 0,.old 1,.dead,.old 2]⟩
def zaT(b:List za)(c:T2)(e:T0)(f:zb)(i:T1)(m:T1)(j:Bool)(l:zl)(v:Bool):Option (T1×Bool):=
  cond v ((zb1 b c e f i m j).bind fun a=>(zdl b c l.C).bind fun d=>cond (l.Op == (56:Int)) ((zw b c e f i a.2.1 (a.2.2||(!d)) l.C).bind fun p=>some (p,(a.2.2||(!d)))) ((zw b c e f i a.2.1 (a.2.2||(!d)) [73]).bind fun q=>some (q,(a.2.2||(!d))))) (cond (l.Op == (58:Int)) ((zB b c e f i m j ([[84,104,114,111,119,110]])).bind fun n=>some (n.1,n.2)) (cond (l.Op == (59:Int)) ((zw b c e f i m j [73]).bind fun s=>some (s,j)) ((zB b c e f i m j ([[73]])).bind fun o=>some (o.1,o.2))))
def zbO(b:List za)(c:T2)(d:T0)(e:zb)(f:T1)(i:T1)(j:Bool)(a:zl):Option (T1×Bool):=
  cond (a.Op == (56:Int)) (zaT b c d e f i j a (a.Op == (56:Int))) (zaT b c d e f i j a (a.Op == (57:Int)))
theorem zlf(a:List za)(b:T2)(c:T0)(d:zb)(e:T1)(j:T1)(i:Bool)(l:zl){r:T1×Bool}(h:zbO a b c d e j i l=some r):SC Tryz.prog 287 [.mpt 0 0 0,.agg (zA l)] (tV a b c d e j i []) (.tup []) (tU a b c d e r.1 r.2 []):=by
 refine ⟨⟨t,zg0 (sz:=1) (fun _=>y),t,zg0 (sz:=1) (fun _=>y),t⟩,zai Tryz.func287 y kz y ?_⟩
 refine A ?_
 refine A ?_
 refine zp ?_
 refine zcX (X:=Bool) (fun z=>[(0,.mpt 0 0 0),(3,.mpt 3 0 0),(5,iA l.Op),(9,bA z)]) (fun z=>(sV a b c d e j i [some (4,[(zA l)])])) (fun z=>zaT a b c d e j i l z=some r) ?_ ?_
 ·refine A ?_
  refine zeh h y (fun q h=>?_) fun q h=>?_
  ·refine zf ?_
   exact ⟨(l.Op == (56:Int)),h,zH [.old 0,.old 1,.old 2,.old 3]⟩
  ·refine A ?_
   exact (⟨(l.Op == (57:Int)),h,zH [.old 0,.old 1,.old 2,.old 3]⟩)
 ·rintro L h
  refine zeh h y (fun s h=>?_) fun s h=>?_
  ·obtain ⟨f,H,h⟩:=bs h
   refine rg y<|u<|mv y<|u<|sx [0,1,2] (zdA a b c d e j i H)<|zL (env0:=[(0,.mpt 0 0 0),(3,.mpt 3 0 0)]) (st0:=(sV a b c d e f.2.1 f.2.2 [some (4,[(zA l)])])) (zH [.old 0,.old 1,.old 2,.old 3])<|zJ ?_
   obtain ⟨m,M,h⟩:=bs h
   refine rdA [(0,_),(3,_)] (sV a b c d e f.2.1 (f.2.2||(!m)) [some (4,[(zA l)])]) [8] [0,1,2,3,4,5,6,7] [(21,_),(20,_),(19,_),(18,_),(17,_),(16,_),(15,_),(14,_)] 1 (zgE (z:=by exact ⟨(fun _ _=>⟨_,y,y,sx [0,1,2] (zq a b c d e f.2.1 f.2.2 m y)<|⟨(.tup []),[],[(22,_)],y,y,y,y,zhx (z:=zcs [.old 0,.old 1,.old 2,.old 3])⟩⟩),t⟩)) ?_
   refine A ?_
   refine zeh h y (fun v h=>?_) fun v h=>?_
   ·obtain ⟨x,I,h⟩:=bs h
    refine A ?_
    refine u<|sx [0,1,2] (zu a b c d e f.2.1 (f.2.2||(!m)) l.C I)<|zL (env0:=[]) (st0:=(sU a b c d e x (f.2.2||(!m)) [])) (zH [.old 0,.old 1,.dead,.old 4])<|zJ ?_
    obtain rfl:=sm h
    exact ⟨_,y,zbG [.old 0,.old 1,.dead,.old 3]⟩
   ·obtain ⟨B,J,h⟩:=bs h
    refine rl y<|u<|mv y<|u<|sx [0,1,2] (zu a b c d e f.2.1 (f.2.2||(!m)) [73] J)<|zL (env0:=[]) (st0:=(sU a b c d e B (f.2.2||(!m)) [])) (zH [.old 0,.old 1,.dead,.old 4])<|zJ ?_
    obtain rfl:=sm h
    exact ⟨_,y,zbG [.old 0,.old 1,.dead,.old 3]⟩
  ·refine A ?_
   refine zeh h y (fun D h=>?_) fun D h=>?_
   ·obtain ⟨n,K,h⟩:=bs h
    refine A ?_
    refine zL (env0:=[(34,.mpt 0 0 0),(35,.isl 1 (map zn ([[84,104,114,111,119,110]])))]) (st0:=(sV a b c d e j i [])) (zH [.old 0,.old 1,.old 2])<|u<|sx [0,1,2] (zy a b c d e j i ([[84,104,114,111,119,110]]) K)<|zL (env0:=[]) (st0:=(sV a b c d e n.1 n.2 [])) (zH [.old 0,.old 1,.old 2])<|zJ ?_
    obtain rfl:=sm h
    exact ⟨_,y,zbG [.old 0,.old 1,.dead,.old 2]⟩
   ·refine A ?_
    refine zeh h y (fun p h=>?_) fun p h=>?_
    ·obtain ⟨E,F,h⟩:=bs h
     refine rl y<|u<|mv y<|u<|sx [0,1,2] (zu a b c d e j i [73] F)<|zL (env0:=[]) (st0:=(sU a b c d e E i [])) (zH [.old 0,.old 1,.dead,.old 4])<|zJ ?_
     obtain rfl:=sm h
     exact ⟨_,y,zbG [.old 0,.old 1,.dead,.old 3]⟩
    ·obtain ⟨o,G,h⟩:=bs h
     refine A ?_
     refine zL (env0:=[(6,.mpt 0 0 0),(7,.isl 1 (map zn ([[73]])))]) (st0:=(sV a b c d e j i [])) (zH [.old 0,.old 1,.old 2])<|u<|sx [0,1,2] (zy a b c d e j i ([[73]]) G)<|zL (env0:=[]) (st0:=(sV a b c d e o.1 o.2 [])) (zH [.old 0,.old 1,.old 2])<|zJ ?_
     obtain rfl:=sm h
     exact ⟨_,y,zbG [.old 0,.old 1,.dead,.old 2]⟩
def zg(c:List za)(d:T2)(e:T0)(f:zb)(a:T1)(i:T1)(j:Bool)(b:zl):Option (T1×T1×Bool):=
  cond (zau b.Op 1 7) ((zaP c d e f a i j b).bind fun E=>some (E.1,E.2.1,E.2.2)) (cond (b.Op == (13:Int)) ((zB c d e f a i j ([[73]])).bind fun l=>(zw c d e f a l.1 l.2 [73]).bind fun F=>some (a,F,l.2)) (cond (zau b.Op 8 19) ((zB c d e f a i j ([[73],[73]])).bind fun m=>(zw c d e f a m.1 m.2 [73]).bind fun G=>some (a,G,m.2)) (cond (b.Op == (20:Int)) (some (a,i,j)) (cond (zau b.Op 21 26) ((zB c d e f a i j ([[73]])).bind fun n=>some (a,n.1,n.2)) (cond (zau b.Op 27 32) ((zB c d e f a i j ([[73],[73]])).bind fun o=>some (a,o.1,o.2)) (cond (zau b.Op 33 34) ((zb1 c d e f a i j).bind fun p=>some (a,p.2.1,p.2.2)) (cond (zau b.Op 35 36) ((zb1 c d e f a i j).bind fun q=>(zb1 c d e f a q.2.1 q.2.2).bind fun s=>some (a,s.2.1,s.2.2)) (cond ((b.Op == (37:Int))||(zau b.Op 38 41)) ((zdR c d e f a i j b).bind fun v=>some (a,v.1,v.2)) (cond (zau b.Op 42 45) ((zde c d e f a i j b).bind fun x=>some (a,x.1,x.2)) (cond (zau b.Op 46 48) ((zdI c d e f a i j b.Op).bind fun B=>some (a,B.1,B.2)) (cond (zau b.Op 49 55) ((zav c d e f a i j b).bind fun C=>some (a,C.1,C.2)) ((zbO c d e f a i j b).bind fun D=>some (a,D.1,D.2)))))))))))))
theorem zlR(a:List za)(b:T2)(c:T0)(d:zb)(e:T1)(f:T1)(i:Bool)(j:zl){r:T1×T1×Bool}(h:zg a b c d e f i j=some r):SC Tryz.prog 200 [.mpt 0 0 0,.agg (zA j)] (tV a b c d e f i []) (.tup []) [.one 15 (vK a b c d (.msl 3 0 (length r.1)) (.msl 4 0 (length r.2.1)) (bA r.2.2)),.no,.no,.many 1 (map zn r.1),.many 1 (map zn r.2.1)]:=by
 refine ⟨⟨t,t,t,zg0 (sz:=1) (fun _=>y),zg0 (sz:=1) (fun _=>y),t⟩,zai Tryz.func200 y kz y ?_⟩
 refine A ?_
 refine A ?_
 refine zp<|A ?_
 refine zeh h y (fun N h=>?_) fun N h=>?_
 ·obtain ⟨o,q2,h⟩:=bs h
  refine A ?_
  refine u<|sx [0,1,2] (zle a b c d e f i j q2)<|zL (env0:=[]) (st0:=[some (15,[(vK a b c d (.msl 3 0 (length o.1)) (.msl 4 0 (length o.2.1)) (bA o.2.2))]),none,none,some (1,map zn o.1),some (1,map zn o.2.1)]) (zH [.old 0,.dead,.dead,.old 4,.old 5])<|zJ ?_
  obtain rfl:=sm h
  exact ⟨_,y,zbG [.old 0,.dead,.dead,.old 3,.old 4]⟩
 ·refine A ?_
  refine zeh h y (fun O h=>?_) fun O h=>?_
  ·obtain ⟨l,q4,h⟩:=bs h
   refine A ?_
   refine zL (env0:=[(0,.mpt 0 0 0),(19,.mpt 0 0 0),(20,.isl 1 (map zn ([[73]])))]) (st0:=(sV a b c d e f i [])) (zH [.old 0,.old 1,.old 2])<|u<|sx [0,1,2] (zy a b c d e f i ([[73]]) q4)<|zL (env0:=[(0,.mpt 0 0 0)]) (st0:=(sV a b c d e l.1 l.2 [])) (zH [.old 0,.old 1,.old 2])<|zJ ?_
   obtain ⟨P,q5,h⟩:=bs h
   refine rl y<|u<|mv y<|u<|sx [0,1,2] (zu a b c d e l.1 l.2 [73] q5)<|zL (env0:=[]) (st0:=(sU a b c d e P l.2 [])) (zH [.old 0,.old 1,.dead,.old 3])<|zJ ?_
   obtain rfl:=sm h
   exact ⟨_,y,zbG [.old 0,.dead,.dead,.old 1,.old 3]⟩
  ·refine A ?_
   refine zeh h y (fun Q h=>?_) fun Q h=>?_
   ·obtain ⟨m,q7,h⟩:=bs h
    refine A ?_
    refine zL (env0:=[(0,.mpt 0 0 0),(27,.mpt 0 0 0),(28,.isl 1 (map zn ([[73],[73]])))]) (st0:=(sV a b c d e f i [])) (zH [.old 0,.old 1,.old 2])<|u<|sx [0,1,2] (zy a b c d e f i ([[73],[73]]) q7)<|zL (env0:=[(0,.mpt 0 0 0)]) (st0:=(sV a b c d e m.1 m.2 [])) (zH [.old 0,.old 1,.old 2])<|zJ ?_
    obtain ⟨R,q8,h⟩:=bs h
    refine rl y<|u<|mv y<|u<|sx [0,1,2] (zu a b c d e m.1 m.2 [73] q8)<|zL (env0:=[]) (st0:=(sU a b c d e R m.2 [])) (zH [.old 0,.old 1,.dead,.old 3])<|zJ ?_
    obtain rfl:=sm h
    exact ⟨_,y,zbG [.old 0,.dead,.dead,.old 1,.old 3]⟩
   ·refine A ?_
    refine zeh h y (fun S h=>?_) fun S h=>?_
    ·refine zf ?_
     obtain rfl:=sm h
     exact ⟨_,y,zbG [.old 0,.dead,.dead,.old 1,.old 2]⟩
    ·refine A ?_
     refine zeh h y (fun F h=>?_) fun F h=>?_
     ·obtain ⟨p,T,h⟩:=bs h
      refine A ?_
      refine zL (env0:=[(38,.mpt 0 0 0),(39,.isl 1 (map zn ([[73]])))]) (st0:=(sV a b c d e f i [])) (zH [.old 0,.old 1,.old 2])<|u<|sx [0,1,2] (zy a b c d e f i ([[73]]) T)<|zL (env0:=[]) (st0:=(sV a b c d e p.1 p.2 [])) (zH [.old 0,.old 1,.old 2])<|zJ ?_
      obtain rfl:=sm h
      exact ⟨_,y,zbG [.old 0,.dead,.dead,.old 1,.old 2]⟩
     ·refine A ?_
      refine zeh h y (fun G h=>?_) fun G h=>?_
      ·obtain ⟨q,U,h⟩:=bs h
       refine A ?_
       refine zL (env0:=[(44,.mpt 0 0 0),(45,.isl 1 (map zn ([[73],[73]])))]) (st0:=(sV a b c d e f i [])) (zH [.old 0,.old 1,.old 2])<|u<|sx [0,1,2] (zy a b c d e f i ([[73],[73]]) U)<|zL (env0:=[]) (st0:=(sV a b c d e q.1 q.2 [])) (zH [.old 0,.old 1,.old 2])<|zJ ?_
       obtain rfl:=sm h
       exact ⟨_,y,zbG [.old 0,.dead,.dead,.old 1,.old 2]⟩
      ·refine A ?_
       refine zeh h y (fun H h=>?_) fun H h=>?_
       ·obtain ⟨s,V,h⟩:=bs h
        refine rl y<|u<|mv y<|u<|sx [0,1,2] (zdA a b c d e f i V)<|zL (env0:=[]) (st0:=(sV a b c d e s.2.1 s.2.2 [])) (zH [.old 0,.old 1,.old 2])<|zJ ?_
        obtain rfl:=sm h
        exact ⟨_,y,zbG [.old 0,.dead,.dead,.old 1,.old 2]⟩
       ·refine A ?_
        refine zeh h y (fun I h=>?_) fun I h=>?_
        ·obtain ⟨n,W,h⟩:=bs h
         refine rg y<|u<|mv y<|u<|sx [0,1,2] (zdA a b c d e f i W)<|zL (env0:=[(0,.mpt 0 0 0)]) (st0:=(sV a b c d e n.2.1 n.2.2 [])) (zH [.old 0,.old 1,.old 2])<|zJ ?_
         obtain ⟨v,X,h⟩:=bs h
         refine rl y<|u<|mv y<|u<|sx [0,1,2] (zdA a b c d e n.2.1 n.2.2 X)<|zL (env0:=[]) (st0:=(sV a b c d e v.2.1 v.2.2 [])) (zH [.old 0,.old 1,.old 2])<|zJ ?_
         obtain rfl:=sm h
         exact ⟨_,y,zbG [.old 0,.dead,.dead,.old 1,.old 2]⟩
        ·refine A ?_
         refine zeh h y (fun J h=>?_) fun J h=>?_
         ·obtain ⟨x,Y,h⟩:=bs h
          refine A ?_
          refine u<|sx [0,1,2] (zkO a b c d e f i j Y)<|zL (env0:=[]) (st0:=(sU a b c d e x.1 x.2 [])) (zH [.old 0,.old 1,.dead,.old 4])<|zJ ?_
          obtain rfl:=sm h
          exact ⟨_,y,zbG [.old 0,.dead,.dead,.old 1,.old 3]⟩
         ·refine A ?_
          refine zeh h y (fun K h=>?_) fun K h=>?_
          ·obtain ⟨B,Z,h⟩:=bs h
           refine A ?_
           refine u<|sx [0,1,2] (zld a b c d e f i j Z)<|zL (env0:=[]) (st0:=(sU a b c d e B.1 B.2 [])) (zH [.old 0,.old 1,.dead,.old 4])<|zJ ?_
           obtain rfl:=sm h
           exact ⟨_,y,zbG [.old 0,.dead,.dead,.old 1,.old 3]⟩
          ·refine A ?_
           refine zeh h y (fun L h=>?_) fun L h=>?_
           ·obtain ⟨C,q25,h⟩:=bs h
            refine rl y<|u<|mv y<|u<|mv y<|u<|sx [0,1,2] (zlS a b c d e f i j.Op q25)<|zL (env0:=[]) (st0:=(sV a b c d e C.1 C.2 [])) (zH [.old 0,.old 1,.old 2])<|zJ ?_
            obtain rfl:=sm h
            exact ⟨_,y,zbG [.old 0,.dead,.dead,.old 1,.old 2]⟩
           ·refine A ?_
            refine zeh h y (fun M h=>?_) fun M h=>?_
            ·obtain ⟨D,q27,h⟩:=bs h
             refine A ?_
             refine u<|sx [0,1,2] (zka a b c d e f i j q27)<|zL (env0:=[]) (st0:=(sU a b c d e D.1 D.2 [])) (zH [.old 0,.old 1,.dead,.old 4])<|zJ ?_
             obtain rfl:=sm h
             exact ⟨_,y,zbG [.old 0,.dead,.dead,.old 1,.old 3]⟩
            ·obtain ⟨E,q28,h⟩:=bs h
             refine A ?_
             refine u<|sx [0,1,2] (zlf a b c d e f i j q28)<|zL (env0:=[]) (st0:=(sU a b c d e E.1 E.2 [])) (zH [.old 0,.old 1,.dead,.old 4])<|zJ ?_
             obtain rfl:=sm h
             exact ⟨_,y,zbG [.old 0,.dead,.dead,.old 1,.old 3]⟩
def zj9(b:T1)(c:T1)(a:Bool):Option (Bool):=
  some (!a)
def zeF(e:zb)(b:Int)(c:zl)(a:T1×T1×Bool)(d:Bool):Option (Sum (T1×T1×Bool×Bool×Int) (Sum (T1×T1×Bool) (Bool))):=
  some (.inl (a.1,a.2.1,(d||(!(decide (((length a.2.1):Int)≤e.Stack)))),(!(zkC c.Op)),(IntKind.i64.wrap (b+1))))
def zaC(i:T0)(d:zr)(e:zb)(j:T1)(m:T1)(n:Bool)(o:Bool)(a:Int):Option (Sum (T1×T1×Bool×Bool×Int) (Sum (T1×T1×Bool) (Bool))):=
  cond (decide (a<(length e.Code:Int))) ((idx e.Code a).bind fun f=>(zfa d.l d.at_ i e j m n a o).bind fun b=>cond b.2.2 (some (.inr (.inr false))) ((zdS d.l d.at_ i e b.1 b.2.1 b.2.2 a).bind fun p=>(zg d.l d.at_ i e b.1 b.2.1 p f).bind fun c=>cond (zf7 f.Op) ((zdg d.l d.at_ i e c.1 c.2.1 c.2.2 f.A).bind fun q=>zeF e a f c q) (zeF e a f c c.2.2))) (some (.inr (.inl (j,m,n))))
def zoT(e:T0)(f:zr)(i:zb)(a:Bool)(c:Bool)(d:T1):Option (Bool):=
  (zm (fun z=>zaC e f i z.1 z.2.1 z.2.2.1 z.2.2.2.1 z.2.2.2.2) (d,[],(a||(!c)),true,0)).bind fun o=>zI o (fun b=>zj9 b.1 b.2.1 b.2.2) some
def ziD(c:zb)(a:T1):Option (Sum (T1) (Sum (T1) (Bool))):=
  cond (decide (((length a):Int)<c.Locals)) ((zgT 16 a ([[84]])).bind fun b=>some (.inl b)) (some (.inr (.inl a)))
def zfN(i:T0)(j:zr)(a:zb)(c:Bool)(d:Bool)(e:T1):Option (Bool):=
  (zgT 16 e a.Params).bind fun f=>(zm (fun z=>ziD a z) f).bind fun o=>zI o (fun b=>zoT i j a c d b) some
def zfM(e:T0)(a:zr)(b:zb)(c:Bool):Option (Bool):=
  (zhv b.Params a.l a.at_).bind fun d=>cond (!b.Static) ((zgT 16 ([]:T1) [e]).bind fun f=>zfN e a b c d f) (zfN e a b c d [])
def ziC(d:T0)(b:zr)(a:zb)(c:Bool):Option (Bool):=
  cond (a.Ret == [86]) (zfM d b a (c||(!true))) ((zcb b.l b.at_ a.Ret a.Ret).bind fun e=>zfM d b a (c||(!e)))
def zdK(b:zr)(e:zb)(c:Bool)(a:Int):Option (Sum (Bool×Int) (Sum (Bool) (Bool))):=
  cond (decide (a<(length e.Maps:Int))) ((idx e.Maps a).bind fun d=>(ziT d.Locals b.l b.at_).bind fun f=>(cond f ((ziT d.Stack b.l b.at_).bind fun i=>some i) (some false)).bind fun j=>some (.inl ((c||(!j)),(IntKind.i64.wrap (a+1))))) (some (.inr (.inl c)))
def zbT(i:Option zr)(e:T0)(a:Int):Option (Bool):=
  zwx i (none) (fun c=>(zz c.l c.at_ e).bind fun d=>(cond (((!d.2)||(decide (a<0)))||(decide ((length d.1.Methods:Int)≤a))) (some true) ((idx d.1.Methods a).bind fun j=>some j.Abstract)).bind fun m=>cond m (some false) ((idx d.1.Methods a).bind fun f=>(zm (fun z=>zdK c f z.1 z.2) (false,0)).bind fun o=>zI o (fun b=>ziC e c f b) some))
theorem zcV(M:Option zr)(d:T0)(T:Int){r:Bool}(h:zbT M d T=some r):zaj Tryz.prog 118 [zkD 2 zaZ M,sA d,iA T] (bA r):=by
 refine zj Tryz.func118 y kz y y ?_
 unfold zbT at h
 rcases M with _ |a
 ·replace h:=oeN h
  cases h
 ·replace h:=oeS h
  refine A ?_
  obtain ⟨v5,q1,h⟩:=bs h
  refine rg y<|u<|ld ti y y<|u<|mv y<|u<|pc (zic a.l a.at_ d q1) y y y<|u<|mv y<|u<|ex y y<|u<|ex y y<|u<|al 1 ti y<|u<|sto ti y y y<|u<|asg y<|zJ ?_
  refine zh ?_
  obtain ⟨v7,q6,h⟩:=bs h
  refine A ?_
  refine zeh h y (fun U h=>?_) fun U h=>?_
  ·refine A ?_
   exact RT0
  ·refine zf ?_
   obtain ⟨c,q8,h⟩:=bs h
   refine rdA [(1,sA d),(3,.mpt 0 0 0),(9,.mpt 1 0 0)] [some (1,[[.ipt 2 [[.isl 6 (map zc a.l),.imp (map (rKV (fun x=>iA x)) a.at_)]] 0 0]]),some (15,[(vK a.l a.at_ d c (.lit (.slice none 0 0)) (.lit (.slice none 0 0)) (bA false))])] [8] [0,1,2,3,4,5,6,7] [(50,_),(49,_),(48,_),(47,_),(46,_),(45,_),(44,_),(43,_)] 1 (zgE (z:=by exact ⟨(fun _ _=>⟨_,y,y,bx 2 15 y y y y<|⟨(.mpt 2 0 0),[9],[(9,_),(51,_)],y,y,y,y,zhx (z:=zcs [.old 0,.old 2])⟩⟩),t⟩)) ?_
   refine zh<|A ?_
   obtain ⟨o,ho,h⟩:=bs h
   refine lpB ho (fun z=>[(1,sA d),(3,.mpt 0 0 0),(9,.mpt 1 0 0),(56,.isl 3 (map z7 c.Maps)),(57,iA (length c.Maps:Int)),(58,iA z.2)]) (fun z=>[some (1,[[.ipt 2 [[.isl 6 (map zc a.l),.imp (map (rKV (fun x=>iA x)) a.at_)]] 0 0]]),some (15,[(vK a.l a.at_ d c (.msl 2 0 0) (.msl 3 0 0) (bA z.1))]),some (1,map zn []),some (1,map zn [])]) (fun b=>[(1,sA d),(3,.mpt 0 0 0),(9,.mpt 1 0 0)]) (fun b=>[some (1,[[.ipt 2 [[.isl 6 (map zc a.l),.imp (map (rKV (fun x=>iA x)) a.at_)]] 0 0]]),some (15,[(vK a.l a.at_ d c (.msl 2 0 0) (.msl 3 0 0) (bA b))]),some (1,map zn []),some (1,map zn [])]) (pG Tryz.f118 bA) ⟨[.old 0,.old 1,.fresh 1,.fresh 1],ce y y<|cv y (.mpt y)<|cv y (.mpt y)<|ce y y<|ce y y<|ce y y<|cn,y,⟨⟨_,y,zbV ⟨ci y,t⟩⟩,⟨_,y,zbV (zzz y (by exact ⟨.nilown y,.nilown y,ci y,t⟩))⟩,w,w,t⟩,y,k⟩ ?_ ?_
   ·rintro ⟨G,V⟩ r h
    refine A ?_
    refine zh ?_
    refine zeh h y (fun N h=>?_) fun N h=>?_
    ·refine zf<|zh<|zp ?_
     obtain ⟨H,q16,h⟩:=bs h
     refine A ?_
     refine A ?_
     obtain ⟨v18,W,E,B,h⟩:=bs2 h
     refine A ?_
     refine u<|pcs (zkM H.Locals a.l a.at_ W) y y (.cons (si y) (.cons (zfx t ⟨(zbY y ⟨(si y),t⟩),t⟩) .nil)) zbQ<|u<|mv y<|zik (x:=E) (j:=5) 4 y y y y y gpn (fun v=>by replace B:=bT v B;obtain ⟨v19,Y,B⟩:=bs B;obtain rfl:=sm B;exact g y v<|fa ti y y y<|g y v<|ld ti y y<|g y v<|mv y<|g y v<|pcs (zkM H.Stack a.l a.at_ Y) y y (.cons (si y) (.cons (zfx t ⟨(zbY y ⟨(si y),t⟩),t⟩) .nil)) zbQ<|zJ (eg [69,70,71,72] 4 y y y y)) (fun hb=>(sm (bF hb B)).symm)<|u<|sx [1,2,3] (zq a.l a.at_ d c [] [] G E y)<|zL (env0:=[(1,sA d),(3,.mpt 0 0 0),(9,.mpt 1 0 0),(56,.isl 3 (map z7 c.Maps)),(57,iA (length c.Maps:Int)),(58,iA V)]) (st0:=[some (1,[[.ipt 2 [[.isl 6 (map zc a.l),.imp (map (rKV (fun x=>iA x)) a.at_)]] 0 0]]),some (15,[(vK a.l a.at_ d c (.msl 2 0 0) (.msl 3 0 0) (bA (G||(!E))))]),some (1,map zn []),some (1,map zn [])]) (zH [.old 0,.old 1,.old 2,.old 3])<|zJ ?_
     refine A ?_
     obtain rfl:=sm h
     exact ⟨_,y,zH [.old 0,.old 1,.old 2,.old 3]⟩
    ·refine zG ?_
     obtain rfl:=sm h
     exact ⟨y,_,y,zH [.old 0,.old 1,.old 2,.old 3]⟩
   ·rintro D rfl
    refine zv ?_
    refine zcX (X:=Bool) (fun z=>[(1,sA d),(3,.mpt 0 0 0),(9,.mpt 1 0 0)]) (fun z=>[some (1,[[.ipt 2 [[.isl 6 (map zc a.l),.imp (map (rKV (fun x=>iA x)) a.at_)]] 0 0]]),some (15,[(vK a.l a.at_ d c (.msl 2 0 0) (.msl 3 0 0) (bA z))]),some (1,map zn []),some (1,map zn [])]) (fun z=>zfM d a c z=some r) ?_ ?_
    ·rcases bb (c.Ret == [86]) with e |e
     ·replace h:=bT e h
      exact rdQ [21] [0,1,2,3,4,5,6,7,8,9,10,11,12,13,14,15,16,17,18,19,20] [(96,_),(95,_),(94,_),(93,_),(92,_),(91,_),(90,_),(89,_),(88,_),(87,_),(86,_),(85,_),(84,_),(83,_),(82,_),(81,_),(80,_),(79,_),(78,_),(77,_),(76,_)] 1 (zgE (z:=by exact ⟨(fun _ _=>⟨_,y,y,sc [1,2,3] (args:=[.mpt 1 0 0,bA true]) (zq a.l a.at_ d c [] [] D true y) y y y y ⟨(.mpt y),(rnI y),t⟩ ⟨⟨_,y,(zyO y ⟨(.msl y),(.msl y),(rnI y),t⟩)⟩,⟨y,mkI (fun _=>y)⟩,⟨y,mkI (fun _=>y)⟩,t⟩<|⟨(.tup []),[],[(97,_)],y,y,y,y,zhx (z:=by exact ⟨(D||(!true)),h,zcs [.old 0,.old 1,.old 2,.old 3]⟩)⟩⟩),t⟩))
     ·replace h:=bF e h
      obtain ⟨C,Z,h⟩:=bs h
      exact zfy [21] [20,19,18,17,16,15,14,13,12,11,10,9,8,7,6,5,4,3,2,1,0] [(96,bA C),(95,bA C),(94,sA c.Ret),(93,.mpt 1 0 4),(92,.mpt 1 0 2),(91,.mpt 1 0 0),(90,.mpt 1 0 0),(89,sA c.Ret),(88,.mpt 1 0 4),(87,.mpt 1 0 2),(86,.mpt 1 0 0),(85,.mpt 1 0 0),(84,.ipt 2 [[.isl 6 (map zc a.l),.imp (map (rKV (fun x=>iA x)) a.at_)]] 0 0),(83,bA (c.Ret == [86])),(82,bA (c.Ret == [86])),(81,sA c.Ret),(80,.mpt 1 0 4),(79,.mpt 1 0 2),(78,.mpt 1 0 0),(77,.mpt 1 0 0),(76,.mpt 1 0 0)] 1 kz kz y kz (zB2 ⟨pe,(fun _=>pag (b:=(c.Ret == [86])) y y y y e y (pc (zc3 a.l a.at_ c.Ret c.Ret Z) y y y<|w)),(fun _=>pag (b:=(c.Ret == [86])) y y y y e y (ld ti y y<|w)),(fun _=>pag (b:=(c.Ret == [86])) y y y y e y (fa ti y y y<|w)),(fun _=>pag (b:=(c.Ret == [86])) y y y y e y (fa ti y y y<|w)),pe,pe,(fun _=>pag (b:=(c.Ret == [86])) y y y y e y (ld ti y y<|w)),(fun _=>pag (b:=(c.Ret == [86])) y y y y e y (fa ti y y y<|w)),(fun _=>pag (b:=(c.Ret == [86])) y y y y e y (fa ti y y y<|w)),pe,pe,(fun _=>pag (b:=(c.Ret == [86])) y y y y e y (ld ti y y<|w)),pe,(pb y (seq ti y y w)),(pb y (ld ti y y w)),(pb y (fa ti y y y w)),(pb y (fa ti y y y w)),pe,pe,pe,t⟩ ⟨(fun _ _=>⟨_,y,y,sc [1,2,3] (args:=[.mpt 1 0 0,bA C]) (zq a.l a.at_ d c [] [] D C y) y y y y ⟨(.mpt y),(rnI y),t⟩ ⟨⟨_,y,(zyO y ⟨(.msl y),(.msl y),(rnI y),t⟩)⟩,⟨y,mkI (fun _=>y)⟩,⟨y,mkI (fun _=>y)⟩,t⟩<|⟨(.tup []),[],[(97,.tup [])],y,y,kz,y,zB1 ⟨pe,pe,(fun _=>pag (b:=(c.Ret == [86])) y y y y e y (ld ti y y<|w)),(fun _=>pag (b:=(c.Ret == [86])) y y y y e y (fa ti y y y<|w)),(fun _=>pag (b:=(c.Ret == [86])) y y y y e y (fa ti y y y<|w)),pe,pe,(fun _=>pag (b:=(c.Ret == [86])) y y y y e y (ld ti y y<|w)),(fun _=>pag (b:=(c.Ret == [86])) y y y y e y (fa ti y y y<|w)),(fun _=>pag (b:=(c.Ret == [86])) y y y y e y (fa ti y y y<|w)),pe,pe,(fun _=>pag (b:=(c.Ret == [86])) y y y y e y (ld ti y y<|w)),pe,(pb y (seq ti y y w)),(pb y (ld ti y y w)),(pb y (fa ti y y y w)),(pb y (fa ti y y y w)),pe,pe,pe,t⟩ ⟨(D||(!C)),h,zH [.old 0,.old 1,.old 2,.old 3]⟩⟩⟩),t⟩)
    ·rintro p h
     obtain ⟨q,q23,h⟩:=bs h
     refine A ?_
     refine u<|pcs (zkY c.Params a.l a.at_ q23) y y (.cons (si y) (.cons (zfx t ⟨(zbY y ⟨(si y),t⟩),t⟩) .nil)) zbQ<|u<|sx [1,2,3] (zq a.l a.at_ d c [] [] p q y)<|zL (env0:=[(1,sA d),(9,.mpt 0 0 0)]) (st0:=[some (15,[(vK a.l a.at_ d c (.msl 1 0 0) (.msl 2 0 0) (bA (p||(!q))))]),some (1,map zn []),some (1,map zn [])]) (zH [.old 1,.old 2,.old 3])<|zJ ?_
     refine zcX (X:=T1) (fun z=>[(9,.mpt 0 0 0)]) (fun z=>[some (15,[(vK a.l a.at_ d c (.msl 1 0 (length z)) (.msl 2 0 0) (bA (p||(!q))))]),some (1,map zn z),some (1,map zn [])]) (fun z=>zfN d a c p q z=some r) ?_ ?_
     ·refine A ?_
      refine zeh h y (fun O h=>?_) fun O h=>?_
      ·obtain ⟨v25,q25,h⟩:=bs h
       refine A ?_
       refine u<|apM 4 ti y ti y y (by decide) ti y y y y (roX (f:=zn) (z:=[d]) y y) (fun _=>y) y q25<|A ?_
       exact (⟨v25,h,zH [.old 0,.old 4,.old 2]⟩)
      ·refine zf ?_
       exact ⟨[],h,zH [.old 0,.old 1,.old 2]⟩
     ·rintro v26 h
      obtain ⟨F,q26,h⟩:=bs h
      refine rdA [(9,_)] [some (15,[(vK a.l a.at_ d c (.msl 1 0 (length F)) (.msl 2 0 0) (bA (p||(!q))))]),some (1,map zn F),some (1,map zn [])] [10,13] [0,1,2,3,4,5,6,7,8,9] [(132,_),(131,_),(130,_),(129,_),(128,_),(127,_),(126,_),(125,_),(124,_),(123,_)] 2 (zgE (z:=by exact ⟨(fun _ _=>⟨_,y,y,apM 3 ti y ti y y (by decide) ti y y y y roI (fun _=>y) y q26<|⟨(.msl 3 0 (length F)),[11,12],[(135,_),(134,_),(133,_)],y,y,y,y,zgE (z:=by exact ⟨nv,(fun _ _=>⟨_,y,y,sto ti y y y<|⟨.any,[],[],y,y,y,t,zhx (z:=zcs [.old 0,.old 3,.old 2])⟩⟩),t⟩)⟩⟩),nw,t⟩)) ?_
      obtain ⟨o,ho,h⟩:=bs h
      refine lpA ho (fun z=>[(9,.mpt 0 0 0)]) (fun z=>[some (15,[(vK a.l a.at_ d c (.msl 1 0 (length z)) (.msl 2 0 0) (bA (p||(!q))))]),some (1,map zn z),some (1,map zn [])]) (fun b=>[(9,.mpt 0 0 0)]) (fun b=>[some (15,[(vK a.l a.at_ d c (.msl 1 0 (length b)) (.msl 2 0 0) (bA (p||(!q))))]),some (1,map zn b),some (1,map zn [])]) (pG Tryz.f118 bA) (zcs [.old 0,.old 1,.old 2]) ?_ ?_
      ·rintro I r h
       refine zh ?_
       refine rdA [(9,_),(146,_)] [some (15,[(vK a.l a.at_ d c (.msl 1 0 (length I)) (.msl 2 0 0) (bA (p||(!q))))]),some (1,map zn I),some (1,map zn [])] [] [0,1,2,3,4,5,6,7,8,9,10] [(146,_),(145,_),(144,_),(143,_),(142,_),(141,_),(140,_),(139,_),(138,_),(137,_),(136,_)] 0 (zhx (z:=zcs [.old 0,.old 1,.old 2])) ?_
       refine zeh h y (fun P h=>?_) fun P h=>?_
       ·refine zf<|zp ?_
        obtain ⟨v31,q30,h⟩:=bs h
        refine A ?_
        refine u<|apM 4 ti y ti y y (by decide) ti y y y y (roX (f:=zn) (z:=[[84]]) y y) (fun _=>y) y q30<|A ?_
        obtain rfl:=sm h
        exact ⟨_,y,zH [.old 0,.old 4,.old 2]⟩
       ·refine zG ?_
        obtain rfl:=sm h
        exact ⟨y,_,y,zH [.old 0,.old 1,.old 2]⟩
      ·rintro v32 rfl
       refine A ?_
       refine zh<|A ?_
       obtain ⟨o,ho,h⟩:=bs h
       refine lpB ho (fun z=>[(9,.mpt 0 0 0),(13,bA z.2.2.2.1),(160,.isl 4 (map zA c.Code)),(161,iA (length c.Code:Int)),(162,iA z.2.2.2.2)]) (fun z=>(sV a.l a.at_ d c z.1 z.2.1 z.2.2.1 [])) (fun b=>[(9,.mpt 0 0 0)]) (fun b=>(sV a.l a.at_ d c b.1 b.2.1 b.2.2 [])) (pG Tryz.f118 bA) (zcs [.old 0,.old 1,.old 2]) ?_ ?_
       ·rintro ⟨v44,v45,v46,v47,s⟩ r h
        refine A ?_
        refine zh ?_
        refine zeh h y (fun Q h=>?_) fun Q h=>?_
        ·refine zf<|zh<|zp ?_
         obtain ⟨n,q40,h⟩:=bs h
         refine A ?_
         obtain ⟨m,q41,h⟩:=bs h
         refine A ?_
         refine u<|sx [0,1,2] (zkN a.l a.at_ d c v44 v45 v46 s v47 q41)<|zL (env0:=[(9,.mpt 0 0 0),(14,iA s),(15,.mpt 3 0 0),(160,.isl 4 (map zA c.Code)),(161,iA (length c.Code:Int)),(162,iA s)]) (st0:=(sV a.l a.at_ d c m.1 m.2.1 m.2.2 [some (4,[(zA n)])])) (zH [.old 0,.old 4,.old 5,.old 3])<|zJ ?_
         refine zh<|A ?_
         refine zeh h y (fun R h=>?_) fun R h=>?_
         ·refine A ?_
          refine zK ?_
          obtain rfl:=sm h
          exact ⟨_,y,_,y,zbG []⟩
         ·refine zf ?_
          obtain ⟨J,q43,h⟩:=bs h
          refine rg y<|u<|mv y<|u<|mv y<|u<|sx [0,1,2] (zkQ a.l a.at_ d c m.1 m.2.1 m.2.2 s q43)<|zL (env0:=[(9,.mpt 0 0 0),(15,.mpt 3 0 0),(160,.isl 4 (map zA c.Code)),(161,iA (length c.Code:Int)),(162,iA s)]) (st0:=(sV a.l a.at_ d c m.1 m.2.1 J [some (4,[(zA n)])])) (zH [.old 0,.old 1,.old 2,.old 3])<|zJ ?_
          obtain ⟨i,q44,h⟩:=bs h
          refine A ?_
          refine u<|sx [0,1,2] (zlR a.l a.at_ d c m.1 m.2.1 J n q44)<|zL (env0:=[(9,.mpt 0 0 0),(15,.mpt 3 0 0),(160,.isl 4 (map zA c.Code)),(161,iA (length c.Code:Int)),(162,iA s)]) (st0:=(sV a.l a.at_ d c i.1 i.2.1 i.2.2 [some (4,[(zA n)])])) (zH [.old 0,.old 4,.old 5,.old 3])<|zJ ?_
          refine zcX (X:=Bool) (fun z=>[(9,.mpt 0 0 0),(15,.mpt 3 0 0),(160,.isl 4 (map zA c.Code)),(161,iA (length c.Code:Int)),(162,iA s)]) (fun z=>(sV a.l a.at_ d c i.1 i.2.1 z [some (4,[(zA n)])])) (fun z=>zeF c s n i z=some r) ?_ ?_
          ·refine A ?_
           refine zeh h y (fun S h=>?_) fun S h=>?_
           ·obtain ⟨K,q46,h⟩:=bs h
            refine zqW [(9,_),(15,_),(160,_),(161,_),(162,_)] (sV a.l a.at_ d c i.1 i.2.1 K [some (4,[(zA n)])]) [7] [0,1,2,3,4,5,6] [(190,_),(189,_),(188,_),(187,_),(186,_),(185,_),(184,_)] 1 (zgE (z:=by exact ⟨(fun _ _=>⟨_,y,y,sx [0,1,2] (zhE a.l a.at_ d c i.1 i.2.1 i.2.2 n.A q46)<|⟨(.tup []),[],[(191,_)],y,y,y,y,zhx (z:=zcs [.old 0,.old 1,.old 2,.old 3])⟩⟩),t⟩)) ?_
            exact ⟨K,h,zH [.old 0,.old 1,.old 2,.old 3]⟩
           ·refine zf ?_
            exact ⟨i.2.2,h,zH [.old 0,.old 1,.old 2,.old 3]⟩
          ·rintro L h
           refine rdA [(9,_),(15,_),(160,_),(161,_),(162,_)] (sV a.l a.at_ d c i.1 i.2.1 (L||(!(decide (((length i.2.1):Int)≤c.Stack)))) [some (4,[(zA n)])]) [12] [0,1,2,3,4,5,6,7,8,9,10,11] [(203,_),(202,_),(201,_),(200,_),(199,_),(198,_),(197,_),(196,_),(195,_),(194,_),(193,_),(192,_)] 1 (zgE (z:=by exact ⟨(fun _ _=>⟨_,y,y,sx [0,1,2] (zq a.l a.at_ d c i.1 i.2.1 L (decide (((length i.2.1):Int)≤c.Stack)) y)<|⟨(.tup []),[],[(204,_)],y,y,y,y,zhx (z:=zcs [.old 0,.old 1,.old 2,.old 3])⟩⟩),t⟩)) ?_
           refine A ?_
           refine A ?_
           obtain rfl:=sm h
           exact ⟨_,y,zH [.old 0,.old 1,.old 2]⟩
        ·refine zG ?_
         obtain rfl:=sm h
         exact ⟨y,_,y,zH [.old 0,.old 1,.old 2]⟩
       ·rintro ⟨v55,v56,v57⟩ rfl
        refine zv<|A ?_
        exact RT0
instance (a:Option zr)(b:T0)(c:Int):PF Tryz.prog 118 [zkD 2 zaZ a,sA b,iA c] (zbT a b c) bA:=⟨fun _=>zcV a b c⟩
def zph(a:(Option zr)×Int):Option ((Option zr)×Int):=
  some (a.1,0)
def zlk(a:Int):Option (Sum (Int) (Sum (Unit) ((Option zr)×Int))):=
  some (.inl (IntKind.i64.wrap (a+1)))
def zfd(f:(Option zr)×Int)(b:za)(a:Int):Option (Sum (Int) (Sum (Unit) ((Option zr)×Int))):=
  cond (decide (a<(length b.Methods:Int))) ((idx b.Methods a).bind fun c=>(cond (!c.Abstract) ((zbT f.1 b.Name a).bind fun d=>some (!d)) (some false)).bind fun e=>cond e (some (.inr (.inr (none,5)))) (some (.inl (IntKind.i64.wrap (a+1))))) (some (.inr (.inl ())))
def zfe(c:List za)(e:(Option zr)×Int)(a:Int):Option (Sum (Int) (Sum (Unit) ((Option zr)×Int))):=
  cond (decide (a<(length c:Int))) ((idx c a).bind fun d=>(zm (fun z=>zfd e d z) 0).bind fun o=>zI o (fun b=>zlk a) (fun r=>some (.inr (.inr r)))) (some (.inr (.inl ())))
def zeI(d:List za)(e:zaM):Option ((Option zr)×Int):=
  (zkp d).bind fun a=>cond (!(a.2 == (0:Int))) (some (none,a.2)) ((zfB a.1).bind fun f=>cond (!(f == (0:Int))) (some (none,f)) ((zi3 a.1 e.C e.M).bind fun c=>cond ((((!c.2.2)||(!c.2.1.Static))||(decide (0<(length c.2.1.Params:Int))))||(!(c.2.1.Ret == [86]))) (some (none,4)) ((zm (fun z=>zfe d a z) 0).bind fun o=>zI o (fun b=>zph a) some)))
theorem zff(d:List za)(i:zaM){r:(Option zr)×Int}(h:zeI d i=some r):zaj Tryz.prog 42 [.isl 6 (map zc d),.agg (zfK i)] (.tup [zkD 2 zaZ r.1,iA r.2]):=by
 refine zj Tryz.func42 y kz y (zBg (zwX (zp6 (fun _=>y)) (y))) ?_
 refine A ?_
 obtain ⟨e,L,h⟩:=bs h
 refine A ?_
 refine zh<|A ?_
 refine zeh h y (fun q h=>?_) fun q h=>?_
 ·refine A ?_
  exact RT0
 ·refine zf<|zh ?_
  obtain ⟨N,F,h⟩:=bs h
  refine rg y<|u<|mv y<|u<|pc (ziq e.1 F) y y (zwX (zp6 (fun _=>y)) (y))<|A ?_
  refine A ?_
  refine zeh h y (fun s h=>?_) fun s h=>?_
  ·refine A ?_
   exact RT0
  ·refine zf<|zh ?_
   obtain ⟨O,G,h⟩:=bs h
   refine A ?_
   refine u<|pc (zmy e.1 i.C i.M G) y y (zwX (zp6 (fun _=>y)) (y))<|A ?_
   refine A ?_
   refine zeh h y (fun v h=>?_) fun v h=>?_
   ·refine A ?_
    exact RT0
   ·refine zf<|zh<|A ?_
    obtain ⟨o,ho,h⟩:=bs h
    refine lpB ho (fun z=>[(6,zkD 2 zaZ e.1),(57,.isl 6 (map zc d)),(58,iA (length d:Int)),(59,iA z)]) (fun z=>[]) (fun b=>[(6,zkD 2 zaZ e.1)]) (fun b=>[]) (pG Tryz.f42 (fun r=>.tup [zkD 2 zaZ r.1,iA r.2])) (zcs []) ?_ ?_
    ·rintro l r h
     refine A ?_
     refine zh ?_
     refine zeh h y (fun m h=>?_) fun m h=>?_
     ·refine zf<|zh<|zp ?_
      obtain ⟨f,H,h⟩:=bs h
      refine A ?_
      refine A ?_
      obtain ⟨o,ho,h⟩:=bs h
      refine lpS ho (fun z=>[(6,zkD 2 zaZ e.1),(13,.mpt 0 0 0),(57,.isl 6 (map zc d)),(58,iA (length d:Int)),(59,iA l),(64,.isl 10 (map zd f.Methods)),(65,iA (length f.Methods:Int)),(66,iA z)]) (fun z=>[some (6,[(zc f)])]) (fun b=>[(6,zkD 2 zaZ e.1),(57,.isl 6 (map zc d)),(58,iA (length d:Int)),(59,iA l)]) (fun b=>[]) (pG Tryz.f42 (fun r=>.tup [zkD 2 zaZ r.1,iA r.2])) (zcs [.old 0]) ?_ ?_ ?_
      ·rintro B r h
       refine A ?_
       refine zh ?_
       refine zeh h y (fun n h=>?_) fun n h=>?_
       ·refine zf<|zh<|zp ?_
        obtain ⟨I,J,h⟩:=bs h
        refine A ?_
        obtain ⟨D,c,h⟩:=bs h
        refine A ?_
        refine zik (x:=D) (j:=3) 6 y y y y y gpn (fun a=>by replace c:=bT a c;obtain ⟨K,E,c⟩:=bs c;obtain rfl:=sm c;exact g y a<|mv y<|g y a<|fa ti y y y<|g y a<|ld ti y y<|g y a<|mv y<|g y a<|pc (zcV e.1 f.Name B E) y y (zwX (zp6 (fun _=>y)) (y))<|g y a<|nt y<|zJ (eg [75,76,77,78,79,80] 6 y y y y)) (fun hb=>(sm (bF hb c)).symm)<|zJ ?_
        refine zeh h y (fun p h=>?_) fun p h=>?_
        ·refine A ?_
         refine zK ?_
         obtain rfl:=sm h
         exact ⟨_,y,_,y,zbG []⟩
        ·refine zf<|A ?_
         obtain rfl:=sm h
         exact ⟨_,y,zH [.old 0]⟩
       ·refine zG ?_
        obtain rfl:=sm h
        exact ⟨y,_,y,zH []⟩
      ·rintro ⟨⟩ rfl
       refine zv<|A ?_
       obtain rfl:=sm h
       exact ⟨_,y,zH []⟩
      ·rintro r' rfl env st hp
       obtain rfl:=sm h
       exact ⟨_,y,hp⟩
     ·refine zG ?_
      obtain rfl:=sm h
      exact ⟨y,_,y,zH []⟩
    ·rintro ⟨⟩ rfl
     refine zv<|A ?_
     exact RT0
instance (a:List za)(b:zaM):PF Tryz.prog 42 [.isl 6 (map zc a),.agg (zfK b)] (zeI a b) (fun r=>(.tup [zkD 2 zaZ r.1,iA r.2])):=⟨fun _=>zff a b⟩
def zl2:Bool:=
  true
theorem znF{r:Bool}(h:zl2=r):zaj Tryz.prog 117 [] (bA r):=by
 refine zj Tryz.func117 y kz y y ?_
 unfold zl2 at h
 refine A ?_
 refine rg y<|u<|pc (zrA y) y y y<|u<|asg y<|zJ ?_
 refine zK ?_
 obtain rfl:=h
 exact ⟨_,y,zbG []⟩
instance:PF Tryz.prog 117 [] (some (zl2)) bA:=.of fun _=>znF 
def zm1:Option (Bool):=
  (zkp ([(za.mk [70,97,99,101] [79,98,106,101,99,116] true [] [] ([(zb.mk [102] [] [73] false true 0 0 [] [] [])])),(za.mk [65,97] [79,98,106,101,99,116] false ([[70,97,99,101]]) ([(zi.mk [120] [73] false),(zi.mk [115] [73] true)]) ([(zb.mk [102] [] [73] false false 1 1 ([(zl.mk 1 5 [] []),(zl.mk 47 0 [] [])]) [] [])])),(za.mk [66,98] [65,97] false [] ([(zi.mk [121] [91,65,97] false)]) ([(zb.mk [109,97,105,110] [] [86] true false 0 0 ([(zl.mk 46 0 [] [])]) [] [])]))])).bind fun a=>(zkp ([(za.mk [70,97,99,101] [79,98,106,101,99,116] true [] [] ([(zb.mk [102] [] [73] false true 0 0 [] [] [])])),(za.mk [65,97] [79,98,106,101,99,116] false ([[70,97,99,101]]) ([(zi.mk [120] [73] false),(zi.mk [115] [73] true)]) ([(zb.mk [102] [] [73] false false 1 1 ([(zl.mk 2 0 [] []),(zl.mk 47 0 [] [])]) [] [])])),(za.mk [66,98] [65,97] false [] ([(zi.mk [121] [91,65,97] false)]) ([(zb.mk [109,97,105,110] [] [86] true false 0 0 ([(zl.mk 46 0 [] [])]) [] [])]))])).bind fun b=>cond ((!(a.2 == (0:Int)))||(!(b.2 == (0:Int)))) (some false) ((cond (zl2) ((zbT a.1 [65,97] 0).bind fun j=>some j) (some false)).bind fun l=>(cond l ((zbT a.1 [66,98] 0).bind fun m=>some m) (some false)).bind fun n=>(cond n ((zbT b.1 [65,97] 0).bind fun o=>some (!o)) (some false)).bind fun p=>(cond p ((zbT a.1 [70,97,99,101] 0).bind fun q=>some (!q)) (some false)).bind fun c=>(cond c ((zbT a.1 [65,97] 1).bind fun d=>some (!d)) (some false)).bind fun e=>(cond e ((zbT a.1 [90,122] 0).bind fun f=>some (!f)) (some false)).bind fun i=>some i)
theorem zqe{r:Bool}(h:zm1=some r):zaj Tryz.prog 34 [] (bA r):=by
 refine zj Tryz.func34 y kz y y<|A ?_
 obtain ⟨f,H,h⟩:=bs h
 refine rg y<|u<|sx [] (zhN y)<|zL (env0:=[(7,.msl 0 0 3)]) (st0:=[some (6,[[sA [70,97,99,101],sA [79,98,106,101,99,116],bA true,.lit (.slice none 0 0),.lit (.slice none 0 0),.msl 1 0 1],[sA [65,97],sA [79,98,106,101,99,116],bA false,.msl 2 0 1,.msl 3 0 2,.msl 4 0 1],[sA [66,98],sA [65,97],bA false,.lit (.slice none 0 0),.msl 6 0 1,.msl 7 0 1]]),some (10,[[sA [102],.lit (.slice none 0 0),sA [73],bA false,bA true,iA 0,iA 0,.lit (.slice none 0 0),.lit (.slice none 0 0),.lit (.slice none 0 0)]]),some (1,[[sA [70,97,99,101]]]),some (3,[[sA [120],sA [73],bA false],[sA [115],sA [73],bA true]]),some (10,[[sA [102],.lit (.slice none 0 0),sA [73],bA false,bA false,iA 1,iA 1,.msl 5 0 2,.lit (.slice none 0 0),.lit (.slice none 0 0)]]),some (4,[[iA 1,iA 5,sA [],sA []],[iA 47,iA 0,sA [],sA []]]),some (3,[[sA [121],sA [91,65,97],bA false]]),some (10,[[sA [109,97,105,110],.lit (.slice none 0 0),sA [86],bA true,bA false,iA 0,iA 0,.msl 8 0 1,.lit (.slice none 0 0),.lit (.slice none 0 0)]]),some (4,[[iA 46,iA 0,sA [],sA []]])]) (zH [.old 0,.old 1,.old 2,.old 3,.old 4,.old 5,.old 6,.old 7,.old 8])<|zL (env0:=[(7,.isl 6 (map zc ([(za.mk [70,97,99,101] [79,98,106,101,99,116] true [] [] ([(zb.mk [102] [] [73] false true 0 0 [] [] [])])),(za.mk [65,97] [79,98,106,101,99,116] false ([[70,97,99,101]]) ([(zi.mk [120] [73] false),(zi.mk [115] [73] true)]) ([(zb.mk [102] [] [73] false false 1 1 ([(zl.mk 1 5 [] []),(zl.mk 47 0 [] [])]) [] [])])),(za.mk [66,98] [65,97] false [] ([(zi.mk [121] [91,65,97] false)]) ([(zb.mk [109,97,105,110] [] [86] true false 0 0 ([(zl.mk 46 0 [] [])]) [] [])]))])))]) (st0:=[]) (zH [])<|u<|pc (zmX ([(za.mk [70,97,99,101] [79,98,106,101,99,116] true [] [] ([(zb.mk [102] [] [73] false true 0 0 [] [] [])])),(za.mk [65,97] [79,98,106,101,99,116] false ([[70,97,99,101]]) ([(zi.mk [120] [73] false),(zi.mk [115] [73] true)]) ([(zb.mk [102] [] [73] false false 1 1 ([(zl.mk 1 5 [] []),(zl.mk 47 0 [] [])]) [] [])])),(za.mk [66,98] [65,97] false [] ([(zi.mk [121] [91,65,97] false)]) ([(zb.mk [109,97,105,110] [] [86] true false 0 0 ([(zl.mk 46 0 [] [])]) [] [])]))]) H) y y y<|A ?_
 refine rg y<|u<|sx [] (zhN y)<|zL (env0:=[(1,zkD 2 zaZ f.1),(2,iA f.2),(11,.msl 0 0 3)]) (st0:=[some (6,[[sA [70,97,99,101],sA [79,98,106,101,99,116],bA true,.lit (.slice none 0 0),.lit (.slice none 0 0),.msl 1 0 1],[sA [65,97],sA [79,98,106,101,99,116],bA false,.msl 2 0 1,.msl 3 0 2,.msl 4 0 1],[sA [66,98],sA [65,97],bA false,.lit (.slice none 0 0),.msl 6 0 1,.msl 7 0 1]]),some (10,[[sA [102],.lit (.slice none 0 0),sA [73],bA false,bA true,iA 0,iA 0,.lit (.slice none 0 0),.lit (.slice none 0 0),.lit (.slice none 0 0)]]),some (1,[[sA [70,97,99,101]]]),some (3,[[sA [120],sA [73],bA false],[sA [115],sA [73],bA true]]),some (10,[[sA [102],.lit (.slice none 0 0),sA [73],bA false,bA false,iA 1,iA 1,.msl 5 0 2,.lit (.slice none 0 0),.lit (.slice none 0 0)]]),some (4,[[iA 1,iA 5,sA [],sA []],[iA 47,iA 0,sA [],sA []]]),some (3,[[sA [121],sA [91,65,97],bA false]]),some (10,[[sA [109,97,105,110],.lit (.slice none 0 0),sA [86],bA true,bA false,iA 0,iA 0,.msl 8 0 1,.lit (.slice none 0 0),.lit (.slice none 0 0)]]),some (4,[[iA 46,iA 0,sA [],sA []]])]) (zH [.old 0,.old 1,.old 2,.old 3,.old 4,.old 5,.old 6,.old 7,.old 8])<|A ?_
 refine rg y<|u<|mv y<|u<|ixX ti y ti y y y<|A ?_
 refine u<|ixX ti y ti y y y<|A ?_
 refine u<|ixX ti y ti y y y<|A ?_
 obtain ⟨I,J,h⟩:=bs h
 refine rg y<|u<|mv y<|zL (env0:=[(1,zkD 2 zaZ f.1),(2,iA f.2),(22,.isl 6 (map zc ([(za.mk [70,97,99,101] [79,98,106,101,99,116] true [] [] ([(zb.mk [102] [] [73] false true 0 0 [] [] [])])),(za.mk [65,97] [79,98,106,101,99,116] false ([[70,97,99,101]]) ([(zi.mk [120] [73] false),(zi.mk [115] [73] true)]) ([(zb.mk [102] [] [73] false false 1 1 ([(zl.mk 2 0 [] []),(zl.mk 47 0 [] [])]) [] [])])),(za.mk [66,98] [65,97] false [] ([(zi.mk [121] [91,65,97] false)]) ([(zb.mk [109,97,105,110] [] [86] true false 0 0 ([(zl.mk 46 0 [] [])]) [] [])]))])))]) (st0:=[]) (zH [])<|u<|pc (zmX ([(za.mk [70,97,99,101] [79,98,106,101,99,116] true [] [] ([(zb.mk [102] [] [73] false true 0 0 [] [] [])])),(za.mk [65,97] [79,98,106,101,99,116] false ([[70,97,99,101]]) ([(zi.mk [120] [73] false),(zi.mk [115] [73] true)]) ([(zb.mk [102] [] [73] false false 1 1 ([(zl.mk 2 0 [] []),(zl.mk 47 0 [] [])]) [] [])])),(za.mk [66,98] [65,97] false [] ([(zi.mk [121] [91,65,97] false)]) ([(zb.mk [109,97,105,110] [] [86] true false 0 0 ([(zl.mk 46 0 [] [])]) [] [])]))]) J) y y y<|A ?_
 refine zh<|A ?_
 refine zeh h y (fun s h=>?_) fun s h=>?_
 ·refine A ?_
  exact RT0
 ·refine zf ?_
  obtain ⟨K,o,L,a,M,b,v,c,h⟩:=bs4 h
  obtain ⟨B,d,C,e,h⟩:=bs2 h
  refine rg y<|u<|pc (znF y) y y y<|u<|mv y<|zik (x:=K) (j:=1) 2 y y y y y gpn (fun p=>by replace o:=bT p o;obtain ⟨R,N,o⟩:=bs o;obtain rfl:=sm o;exact g y p<|mv y<|g y p<|pc (zcV f.1 [65,97] 0 N) y y (zwX (zp6 (fun _=>y)) (y))<|zJ (eg [34,35] 2 y y y y)) (fun hb=>(sm (bF hb o)).symm)<|u<|mv y<|zik (x:=L) (j:=5) 2 y y y y y gpn (fun q=>by replace a:=bT q a;obtain ⟨S,O,a⟩:=bs a;obtain rfl:=sm a;exact g y q<|mv y<|g y q<|pc (zcV f.1 [66,98] 0 O) y y (zwX (zp6 (fun _=>y)) (y))<|zJ (eg [38,39] 2 y y y y)) (fun hb=>(sm (bF hb a)).symm)<|u<|mv y<|zik (x:=M) (j:=9) 3 y y y y y gpn (fun i=>by replace b:=bT i b;obtain ⟨T,D,b⟩:=bs b;obtain rfl:=sm b;exact g y i<|mv y<|g y i<|pc (zcV I.1 [65,97] 0 D) y y (zwX (zp6 (fun _=>y)) (y))<|g y i<|nt y<|zJ (eg [42,43,44] 3 y y y y)) (fun hb=>(sm (bF hb b)).symm)<|u<|mv y<|zik (x:=v) (j:=14) 3 y y y y y gpn (fun l=>by replace c:=bT l c;obtain ⟨U,E,c⟩:=bs c;obtain rfl:=sm c;exact g y l<|mv y<|g y l<|pc (zcV f.1 [70,97,99,101] 0 E) y y (zwX (zp6 (fun _=>y)) (y))<|g y l<|nt y<|zJ (eg [47,48,49] 3 y y y y)) (fun hb=>(sm (bF hb c)).symm)<|u<|mv y<|zik (x:=B) (j:=19) 3 y y y y y gpn (fun m=>by replace d:=bT m d;obtain ⟨P,F,d⟩:=bs d;obtain rfl:=sm d;exact g y m<|mv y<|g y m<|pc (zcV f.1 [65,97] 1 F) y y (zwX (zp6 (fun _=>y)) (y))<|g y m<|nt y<|zJ (eg [52,53,54] 3 y y y y)) (fun hb=>(sm (bF hb d)).symm)<|u<|mv y<|zik (x:=C) (j:=24) 3 y y y y y gpn (fun n=>by replace e:=bT n e;obtain ⟨Q,G,e⟩:=bs e;obtain rfl:=sm e;exact g y n<|mv y<|g y n<|pc (zcV f.1 [90,122] 0 G) y y (zwX (zp6 (fun _=>y)) (y))<|g y n<|nt y<|zJ (eg [57,58,59] 3 y y y y)) (fun hb=>(sm (bF hb e)).symm)<|u<|asg y<|zJ ?_
  exact RT0
instance:PF Tryz.prog 34 [] (zm1) bA:=⟨fun _=>zqe ⟩
def zm0:Option (Bool):=
  (zm1).bind fun a=>some a
theorem zqd{r:Bool}(h:zm0=some r):zaj Tryz.prog 120 [] (bA r):=by
 refine zj Tryz.func120 y kz y y<|A ?_
 obtain ⟨a,b,h⟩:=bs h
 refine A ?_
 exact RT0
instance:PF Tryz.prog 120 [] (zm0) bA:=⟨fun _=>zqd ⟩
def zm3:Option (Bool):=
  (zeI ([(za.mk [70,97,99,101] [79,98,106,101,99,116] true [] [] ([(zb.mk [102] [] [73] false true 0 0 [] [] [])])),(za.mk [65,97] [79,98,106,101,99,116] false ([[70,97,99,101]]) ([(zi.mk [120] [73] false),(zi.mk [115] [73] true)]) ([(zb.mk [102] [] [73] false false 1 1 ([(zl.mk 1 5 [] []),(zl.mk 47 0 [] [])]) [] [])])),(za.mk [66,98] [65,97] false [] ([(zi.mk [121] [91,65,97] false)]) ([(zb.mk [109,97,105,110] [] [86] true false 0 0 ([(zl.mk 46 0 [] [])]) [] [])]))]) (zaM.mk [66,98] [109,97,105,110])).bind fun a=>(zeI ([(za.mk [70,97,99,101] [79,98,106,101,99,116] true [] [] ([(zb.mk [102] [] [73] false true 0 0 [] [] [])])),(za.mk [65,97] [79,98,106,101,99,116] false ([[70,97,99,101]]) ([(zi.mk [120] [73] false),(zi.mk [115] [73] true)]) ([(zb.mk [102] [] [73] false false 1 1 ([(zl.mk 1 5 [] []),(zl.mk 47 0 [] [])]) [] [])])),(za.mk [66,98] [65,97] false [] ([(zi.mk [121] [91,65,97] false)]) ([(zb.mk [109,97,105,110] [] [86] true false 0 0 ([(zl.mk 46 0 [] [])]) [] [])]))]) (zaM.mk [66,98] [102])).bind fun b=>(zeI ([(za.mk [70,97,99,101] [79,98,106,101,99,116] true [] [] ([(zb.mk [102] [] [73] false true 0 0 [] [] [])])),(za.mk [65,97] [79,98,106,101,99,116] false ([[70,97,99,101]]) ([(zi.mk [120] [73] false),(zi.mk [115] [73] true)]) []),(za.mk [66,98] [65,97] false [] ([(zi.mk [121] [91,65,97] false)]) ([(zb.mk [109,97,105,110] [] [86] true false 0 0 ([(zl.mk 46 0 [] [])]) [] [])]))]) (zaM.mk [66,98] [109,97,105,110])).bind fun c=>(zm0).bind fun d=>(cond ((((d&&(a.2 == (0:Int)))&&(!Option.isNone a.1))&&(b.2 == (4:Int)))&&(c.2 == (1:Int))) ((zfB a.1).bind fun e=>some (e == (0:Int))) (some false)).bind fun f=>some f
theorem zqf{r:Bool}(h:zm3=some r):zaj Tryz.prog 36 [] (bA r):=by
 refine zj Tryz.func36 y kz y y<|A ?_
 obtain ⟨b,i,h⟩:=bs h
 refine rg y<|u<|sx [] (zhN y)<|zL (env0:=[(9,.msl 0 0 3)]) (st0:=[some (6,[[sA [70,97,99,101],sA [79,98,106,101,99,116],bA true,.lit (.slice none 0 0),.lit (.slice none 0 0),.msl 1 0 1],[sA [65,97],sA [79,98,106,101,99,116],bA false,.msl 2 0 1,.msl 3 0 2,.msl 4 0 1],[sA [66,98],sA [65,97],bA false,.lit (.slice none 0 0),.msl 6 0 1,.msl 7 0 1]]),some (10,[[sA [102],.lit (.slice none 0 0),sA [73],bA false,bA true,iA 0,iA 0,.lit (.slice none 0 0),.lit (.slice none 0 0),.lit (.slice none 0 0)]]),some (1,[[sA [70,97,99,101]]]),some (3,[[sA [120],sA [73],bA false],[sA [115],sA [73],bA true]]),some (10,[[sA [102],.lit (.slice none 0 0),sA [73],bA false,bA false,iA 1,iA 1,.msl 5 0 2,.lit (.slice none 0 0),.lit (.slice none 0 0)]]),some (4,[[iA 1,iA 5,sA [],sA []],[iA 47,iA 0,sA [],sA []]]),some (3,[[sA [121],sA [91,65,97],bA false]]),some (10,[[sA [109,97,105,110],.lit (.slice none 0 0),sA [86],bA true,bA false,iA 0,iA 0,.msl 8 0 1,.lit (.slice none 0 0),.lit (.slice none 0 0)]]),some (4,[[iA 46,iA 0,sA [],sA []]])]) (zH [.old 0,.old 1,.old 2,.old 3,.old 4,.old 5,.old 6,.old 7,.old 8])<|u<|bd ti y y y<|zL (env0:=[(9,.isl 6 (map zc ([(za.mk [70,97,99,101] [79,98,106,101,99,116] true [] [] ([(zb.mk [102] [] [73] false true 0 0 [] [] [])])),(za.mk [65,97] [79,98,106,101,99,116] false ([[70,97,99,101]]) ([(zi.mk [120] [73] false),(zi.mk [115] [73] true)]) ([(zb.mk [102] [] [73] false false 1 1 ([(zl.mk 1 5 [] []),(zl.mk 47 0 [] [])]) [] [])])),(za.mk [66,98] [65,97] false [] ([(zi.mk [121] [91,65,97] false)]) ([(zb.mk [109,97,105,110] [] [86] true false 0 0 ([(zl.mk 46 0 [] [])]) [] [])]))]))),(10,.agg [sA [66,98],sA [109,97,105,110]])]) (st0:=[]) (zH [])<|u<|pc (zff ([(za.mk [70,97,99,101] [79,98,106,101,99,116] true [] [] ([(zb.mk [102] [] [73] false true 0 0 [] [] [])])),(za.mk [65,97] [79,98,106,101,99,116] false ([[70,97,99,101]]) ([(zi.mk [120] [73] false),(zi.mk [115] [73] true)]) ([(zb.mk [102] [] [73] false false 1 1 ([(zl.mk 1 5 [] []),(zl.mk 47 0 [] [])]) [] [])])),(za.mk [66,98] [65,97] false [] ([(zi.mk [121] [91,65,97] false)]) ([(zb.mk [109,97,105,110] [] [86] true false 0 0 ([(zl.mk 46 0 [] [])]) [] [])]))]) (zaM.mk [66,98] [109,97,105,110]) i) y y y<|A ?_
 obtain ⟨e,l,h⟩:=bs h
 refine rg y<|u<|sx [] (zhN y)<|zL (env0:=[(1,zkD 2 zaZ b.1),(2,iA b.2),(15,.msl 0 0 3)]) (st0:=[some (6,[[sA [70,97,99,101],sA [79,98,106,101,99,116],bA true,.lit (.slice none 0 0),.lit (.slice none 0 0),.msl 1 0 1],[sA [65,97],sA [79,98,106,101,99,116],bA false,.msl 2 0 1,.msl 3 0 2,.msl 4 0 1],[sA [66,98],sA [65,97],bA false,.lit (.slice none 0 0),.msl 6 0 1,.msl 7 0 1]]),some (10,[[sA [102],.lit (.slice none 0 0),sA [73],bA false,bA true,iA 0,iA 0,.lit (.slice none 0 0),.lit (.slice none 0 0),.lit (.slice none 0 0)]]),some (1,[[sA [70,97,99,101]]]),some (3,[[sA [120],sA [73],bA false],[sA [115],sA [73],bA true]]),some (10,[[sA [102],.lit (.slice none 0 0),sA [73],bA false,bA false,iA 1,iA 1,.msl 5 0 2,.lit (.slice none 0 0),.lit (.slice none 0 0)]]),some (4,[[iA 1,iA 5,sA [],sA []],[iA 47,iA 0,sA [],sA []]]),some (3,[[sA [121],sA [91,65,97],bA false]]),some (10,[[sA [109,97,105,110],.lit (.slice none 0 0),sA [86],bA true,bA false,iA 0,iA 0,.msl 8 0 1,.lit (.slice none 0 0),.lit (.slice none 0 0)]]),some (4,[[iA 46,iA 0,sA [],sA []]])]) (zH [.old 0,.old 1,.old 2,.old 3,.old 4,.old 5,.old 6,.old 7,.old 8])<|u<|bd ti y y y<|zL (env0:=[(1,zkD 2 zaZ b.1),(2,iA b.2),(15,.isl 6 (map zc ([(za.mk [70,97,99,101] [79,98,106,101,99,116] true [] [] ([(zb.mk [102] [] [73] false true 0 0 [] [] [])])),(za.mk [65,97] [79,98,106,101,99,116] false ([[70,97,99,101]]) ([(zi.mk [120] [73] false),(zi.mk [115] [73] true)]) ([(zb.mk [102] [] [73] false false 1 1 ([(zl.mk 1 5 [] []),(zl.mk 47 0 [] [])]) [] [])])),(za.mk [66,98] [65,97] false [] ([(zi.mk [121] [91,65,97] false)]) ([(zb.mk [109,97,105,110] [] [86] true false 0 0 ([(zl.mk 46 0 [] [])]) [] [])]))]))),(16,.agg [sA [66,98],sA [102]])]) (st0:=[]) (zH [])<|u<|pc (zff ([(za.mk [70,97,99,101] [79,98,106,101,99,116] true [] [] ([(zb.mk [102] [] [73] false true 0 0 [] [] [])])),(za.mk [65,97] [79,98,106,101,99,116] false ([[70,97,99,101]]) ([(zi.mk [120] [73] false),(zi.mk [115] [73] true)]) ([(zb.mk [102] [] [73] false false 1 1 ([(zl.mk 1 5 [] []),(zl.mk 47 0 [] [])]) [] [])])),(za.mk [66,98] [65,97] false [] ([(zi.mk [121] [91,65,97] false)]) ([(zb.mk [109,97,105,110] [] [86] true false 0 0 ([(zl.mk 46 0 [] [])]) [] [])]))]) (zaM.mk [66,98] [102]) l) y y y<|A ?_
 refine rg y<|u<|sx [] (zhN y)<|zL (env0:=[(1,zkD 2 zaZ b.1),(2,iA b.2),(4,iA e.2),(20,.msl 0 0 3)]) (st0:=[some (6,[[sA [70,97,99,101],sA [79,98,106,101,99,116],bA true,.lit (.slice none 0 0),.lit (.slice none 0 0),.msl 1 0 1],[sA [65,97],sA [79,98,106,101,99,116],bA false,.msl 2 0 1,.msl 3 0 2,.msl 4 0 1],[sA [66,98],sA [65,97],bA false,.lit (.slice none 0 0),.msl 6 0 1,.msl 7 0 1]]),some (10,[[sA [102],.lit (.slice none 0 0),sA [73],bA false,bA true,iA 0,iA 0,.lit (.slice none 0 0),.lit (.slice none 0 0),.lit (.slice none 0 0)]]),some (1,[[sA [70,97,99,101]]]),some (3,[[sA [120],sA [73],bA false],[sA [115],sA [73],bA true]]),some (10,[[sA [102],.lit (.slice none 0 0),sA [73],bA false,bA false,iA 1,iA 1,.msl 5 0 2,.lit (.slice none 0 0),.lit (.slice none 0 0)]]),some (4,[[iA 1,iA 5,sA [],sA []],[iA 47,iA 0,sA [],sA []]]),some (3,[[sA [121],sA [91,65,97],bA false]]),some (10,[[sA [109,97,105,110],.lit (.slice none 0 0),sA [86],bA true,bA false,iA 0,iA 0,.msl 8 0 1,.lit (.slice none 0 0),.lit (.slice none 0 0)]]),some (4,[[iA 46,iA 0,sA [],sA []]])]) (zH [.old 0,.old 1,.old 2,.old 3,.old 4,.old 5,.old 6,.old 7,.old 8])<|A ?_
 refine rg y<|u<|mv y<|u<|ixX ti y ti y y y<|A ?_
 obtain ⟨o,m,h⟩:=bs h
 refine A ?_
 refine zL (env0:=[(1,zkD 2 zaZ b.1),(2,iA b.2),(4,iA e.2),(25,.isl 6 (map zc ([(za.mk [70,97,99,101] [79,98,106,101,99,116] true [] [] ([(zb.mk [102] [] [73] false true 0 0 [] [] [])])),(za.mk [65,97] [79,98,106,101,99,116] false ([[70,97,99,101]]) ([(zi.mk [120] [73] false),(zi.mk [115] [73] true)]) []),(za.mk [66,98] [65,97] false [] ([(zi.mk [121] [91,65,97] false)]) ([(zb.mk [109,97,105,110] [] [86] true false 0 0 ([(zl.mk 46 0 [] [])]) [] [])]))]))),(26,.agg [sA [66,98],sA [109,97,105,110]])]) (st0:=[]) (zH [])<|u<|pc (zff ([(za.mk [70,97,99,101] [79,98,106,101,99,116] true [] [] ([(zb.mk [102] [] [73] false true 0 0 [] [] [])])),(za.mk [65,97] [79,98,106,101,99,116] false ([[70,97,99,101]]) ([(zi.mk [120] [73] false),(zi.mk [115] [73] true)]) []),(za.mk [66,98] [65,97] false [] ([(zi.mk [121] [91,65,97] false)]) ([(zb.mk [109,97,105,110] [] [86] true false 0 0 ([(zl.mk 46 0 [] [])]) [] [])]))]) (zaM.mk [66,98] [109,97,105,110]) m) y y y<|A ?_
 obtain ⟨p,q,n,a,h⟩:=bs2 h
 refine A ?_
 refine zik (j:=5) 2 y y y y y gpn (fun d=>g y d<|mv y<|g y d<|zEU ti y y y<|zJ (egA [36,37] 2 d y y y y)) zEx<|A ?_
 refine zik (x:=n) (j:=17) 3 y y y y y gpn (fun c=>by replace a:=bT c a;obtain ⟨s,f,a⟩:=bs a;obtain rfl:=sm a;exact g y c<|mv y<|g y c<|pc (ziq b.1 f) y y (zwX (zp6 (fun _=>y)) (y))<|g y c<|eql ti y y<|zJ (eg [48,49,50] 3 y y y y)) (fun hb=>(sm (bF hb a)).symm)<|A ?_
 exact RT0
instance:PF Tryz.prog 36 [] (zm3) bA:=⟨fun _=>zqf ⟩
structure zjM where
  locals:T1
  stack:T1
def ztg(a:T0)(b:Int):Option (T0×Int):=
  some (a,b)
def zhd(a:T0)(b:Int):Option (Sum (T0×Int) (Sum (T0×Int) (T0×Int))):=
  (cond (decide (0<(length a:Int))) ((idx a 0).bind fun e=>some ((e.toNat:Int) == (91:Int))) (some false)).bind fun c=>cond c ((zjs a 1 (length a:Int)).bind fun d=>some (.inl (d,(IntKind.i64.wrap (b+1))))) (some (.inr (.inl (a,b))))
def zj6(a:T0):Option (T0×Int):=
  (zm (fun z=>zhd z.1 z.2) (a,0)).bind fun o=>zI o (fun b=>ztg b.1 b.2) some
def zS(c:List za)(a:T0):Option (Bool):=
  (zl6 a).bind fun d=>cond (!d) (some false) ((zj6 a).bind fun b=>(cond (b.1 == [73]) (some true) ((zbM c b.1).bind fun e=>some (decide (0≤e)))).bind fun f=>some f)
def zlI(a:T1):Option (T1):=
  some a
def zgo(c:zb)(a:T1):Option (Sum (T1) (Sum (T1) (T1))):=
  cond (decide (((length a):Int)<c.Locals)) ((zgT 16 a ([[84]])).bind fun b=>some (.inl b)) (some (.inr (.inl a)))
def zeP(a:zb)(c:T1):Option (T1):=
  (zgT 16 c a.Params).bind fun d=>(zm (fun z=>zgo a z) d).bind fun o=>zI o (fun b=>zlI b) some
def zga(e:List za)(c:T0)(a:zb)(b:T1)(f:T1)(i:Bool):Option (T1):=
  cond (!a.Static) ((zgT 16 b [c]).bind fun d=>zeP a d) (zeP a b)
def zlJ:Option (zT×Bool):=
  some ((zT.mk 0 [] []),false)
def zco(b:zb)(e:Int)(a:Int):Option (Sum (Int) (Sum (Unit) (zT×Bool))):=
  cond (decide (a<(length b.Maps:Int))) ((idx b.Maps a).bind fun c=>cond (c.At == e) ((idx b.Maps a).bind fun d=>some (.inr (.inr (d,true)))) (some (.inl (IntKind.i64.wrap (a+1))))) (some (.inr (.inl ())))
def zdF(d:List za)(e:T0)(a:zb)(f:T1)(i:T1)(j:Bool)(c:Int):Option (zT×Bool):=
  (zm (fun z=>zco a c z) 0).bind fun o=>zI o (fun b=>zlJ) some
def zk5(a:T1):Option (T1):=
  some a
def zbt(c:List za)(b:T1)(a:Int):Option (Sum (T1×Int) (Sum (T1) (T1))):=
  cond (decide (0≤a)) ((idx c a).bind fun d=>(zgT 16 b [d.Name]).bind fun e=>(idx c a).bind fun f=>(zbM c f.Super).bind fun i=>some (.inl (e,i))) (some (.inr (.inl b)))
def zch(a:List za)(c:T0):Option (T1):=
  (zbM a c).bind fun d=>(zm (fun z=>zbt a z.1 z.2) ([],d)).bind fun o=>zI o (fun b=>zk5 b) some
def zui:Option (Bool):=
  some false
def zhW(b:T1)(c:T0)(a:Int):Option (Sum (Int) (Sum (Unit) (Bool))):=
  cond (decide (a<(length b:Int))) ((idx b a).bind fun d=>cond (d == c) (some (.inr (.inr true))) (some (.inl (IntKind.i64.wrap (a+1))))) (some (.inr (.inl ())))
def zl9(a:T1)(c:T0):Option (Bool):=
  (zm (fun z=>zhW a c z) 0).bind fun o=>zI o (fun b=>zui) some
def zmE(a:T1)(j:T0)(b:Int):Option (T1):=
  (zjs a 0 b).bind fun c=>(zgT 16 ([]:T1) c).bind fun d=>(zjs a b (length a:Int)).bind fun e=>(zgT 16 d [j]).bind fun f=>(zgT 16 f e).bind fun i=>some i
def zd4(b:T1)(c:T0)(a:Int):Option (Sum (Int) (Sum (Int) (T1))):=
  (cond (decide (a<(length b:Int))) ((idx b a).bind fun d=>some (Op.bytesLess d c)) (some false)).bind fun e=>cond e (some (.inl (IntKind.i64.wrap (a+1)))) (some (.inr (.inl a)))
def znh(a:T1)(c:T0):Option (T1):=
  (zm (fun z=>zd4 a c z) 0).bind fun o=>zI o (fun b=>zmE a c b) some
def znd(a:T1):Option (T1):=
  some a
def zg8(a:Int)(b:T1):Option (Sum (T1×Int) (Sum (T1) (T1))):=
  some (.inl (b,(IntKind.i64.wrap (a+1))))
def zbf(i:List za)(c:List Bool)(b:T1)(a:Int):Option (Sum (T1×Int) (Sum (T1) (T1))):=
  cond (decide (a<(length i:Int))) ((idx c a).bind fun d=>cond d ((idx i a).bind fun e=>(znh b e.Name).bind fun f=>zg8 a f) (zg8 a b)) (some (.inr (.inl b)))
def zi8(c:List za)(a:List Bool):Option (T1):=
  (zm (fun z=>zbf c a z.1 z.2) ([],0)).bind fun o=>zI o (fun b=>znd b) some
def znc(a:List Bool)(b:Bool):Option (Sum ((List Bool)×Bool) (Sum ((List Bool)) (T1))):=
  some (.inl (a,b))
def zg7(a:Int)(b:List Bool)(c:Bool):Option (Sum ((List Bool)×Bool×Int) (Sum ((List Bool)×Bool) (T1))):=
  some (.inl (b,c,(IntKind.i64.wrap (a+1))))
def zi7(a:Int)(b:List Bool)(c:Bool):Option (Sum ((List Bool)×Bool×Int) (Sum ((List Bool)×Bool) (T1))):=
  zg7 a b c
def zg6(a:Int)(b:List Bool)(c:Bool):Option (Sum ((List Bool)×Bool×Int) (Sum ((List Bool)×Bool) (T1))):=
  some (.inl (b,c,(IntKind.i64.wrap (a+1))))
def zc9(j:List za)(d:za)(a:List Bool)(e:Bool)(b:Int):Option (Sum ((List Bool)×Bool×Int) (Sum ((List Bool)×Bool) (T1))):=
  cond (decide (b<(length d.Impl:Int))) ((idx d.Impl b).bind fun f=>(zbM j f).bind fun c=>(idx a c).bind fun i=>cond (!i) ((idx a c).bind fun l=>zg6 b (List.set a (Int.toNat c) true) true) (zg6 b a e)) (some (.inr (.inl (a,e))))
def zda(f:List za)(m:T1)(c:List Bool)(d:Bool)(a:Int):Option (Sum ((List Bool)×Bool×Int) (Sum ((List Bool)×Bool) (T1))):=
  cond (decide (a<(length f:Int))) ((idx f a).bind fun e=>(idx c a).bind fun i=>(cond (!i) ((zl9 m e.Name).bind fun j=>some (!j)) (some false)).bind fun l=>cond l (zg7 a c d) ((zm (fun z=>zc9 f e z.1 z.2.1 z.2.2) (c,d,0)).bind fun o=>zI o (fun b=>zi7 a b.1 b.2) (fun r=>some (.inr (.inr r))))) (some (.inr (.inl (c,d))))
def zfC(d:List za)(e:T1)(a:List Bool)(c:Bool):Option (Sum ((List Bool)×Bool) (Sum ((List Bool)) (T1))):=
  cond c ((zm (fun z=>zda d e z.1 z.2.1 z.2.2) (a,false,0)).bind fun o=>zI o (fun b=>znc b.1 b.2) (fun r=>some (.inr (.inr r)))) (some (.inr (.inl a)))
def zf8(a:List za)(c:T0)(d:List Bool):Option (T1):=
  (zch a c).bind fun e=>(zm (fun z=>zfC a e z.1 z.2) (d,true)).bind fun o=>zI o (fun b=>zi8 a b) some
def zhr(a:List za)(c:T0):Option (T1):=
  (mkP 1 (length a:Int)).bind fun d=>(zbM a c).bind fun b=>cond (decide (b<0)) (some []) ((idx a b).bind fun e=>cond e.Interface ((idx (List.replicate d false) b).bind fun f=>zf8 a c (List.set (List.replicate d false) (Int.toNat b) true)) (zf8 a c (List.replicate d false)))
def zdD(s:((List za)×T0×T0→Option Bool))(b:List za)(c:T0)(d:T0):Option (Bool):=
  (zS b c).bind fun v=>(cond (!v) (some true) ((zS b d).bind fun x=>some (!x))).bind fun B=>cond B (some false) (cond (c == d) (some true) ((zj6 c).bind fun e=>(zj6 d).bind fun a=>cond ((e.2 == (0:Int))&&(a.2 == (0:Int))) ((cond ((!(e.1 == [73]))&&(!(a.1 == [73]))) ((zch b e.1).bind fun C=>(zl9 C a.1).bind fun j=>(cond j (some true) ((zhr b e.1).bind fun l=>(zl9 l a.1).bind fun m=>some m)).bind fun n=>some n) (some false)).bind fun o=>some o) (cond (a.2 == (0:Int)) (some (a.1 == [79,98,106,101,99,116])) (cond (e.2 == (0:Int)) (some false) ((zjs c 1 (length c:Int)).bind fun f=>(zjs d 1 (length d:Int)).bind fun i=>(cond ((!(f == [73]))&&(!(i == [73]))) ((s (b,f,i)).bind fun p=>some p) (some false)).bind fun q=>some q)))))
def zgZ(a:List za)(b:T0)(c:T0):Option Bool:=
  zCC (fun d z=>zdD d z.1 z.2.1 z.2.2) (a,b,c)
def zcm(c:List za)(a:T0)(b:T0):Option (Bool):=
  cond (b == [84]) ((cond ((a == [84])||(a == [78])) (some true) ((zS c a).bind fun o=>some o)).bind fun p=>some p) (cond (a == [78]) ((cond (b == [78]) (some true) ((cond (!(b == [73])) ((zS c b).bind fun q=>some q) (some false)).bind fun s=>some s)).bind fun v=>some v) (cond (a == b) ((zS c a).bind fun x=>some x) ((cond ((a == [73])||(b == [73])) (some true) ((zS c a).bind fun e=>some (!e))).bind fun f=>(cond f (some true) ((zS c b).bind fun i=>some (!i))).bind fun j=>cond j (some false) ((zbM c b).bind fun d=>(cond (decide (0≤d)) ((idx c d).bind fun l=>some l.Interface) (some false)).bind fun m=>cond m (some true) ((zgZ c a b).bind fun n=>some n)))))
def znb:Option (Bool):=
  some true
def zc8(e:List za)(b:T1)(f:T1)(a:Int):Option (Sum (Int) (Sum (Unit) (Bool))):=
  cond (decide (a<(length b:Int))) ((idx b a).bind fun i=>(idx f a).bind fun c=>(zcm e i c).bind fun d=>cond (!d) (some (.inr (.inr false))) (some (.inl (IntKind.i64.wrap (a+1))))) (some (.inr (.inl ())))
def zeE(d:List za)(a:T1)(c:T1):Option (Bool):=
  cond (!((length a:Int) == (length c:Int))) (some false) ((zm (fun z=>zc8 d a c z) 0).bind fun o=>zI o (fun b=>znb) some)
def zei(c:List za)(f:T0)(i:zb)(j:T1)(l:T1)(b:Bool)(m:Int)(n:T1)(o:T1):Option (Bool):=
  (zdF c f i j l b m).bind fun a=>cond a.2 ((zeE c n a.1.Locals).bind fun d=>cond d ((zeE c o a.1.Stack).bind fun e=>some (b||(!e))) (some (b||(!false)))) (some (b||(!false)))
def zfs(a:zjM):Option (T1×T1):=
  (zgT 16 ([]:T1) a.locals).bind fun b=>(zgT 16 ([]:T1) a.stack).bind fun c=>some (b,c)
def zgL(c:List za)(f:T0)(i:zb)(j:T1)(l:T1)(b:Bool)(m:Int)(n:T1)(o:T1):Option (Bool):=
  (zdF c f i j l b m).bind fun a=>cond a.2 ((zeE c n a.1.Locals).bind fun d=>cond d ((zeE c o a.1.Stack).bind fun e=>some (b||(!e))) (some (b||(!false)))) (some (b||(!false)))
def zlK(a:Bool):Option (Bool):=
  some a
def zgp(a:Int)(b:Bool):Option (Sum (Bool×Int) (Sum (Bool) (Bool))):=
  some (.inl (b,(IntKind.i64.wrap (a+1))))
def zeS(f:List za)(m:T0)(n:zb)(i:T1)(o:T1)(j:Int)(b:Bool)(c:Int)(a:zN)(d:T0):Option (Sum (Bool×Int) (Sum (Bool) (Bool))):=
  (zgZ f d [84,104,114,111,119,110]).bind fun e=>cond ((decide (a.From≤j))&&(decide (j<a.To))) ((zgL f m n i o (b||(!e)) a.At i [d]).bind fun l=>zgp c l) (zgp c (b||(!e)))
def zcq(e:List za)(f:T0)(d:zb)(i:T1)(j:T1)(l:Int)(c:Bool)(a:Int):Option (Sum (Bool×Int) (Sum (Bool) (Bool))):=
  cond (decide (a<(length d.Traps:Int))) ((idx d.Traps a).bind fun b=>cond (b.C == []) (zeS e f d i j l c a b [84,104,114,111,119,110]) (zeS e f d i j l c a b b.C)) (some (.inr (.inl c)))
def zcG(a:List za)(c:T0)(d:zb)(e:T1)(f:T1)(i:Bool)(j:Int):Option (Bool):=
  (zm (fun z=>zcq a c d e f j z.1 z.2) (i,0)).bind fun o=>zI o (fun b=>zlK b) some
def zaz(e:List za)(f:T0)(i:zb)(j:T1)(a:T1)(b:Bool):Option (T0×T1×Bool):=
  cond ((length a:Int) == (0:Int)) (some ([78],a,true)) ((idx a (IntKind.i64.wrap ((length a:Int)-1))).bind fun c=>(zjs a 0 (IntKind.i64.wrap ((length a:Int)-1))).bind fun d=>some (c,d,b))
def zmi(a:T1)(b:Bool):Option (T1×Bool):=
  some (a,b)
def zaV(e:List za)(j:T0)(l:zb)(m:T1)(n:T1)(c:T1)(d:Bool)(a:Int):Option (Sum (T1×Bool×Int) (Sum (T1×Bool) (T1×Bool))):=
  cond (decide (0≤a)) ((idx n a).bind fun f=>(zaz e j l m c d).bind fun b=>(zcm e b.1 f).bind fun i=>some (.inl (b.2.1,(b.2.2||(!i)),(IntKind.i64.wrap (a-1))))) (some (.inr (.inl (c,d))))
def zV(c:List za)(d:T0)(e:zb)(f:T1)(i:T1)(j:Bool)(a:T1):Option (T1×Bool):=
  (zm (fun z=>zaV c d e f a z.1 z.2.1 z.2.2) (i,j,(IntKind.i64.wrap ((length a:Int)-1)))).bind fun o=>zI o (fun b=>zmi b.1 b.2) some
def zR(i:List za)(j:T0)(b:zb)(l:T1)(c:T1)(d:Bool)(e:T0):Option (T1×Bool):=
  (zgT 16 ([]:T1) c).bind fun f=>(zgT 16 f [e]).bind fun a=>some (a,(d||(!(decide ((length a:Int)≤b.Stack)))))
def zcd(b:List za)(c:T0)(d:zb)(e:T1)(f:T1)(i:Bool):Option (T0×T1×Bool):=
  (zaz b c d e f i).bind fun a=>some (a.1,a.2.1,(a.2.2||(!(!(a.1 == [73])))))
def zbX(e:List za)(f:T0)(i:zb)(b:T1)(j:zl)(a:T1)(c:Bool):Option (T1×Bool):=
  (zei e f i b a c j.A b a).bind fun d=>some (a,d)
def zej(a:List za)(b:T0)(c:zb)(d:T1)(f:T1)(i:Bool)(e:zl):Option (T1×Bool):=
  cond (decide (e.Op≤26)) ((zV a b c d f i ([[73]])).bind fun n=>zbX a b c d e n.1 n.2) (cond (decide (e.Op≤32)) ((zV a b c d f i ([[73],[73]])).bind fun o=>zbX a b c d e o.1 o.2) (cond (decide (e.Op≤34)) ((zcd a b c d f i).bind fun j=>zbX a b c d e j.2.1 j.2.2) ((zcd a b c d f i).bind fun l=>(zcd a b c d l.2.1 l.2.2).bind fun m=>zbX a b c d e m.2.1 m.2.2)))
def znR:Option (T0×zi×Bool):=
  some ([],(zi.mk [] [] false),false)
def zdC(e:List za)(m:T0)(d:T1)(a:Int):Option (Sum (Int) (Sum (Unit) (T0×zi×Bool))):=
  cond (decide (a<((length d):Int))) ((idx d a).bind fun f=>(zbM e f).bind fun i=>(idx e i).bind fun b=>(zom b m).bind fun c=>cond (decide (0≤c)) ((idx d a).bind fun j=>(idx b.Fields c).bind fun l=>some (.inr (.inr (j,l,true)))) (some (.inl (IntKind.i64.wrap (a+1))))) (some (.inr (.inl ())))
def zi9(a:List za)(c:T0)(d:T0):Option (T0×zi×Bool):=
  (zch a c).bind fun e=>(zm (fun z=>zdC a d e z) 0).bind fun o=>zI o (fun b=>znR) some
def zcn(f:List za)(i:T0)(j:zb)(l:T1)(d:zl)(e:T0×zi×Bool)(a:T1)(b:Bool):Option (T1×Bool):=
  cond ((d.Op == (38:Int))||(d.Op == (40:Int))) ((zR f i j l a b e.2.1.Type_).bind fun c=>some (c.1,c.2)) (some (a,b))
def zbb(f:List za)(i:T0)(j:zb)(l:T1)(a:zl)(b:T0×zi×Bool)(c:T1)(d:Bool):Option (T1×Bool):=
  cond ((a.Op == (38:Int))||(a.Op == (39:Int))) ((zV f i j l c d [a.C]).bind fun e=>zcn f i j l a b e.1 e.2) (zcn f i j l a b c d)
def zdE(c:List za)(f:T0)(i:zb)(j:T1)(d:T1)(e:Bool)(a:zl):Option (T1×Bool):=
  (zbM c a.C).bind fun n=>cond (decide (n<0)) (some (d,true)) (cond (a.Op == (37:Int)) ((idx c n).bind fun o=>(zR c f i j d (e||(!(!o.Interface))) a.C).bind fun l=>some (l.1,l.2)) ((zi9 c a.C a.M).bind fun b=>cond (e||(!(b.2.2&&(b.2.1.Static == ((a.Op == (40:Int))||(a.Op == (41:Int))))))) (some (d,(e||(!(b.2.2&&(b.2.1.Static == ((a.Op == (40:Int))||(a.Op == (41:Int))))))))) (cond ((a.Op == (39:Int))||(a.Op == (41:Int))) ((zV c f i j d (e||(!(b.2.2&&(b.2.1.Static == ((a.Op == (40:Int))||(a.Op == (41:Int))))))) [b.2.1.Type_]).bind fun m=>zbb c f i j a b m.1 m.2) (zbb c f i j a b d (e||(!(b.2.2&&(b.2.1.Static == ((a.Op == (40:Int))||(a.Op == (41:Int)))))))))))
def zon:Option (T0×zb×Bool):=
  some ([],(zb.mk [] [] [] false false 0 0 [] [] []),false)
def zeg(e:List za)(m:T0)(d:T1)(a:Int):Option (Sum (Int) (Sum (Unit) (T0×zb×Bool))):=
  cond (decide (a<((length d):Int))) ((idx d a).bind fun f=>(zbM e f).bind fun i=>(idx e i).bind fun b=>(zkF b m).bind fun c=>cond (decide (0≤c)) ((idx d a).bind fun j=>(idx b.Methods c).bind fun l=>some (.inr (.inr (j,l,true)))) (some (.inl (IntKind.i64.wrap (a+1))))) (some (.inr (.inl ())))
def zjJ(a:List za)(c:T0)(e:T0):Option (T0×zb×Bool):=
  (zbM a c).bind fun d=>(cond (decide (d<0)) (some true) ((idx a d).bind fun f=>some (!f.Interface))).bind fun i=>cond i (some ([],(zb.mk [] [] [] false false 0 0 [] [] []),false)) ((zhr a c).bind fun j=>(zgT 16 [c] j).bind fun l=>(zm (fun z=>zeg a e l z) 0).bind fun o=>zI o (fun b=>zon) some)
def zne:Option (T0×zb×Bool):=
  some ([],(zb.mk [] [] [] false false 0 0 [] [] []),false)
def zdb(e:List za)(f:T0)(d:T1)(a:Int):Option (Sum (Int) (Sum (Unit) (T0×zb×Bool))):=
  cond (decide (a<((length d):Int))) ((idx d a).bind fun i=>(zbM e i).bind fun j=>(idx e j).bind fun b=>(zkF b f).bind fun c=>cond ((decide (0≤c))&&(!(f == [36,105,110,105,116]))) ((idx d a).bind fun l=>(idx b.Methods c).bind fun m=>some (.inr (.inr (l,m,true)))) (some (.inl (IntKind.i64.wrap (a+1))))) (some (.inr (.inl ())))
def ziw(a:List za)(c:T0)(d:T0):Option (T0×zb×Bool):=
  (zch a c).bind fun e=>(zm (fun z=>zdb a d e z) 0).bind fun o=>zI o (fun b=>zne) some
def zbW(e:List za)(f:T0)(i:zb)(j:T1)(a:zb)(b:T1)(c:Bool):Option (T1×Bool):=
  cond (!(a.Ret == [86])) ((zR e f i j b c a.Ret).bind fun d=>some (d.1,d.2)) (some (b,c))
def zbm(b:List za)(c:T0)(f:zb)(i:T1)(o:T1)(m:Bool)(n:zl)(d:zb)(p:T0)(j:Bool):Option (T1×Bool):=
  cond (m||(!j)) (some (o,(m||(!j)))) ((zV b c f i o (m||(!j)) d.Params).bind fun e=>cond (!(n.Op == (42:Int))) ((zaz b c f i e.1 e.2).bind fun a=>(zcm b a.1 n.C).bind fun l=>cond (n.Op == (44:Int)) ((zch b c).bind fun q=>(zl9 q p).bind fun s=>cond s ((zcm b a.1 c).bind fun v=>zbW b c f i d a.2.1 ((a.2.2||(!l))||(!v))) (zbW b c f i d a.2.1 ((a.2.2||(!l))||(!false)))) (zbW b c f i d a.2.1 (a.2.2||(!l)))) (zbW b c f i d e.1 e.2))
def zfr(c:List za)(e:T0)(f:zb)(i:T1)(j:T1)(l:Bool)(a:zl):Option (T1×Bool):=
  cond (a.Op == (45:Int)) ((zjJ c a.C a.M).bind fun d=>zbm c e f i j l a d.2.1 d.1 d.2.2) ((ziw c a.C a.M).bind fun b=>zbm c e f i j l a b.2.1 b.1 ((b.2.2&&(b.2.1.Static == (a.Op == (42:Int))))&&(!b.2.1.Abstract)))
def zol(a:T0):Option (T0):=
  (zqF [91] a).bind fun b=>(zl6 b).bind fun c=>cond (!c) (some []) ((zqF [91] a).bind fun d=>some d)
def zpQ(a:T0):Option (T0×Bool):=
  (zl6 a).bind fun b=>(cond (!b) (some true) ((idx a 0).bind fun c=>some (!((c.toNat:Int) == (91:Int))))).bind fun d=>cond d (some ([],false)) ((zjs a 1 (length a:Int)).bind fun e=>some (e,true))
def zf9(c:List za)(d:T0)(e:zb)(f:T1)(i:T1)(j:Bool):Option (T0×T1×Bool):=
  (zaz c d e f i j).bind fun a=>cond (a.1 == [78]) (some ([78],a.2.1,a.2.2)) ((zpQ a.1).bind fun b=>some (b.1,a.2.1,(a.2.2||(!(b.2&&(!(b.1 == [73])))))))
def zbg(a:List za)(b:T0)(c:zb)(d:T1)(e:T1)(f:Bool)(i:zl):Option (T1×Bool):=
  cond (i.Op == (49:Int)) ((zV a b c d e f ([[73]])).bind fun G=>(zR a b c d G.1 G.2 [91,73]).bind fun H=>some (H.1,H.2)) (cond (i.Op == (50:Int)) ((zol i.C).bind fun l=>(cond (!(l == [])) ((zS a l).bind fun I=>some I) (some false)).bind fun J=>(zV a b c d e (f||(!J)) ([[73]])).bind fun n=>(zR a b c d n.1 n.2 l).bind fun o=>some (o.1,o.2)) (cond (i.Op == (51:Int)) ((zaz a b c d e f).bind fun j=>(cond (j.1 == [78]) (some true) ((cond (decide (1<(length j.1:Int))) ((idx j.1 0).bind fun K=>some ((K.toNat:Int) == (91:Int))) (some false)).bind fun L=>some L)).bind fun M=>(zR a b c d j.2.1 (j.2.2||(!M)) [73]).bind fun p=>some (p.1,p.2)) (cond (i.Op == (52:Int)) ((zV a b c d e f ([[91,73],[73]])).bind fun q=>(zR a b c d q.1 q.2 [73]).bind fun s=>some (s.1,s.2)) (cond (i.Op == (53:Int)) ((zV a b c d e f ([[91,73],[73],[73]])).bind fun v=>some (v.1,v.2)) (cond (i.Op == (54:Int)) ((zV a b c d e f ([[73]])).bind fun x=>(zf9 a b c d x.1 x.2).bind fun m=>(zR a b c d m.2.1 m.2.2 m.1).bind fun B=>some (B.1,B.2)) (cond (i.Op == (55:Int)) ((zcd a b c d e f).bind fun D=>(zV a b c d D.2.1 D.2.2 ([[73]])).bind fun E=>(zf9 a b c d E.1 E.2).bind fun F=>some (F.2.1,F.2.2)) (some (e,f))))))))
def zcp(f:List za)(i:T0)(j:zb)(b:T1)(d:T1)(l:zl)(a:Bool):Option (T1×T1×Bool):=
  cond (!a) ((idx b l.A).bind fun e=>(zR f i j b d a e).bind fun c=>some (b,c.1,c.2)) (some (b,d,a))
def zeR(f:List za)(i:T0)(j:zb)(b:T1)(c:T1)(d:Bool)(e:Bool):Option (T1×T1×Bool):=
  cond e ((zV f i j b c d ([[73]])).bind fun a=>some (b,a.1,a.2)) (some (b,c,d))
def zU(d:List za)(e:T0)(c:zb)(a:T1)(f:T1)(i:Bool)(b:zl):Option (T1×T1×Bool):=
  cond (b.Op == (1:Int)) ((zR d e c a f i [73]).bind fun K=>some (a,K.1,K.2)) (cond (b.Op == (2:Int)) ((zR d e c a f i [78]).bind fun L=>some (a,L.1,L.2)) (cond (b.Op == (3:Int)) (cond (decide (b.A<(length a:Int))) ((idx a (if (IntKind.i64.wrap ((length a:Int)-1))<b.A then (IntKind.i64.wrap ((length a:Int)-1)) else b.A)).bind fun M=>zcp d e c a f b (i||(!(!(M == [84]))))) (zcp d e c a f b (i||(!false)))) (cond (b.Op == (4:Int)) ((zaz d e c a f i).bind fun l=>cond (!(l.2.2||(!(decide (b.A<(length a:Int)))))) ((zfs (zjM.mk a l.2.1)).bind fun n=>(idx n.1 b.A).bind fun R=>some ((List.set n.1 (Int.toNat b.A) l.1),n.2,(l.2.2||(!(decide (b.A<(length a:Int))))))) (some (a,l.2.1,(l.2.2||(!(decide (b.A<(length a:Int)))))))) (cond (b.Op == (5:Int)) ((zaz d e c a f i).bind fun s=>some (a,s.2.1,s.2.2)) (cond (b.Op == (6:Int)) ((zaz d e c a f i).bind fun m=>(zR d e c a m.2.1 m.2.2 m.1).bind fun v=>(zR d e c a v.1 v.2 m.1).bind fun x=>some (a,x.1,x.2)) (cond (b.Op == (7:Int)) ((zaz d e c a f i).bind fun o=>(zaz d e c a o.2.1 o.2.2).bind fun p=>(zR d e c a p.2.1 p.2.2 o.1).bind fun B=>(zR d e c a B.1 B.2 p.1).bind fun D=>some (a,D.1,D.2)) (cond (b.Op == (46:Int)) (some (a,f,(i||(!(c.Ret == [86]))))) (cond (b.Op == (47:Int)) ((zV d e c a f i ([[73]])).bind fun E=>some (a,E.1,(E.2||(!(c.Ret == [73]))))) (cond (b.Op == (48:Int)) ((zcd d e c a f i).bind fun j=>cond (!(c.Ret == [86])) (cond (!(c.Ret == [73])) ((zcm d j.1 c.Ret).bind fun N=>some (a,j.2.1,(j.2.2||(!N)))) (some (a,j.2.1,(j.2.2||(!false))))) (some (a,j.2.1,(j.2.2||(!false))))) (cond (b.Op == (56:Int)) ((zcd d e c a f i).bind fun F=>(zS d b.C).bind fun O=>(zR d e c a F.2.1 (F.2.2||(!O)) b.C).bind fun G=>some (a,G.1,G.2)) (cond (b.Op == (57:Int)) ((zcd d e c a f i).bind fun H=>(zS d b.C).bind fun P=>(zR d e c a H.2.1 (H.2.2||(!P)) [73]).bind fun I=>some (a,I.1,I.2)) (cond (b.Op == (58:Int)) ((zaz d e c a f i).bind fun q=>(zcm d q.1 [84,104,114,111,119,110]).bind fun Q=>some (a,q.2.1,(q.2.2||(!Q)))) (cond (b.Op == (59:Int)) ((zR d e c a f i [73]).bind fun J=>some (a,J.1,J.2)) (cond (b.Op == (60:Int)) (zeR d e c a f i (b.Op == (60:Int))) (zeR d e c a f i (b.Op == (61:Int)))))))))))))))))
def zeQ(e:List za)(f:T0)(i:zb)(b:T1)(c:T1)(d:Bool):Option (T1×T1×Bool):=
  (zR e f i b c d [73]).bind fun a=>some (b,a.1,a.2)
def zk(c:List za)(d:T0)(e:zb)(b:T1)(f:T1)(i:Bool)(a:zl):Option (T1×T1×Bool):=
  cond ((decide (8≤a.Op))&&(decide (a.Op≤19))) ((zV c d e b f i ([[73]])).bind fun l=>cond (!(a.Op == (13:Int))) ((zV c d e b l.1 l.2 ([[73]])).bind fun q=>zeQ c d e b q.1 q.2) (zeQ c d e b l.1 l.2)) (cond ((decide (21≤a.Op))&&(decide (a.Op≤36))) ((zej c d e b f i a).bind fun m=>some (b,m.1,m.2)) (cond (a.Op == (20:Int)) ((zei c d e b f i a.A b f).bind fun s=>some (b,f,s)) (cond ((decide (37≤a.Op))&&(decide (a.Op≤41))) ((zdE c d e b f i a).bind fun n=>some (b,n.1,n.2)) (cond ((decide (42≤a.Op))&&(decide (a.Op≤45))) ((zfr c d e b f i a).bind fun o=>some (b,o.1,o.2)) (cond ((decide (49≤a.Op))&&(decide (a.Op≤55))) ((zbg c d e b f i a).bind fun p=>some (b,p.1,p.2)) ((zU c d e b f i a).bind fun j=>some (j.1,j.2.1,j.2.2)))))))
def ziH(c:T1)(d:T1)(a:Bool)(b:Bool):Option (Bool):=
  some ((!a)&&(!b))
def ze8(i:T0)(j:zbl)(b:zb)(l:Bool)(c:Int)(m:zT×Bool)(n:Bool)(d:T1)(e:T1):Option (Sum (T1×T1×Bool×Bool×Int) (Sum (T1×T1×Bool×Bool) (Bool))):=
  (zcG j.L i b d e (n||(!(m.2||l))) c).bind fun o=>(idx b.Code c).bind fun p=>(zk j.L i b d e o p).bind fun a=>(idx b.Code c).bind fun f=>some (.inl (a.1,a.2.1,a.2.2,(!(zi5 f.Op)),(IntKind.i64.wrap (c+1))))
def zdO(i:T0)(j:zbl)(b:zb)(l:T1)(m:T1)(c:Bool)(d:Int)(a:zT×Bool)(e:Bool):Option (Sum (T1×T1×Bool×Bool×Int) (Sum (T1×T1×Bool×Bool) (Bool))):=
  cond a.2 ((zfs (zjM.mk a.1.Locals a.1.Stack)).bind fun f=>ze8 i j b c d a e f.1 f.2) (ze8 i j b c d a e l m)
def zaI(j:T0)(l:zbl)(c:zb)(a:T1)(b:T1)(d:Bool)(f:Bool)(e:Int):Option (Sum (T1×T1×Bool×Bool×Int) (Sum (T1×T1×Bool×Bool) (Bool))):=
  cond ((decide (e<(length c.Code:Int)))&&(!d)) ((zdF l.L j c a b d e).bind fun i=>cond (i.2&&f) ((zei l.L j c a b d e a b).bind fun m=>zdO j l c a b f e i m) (zdO j l c a b f e i d)) (some (.inr (.inl (a,b,d,f))))
def zja(f:T0)(e:zbl)(a:zb)(c:Bool):Option (Bool):=
  (cond (a.Ret == [86]) (some true) ((zS e.L a.Ret).bind fun i=>some i)).bind fun d=>(zga e.L f a [] [] (c||(!d))).bind fun j=>(zm (fun z=>zaI f e a z.1 z.2.1 z.2.2.1 z.2.2.2.1 z.2.2.2.2) (j,[],(c||(!d)),true,0)).bind fun o=>zI o (fun b=>ziH b.1 b.2.1 b.2.2.1 b.2.2.2) some
def zdd(f:zbl)(b:zb)(c:Bool)(a:Int):Option (Sum (Bool×Int) (Sum (Bool) (Bool))):=
  cond (decide (a<(length b.Params:Int))) ((idx b.Params a).bind fun d=>(zS f.L d).bind fun e=>some (.inl ((c||(!e)),(IntKind.i64.wrap (a+1))))) (some (.inr (.inl c)))
def zg9(e:T0)(c:zbl)(a:zb)(d:Bool):Option (Bool):=
  (zm (fun z=>zdd c a z.1 z.2) (d,0)).bind fun o=>zI o (fun b=>zja e c a b) some
def znf(a:Int)(b:Bool):Option (Sum (Bool×Int) (Sum (Bool) (Bool))):=
  some (.inl (b,(IntKind.i64.wrap (a+1))))
def zdc(m:zbl)(b:T1)(c:Bool)(a:Int):Option (Sum (Bool×Int) (Sum (Bool) (Bool))):=
  cond (decide (a<((length b):Int))) ((idx b a).bind fun d=>(cond (d == [84]) (some true) ((idx b a).bind fun e=>some (e == [78]))).bind fun f=>(cond f (some true) ((idx b a).bind fun i=>(zS m.L i).bind fun j=>some j)).bind fun l=>some (.inl ((c||(!l)),(IntKind.i64.wrap (a+1))))) (some (.inr (.inl c)))
def zci(l:zbl)(c:zb)(d:Bool)(a:Int):Option (Sum (Bool×Int) (Sum (Bool) (Bool))):=
  cond (decide (a<(length c.Maps:Int))) ((idx c.Maps a).bind fun e=>(idx c.Maps a).bind fun f=>(zgT 16 ([]:T1) e.Locals).bind fun i=>(zgT 16 i f.Stack).bind fun j=>(zm (fun z=>zdc l j z.1 z.2) (d,0)).bind fun o=>zI o (fun b=>znf a b) (fun r=>some (.inr (.inr r)))) (some (.inr (.inl d)))
def zix(l:Option zbl)(f:T0)(c:Int):Option (Bool):=
  zwx l (none) (fun a=>(zbM a.L f).bind fun d=>(cond ((decide (d<0))||(decide (c<0))) (some true) ((idx a.L d).bind fun m=>some (decide ((length m.Methods:Int)≤c)))).bind fun n=>(cond n (some true) ((idx a.L d).bind fun p=>(idx p.Methods c).bind fun q=>some q.Abstract)).bind fun i=>cond i (some false) ((idx a.L d).bind fun j=>(idx j.Methods c).bind fun e=>(zm (fun z=>zci a e z.1 z.2) (false,0)).bind fun o=>zI o (fun b=>zg9 f a e b) some))
def zkH(c:T1)(d:T1)(a:Bool)(b:Bool):Option (Bool):=
  some ((!a)&&(!b))
def zht(i:List za)(j:T0)(a:zb)(l:Bool)(b:Int)(m:zT×Bool)(n:Bool)(d:T1)(e:T1):Option (Sum (T1×T1×Bool×Bool×Int) (Sum (T1×T1×Bool×Bool) (Bool))):=
  (zcG i j a d e (n||(!(m.2||l))) b).bind fun o=>(idx a.Code b).bind fun p=>(zk i j a d e o p).bind fun c=>(idx a.Code b).bind fun f=>some (.inl (c.1,c.2.1,c.2.2,(!(zi5 f.Op)),(IntKind.i64.wrap (b+1))))
def zhs(i:List za)(j:T0)(b:zb)(l:T1)(m:T1)(c:Bool)(d:Int)(a:zT×Bool)(e:Bool):Option (Sum (T1×T1×Bool×Bool×Int) (Sum (T1×T1×Bool×Bool) (Bool))):=
  cond a.2 ((zfs (zjM.mk a.1.Locals a.1.Stack)).bind fun f=>zht i j b c d a e f.1 f.2) (zht i j b c d a e l m)
def zkI(j:List za)(l:T0)(c:zb)(a:T1)(b:T1)(d:Bool)(f:Bool)(e:Int):Option (Sum (T1×T1×Bool×Bool×Int) (Sum (T1×T1×Bool×Bool) (Bool))):=
  cond ((decide (e<(length c.Code:Int)))&&(!d)) ((zdF j l c a b d e).bind fun i=>cond (i.2&&f) ((zei j l c a b d e a b).bind fun m=>zhs j l c a b f e i m) (zhs j l c a b f e i d)) (some (.inr (.inl (a,b,d,f))))
def zk8(e:List za)(f:T0)(a:zb)(c:Bool):Option (Bool):=
  (cond (a.Ret == [86]) (some true) ((zS e a.Ret).bind fun i=>some i)).bind fun d=>(zga e f a [] [] (c||(!d))).bind fun j=>(zm (fun z=>zkI e f a z.1 z.2.1 z.2.2.1 z.2.2.2.1 z.2.2.2.2) (j,[],(c||(!d)),true,0)).bind fun o=>zI o (fun b=>zkH b.1 b.2.1 b.2.2.1 b.2.2.2) some
def zlb(f:List za)(b:zb)(c:Bool)(a:Int):Option (Sum (Bool×Int) (Sum (Bool) (Bool))):=
  cond (decide (a<(length b.Params:Int))) ((idx b.Params a).bind fun d=>(zS f d).bind fun e=>some (.inl ((c||(!e)),(IntKind.i64.wrap (a+1))))) (some (.inr (.inl c)))
def zk7(c:List za)(e:T0)(a:zb)(d:Bool):Option (Bool):=
  (zm (fun z=>zlb c a z.1 z.2) (d,0)).bind fun o=>zI o (fun b=>zk8 c e a b) some
def zk6(a:Int)(b:Bool):Option (Sum (Bool×Int) (Sum (Bool) (Bool))):=
  some (.inl (b,(IntKind.i64.wrap (a+1))))
def zk9(m:List za)(b:T1)(c:Bool)(a:Int):Option (Sum (Bool×Int) (Sum (Bool) (Bool))):=
  cond (decide (a<((length b):Int))) ((idx b a).bind fun d=>(cond (d == [84]) (some true) ((idx b a).bind fun e=>some (e == [78]))).bind fun f=>(cond f (some true) ((idx b a).bind fun i=>(zS m i).bind fun j=>some j)).bind fun l=>some (.inl ((c||(!l)),(IntKind.i64.wrap (a+1))))) (some (.inr (.inl c)))
def zla(l:List za)(c:zb)(d:Bool)(a:Int):Option (Sum (Bool×Int) (Sum (Bool) (Bool))):=
  cond (decide (a<(length c.Maps:Int))) ((idx c.Maps a).bind fun e=>(idx c.Maps a).bind fun f=>(zgT 16 ([]:T1) e.Locals).bind fun i=>(zgT 16 i f.Stack).bind fun j=>(zm (fun z=>zk9 l j z.1 z.2) (d,0)).bind fun o=>zI o (fun b=>zk6 a b) (fun r=>some (.inr (.inr r)))) (some (.inr (.inl d)))
def zng(a:List za)(f:T0)(c:Int):Option (Bool):=
  (zbM a f).bind fun d=>(cond ((decide (d<0))||(decide (c<0))) (some true) ((idx a d).bind fun j=>some (decide ((length j.Methods:Int)≤c)))).bind fun l=>(cond l (some true) ((idx a d).bind fun m=>(idx m.Methods c).bind fun n=>some n.Abstract)).bind fun p=>cond p (some false) ((idx a d).bind fun i=>(idx i.Methods c).bind fun e=>(zm (fun z=>zla a e z.1 z.2) (false,0)).bind fun o=>zI o (fun b=>zk7 a f e b) some)
def ztt(x:zaM):Prop:=(wS) x.C∧(wS) x.M
theorem zwe{n:Nat}{avs:List AV}(h:zn2 Tryz.prog (n+2) 84 avs):∃x:zaM,avs=zfK x∧ztt x:=by
  obtain ⟨parts,rfl,hl,hg⟩:=gdF Tryz.underlying84 h
  match parts,hl with
  | [p0,p1],_ =>
    obtain ⟨x0,rfl,w0⟩:=gdS Tryz.underlying9 (hg 0 _ p0 y y)
    obtain ⟨x1,rfl,w1⟩:=gdS Tryz.underlying9 (hg 1 _ p1 y y)
    exact ⟨⟨x0,x1⟩,y,w0,w1⟩

end
end Go.Proofs.YthmnlfenkhmmhaaGreat
