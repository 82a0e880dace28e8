/- What the proofs of this seat's laws rest on: how the program's functions compute, each for every input. No further condition. Part 4 of 8. -/
import Derived.Test.YthmnlfenkhmmhaaGreatTf3
namespace Go.Proofs.YthmnlfenkhmmhaaGreat
noncomputable section
open List (length map)
set_option linter.unusedSimpArgs false
set_option linter.unusedVariables false
set_option maxRecDepth 100000
set_option maxHeartbeats 4000000
def zjs:Option (Bool):=
  some true
def zcE(b:T1)(c:T1)(a:Int):Option (Sum (Int) (Sum (Unit) (Bool))):=
  cond (decide (a<(length b:Int))) ((idx b a).bind fun d=>(idx c a).bind fun e=>cond (!(d == e)) (some (.inr (.inr false))) (some (.inl (IntKind.i64.wrap (a+1))))) (some (.inr (.inl ())))
def zds(a:T1)(c:T1):Option (Bool):=
  cond (!((length a:Int) == (length c:Int))) (some false) ((zr (fun z=>zcE a c z) 0).bind fun o=>zQ o (fun b=>zjs) some)
instance (a:T1)(c:T1):PF Tryz.prog 318 [.isl 1 (map zm a),.isl 1 (map zm c)] (zds a c) bA:=⟨fun r h=>by
 refine zo Tryz.func318 y kz y y<|A ?_;refine zi<|A ?_;refine zeh h y (fun d h=>?_) fun d h=>?_
 ·refine A ?_;exact RT0
 ·refine zg<|zi<|A ?_;obtain ⟨o,ho,h⟩:=bs h;refine lpB ho (fun z=>[(0,.isl 1 (map zm a)),(1,.isl 1 (map zm c)),(12,iA (length a:Int)),(13,iA z)]) (fun z=>[]) (fun b=>[]) (fun b=>[]) (pG Tryz.f318 bA) (zbZ []) ?_ ?_
  ·rintro i r h;refine A ?_;refine zi ?_;refine zeh h y (fun e h=>?_) fun e h=>?_
   ·refine zg<|zi<|zs<|A ?_;obtain ⟨j,l,m,n,h⟩:=bs2 h;refine rdA [(0,_),(1,_),(12,_),(13,_),(24,_)] [] [] [0,1,2,3,4,5,6,7,8] [(24,_),(23,_),(22,_),(21,_),(20,_),(19,_),(18,_),(17,_),(16,_)] 0 (zgE (z:=zbZ [])) ?_;refine zeh h y (fun f h=>?_) fun f h=>?_
    ·refine A ?_;refine zL ?_;obtain rfl:=sm h;exact ⟨_,y,_,y,zbc []⟩
    ·refine zg<|A ?_;obtain rfl:=sm h;exact ⟨_,y,zy []⟩
   ·refine zJ ?_;obtain rfl:=sm h;exact ⟨y,_,y,zy []⟩
  ·rintro ⟨⟩ rfl;refine zA<|A ?_
   exact RT0⟩
def ziL(a:zc)(b:zc):Option (Bool):=
  (zds a.Params b.Params).bind fun c=>some (c&&(a.Ret == b.Ret))
theorem zjH(a:zc)(b:zc){r:Bool}(h:ziL a b=some r):zan Tryz.prog 255 [.agg (zf a),.agg (zf b)] (bA r):=by
 refine zo Tryz.func255 y kz y y<|A ?_;obtain ⟨c,d,h⟩:=bs h;refine A ?_;exact RT0
instance (a:zc)(b:zc):PF Tryz.prog 255 [.agg (zf a),.agg (zf b)] (ziL a b) bA:=⟨fun _=>zjH a b⟩
def zgW(a:zc)(b:T0)(j:T1)(l:T0)(c:Bool)(m:Bool)(n:Int)(o:Int)(p:List zn)(d:List zX)(e:List zT):Option (Bool):=
  (cond ((a.Name == b)&&(!(b == [36,105,110,105,116]))) ((ziL (zc.mk b j l c m n o p d e) a).bind fun f=>some (((!f)||c)||a.Static)) (some false)).bind fun i=>some i
instance (i:zc)(l:T0)(m:T1)(n:T0)(o:Bool)(p:Bool)(q:Int)(s:Int)(v:List zn)(c:List zX)(d:List zT):PF Tryz.prog 307 [.agg (zf i),.ipt 10 [[sA l,.isl 1 (map zm m),sA n,bA o,bA p,iA q,iA s,.isl 4 (map zv v),.isl 3 (map zae c),.isl 4 (map z7 d)]] 0 0] (zgW i l m n o p q s v c d) bA:=⟨fun r h=>by
 refine zo Tryz.func307 y kz y y<|A ?_;obtain ⟨B,b,h⟩:=bs h;refine A ?_;refine zgn (x:=B) (j:=10) 12 y y y y y gpn (fun a=>by replace b:=bT a b;obtain ⟨D,C,b⟩:=bs b;obtain rfl:=sm b;exact g y a<|ld ti y y<|g y a<|ld ti y y<|g y a<|pc (zjH (zc.mk l m n o p q s v c d) i C) y y y<|g y a<|nt y<|g y a<|mv y<|ztF (j:=15) 2 y y y y y (gps y y a) (fun e=>g y e<|fa ti y y y<|g y e<|ld ti y y<|zz (egO [20,21] 2 e y y y y)) orT<|g y a<|mv y<|ztF (j:=19) 2 y y y y y (gps y y a) (fun f=>g y f<|fa ti y y y<|g y f<|ld ti y y<|zz (egO [24,25] 2 f y y y y)) orT<|zz (eg [15,16,17,18,19,20,21,22,23,24,25,26] 8 y y y y)) (fun hb=>(sm (bF hb b)).symm)<|A ?_
 exact RT0⟩
def zcY:Option (Int):=
  some (-1)
def zaC(b:List zc)(i:T0)(j:T1)(l:T0)(m:Bool)(n:Bool)(o:Int)(p:Int)(q:List zn)(c:List zX)(d:List zT)(a:Int):Option (Sum (Int) (Sum (Unit) (Int))):=
  cond (decide (a<(length b:Int))) ((idx b a).bind fun e=>(zgW e i j l m n o p q c d).bind fun f=>cond f (some (.inr (.inr a))) (some (.inl (IntKind.i64.wrap (a+1))))) (some (.inr (.inl ())))
def zbT(d:List zc)(e:T0)(f:T1)(i:T0)(j:Bool)(l:Bool)(m:Int)(n:Int)(p:List zn)(a:List zX)(c:List zT):Option (Int):=
  (zr (fun z=>zaC d e f i j l m n p a c z) 0).bind fun o=>zQ o (fun b=>zcY) some
instance (d:List zc)(e:T0)(f:T1)(i:T0)(j:Bool)(l:Bool)(m:Int)(n:Int)(p:List zn)(a:List zX)(c:List zT):PF Tryz.prog 225 [.isl 10 (map zf d),.fn (.func 307) [] [.ipt 10 [[sA e,.isl 1 (map zm f),sA i,bA j,bA l,iA m,iA n,.isl 4 (map zv p),.isl 3 (map zae a),.isl 4 (map z7 c)]] 0 0]] (zbT d e f i j l m n p a c) iA:=⟨fun r h=>by
 refine zo Tryz.func225 y kz y y<|A ?_;refine zi<|A ?_;obtain ⟨o,ho,h⟩:=bs h;refine lpB ho (fun z=>[(0,.isl 10 (map zf d)),(1,.fn (.func 307) [] [.ipt 10 [[sA e,.isl 1 (map zm f),sA i,bA j,bA l,iA m,iA n,.isl 4 (map zv p),.isl 3 (map zae a),.isl 4 (map z7 c)]] 0 0]),(7,iA (length d:Int)),(8,iA z)]) (fun z=>[]) (fun b=>[]) (fun b=>[]) (pG Tryz.f225 iA) (zbZ []) ?_ ?_
 ·rintro v r h;refine A ?_;refine zi ?_;refine zeh h y (fun q h=>?_) fun q h=>?_
  ·refine zg<|zi<|zs<|A ?_;obtain ⟨x,C,B,D,h⟩:=bs2 h;refine A ?_;refine zeh h y (fun s h=>?_) fun s h=>?_
   ·refine A ?_;refine zL ?_;obtain rfl:=sm h;exact ⟨_,y,_,y,zbc []⟩
   ·refine zg<|A ?_;obtain rfl:=sm h;exact ⟨_,y,zy []⟩
  ·refine zJ ?_;obtain rfl:=sm h;exact ⟨y,_,y,zy []⟩
 ·rintro ⟨⟩ rfl;refine zA<|A ?_
  exact RT0⟩
def zah(d:List zc)(e:T0)(f:T1)(i:T0)(j:Bool)(l:Bool)(m:Int)(n:Int)(o:List zn)(a:List zX)(b:List zT):Option (Bool):=
  (zbT d e f i j l m n o a b).bind fun c=>some (decide (0≤c))
theorem zcw(c:List zc)(d:T0)(e:T1)(f:T0)(i:Bool)(j:Bool)(l:Int)(m:Int)(n:List zn)(a:List zX)(b:List zT){r:Bool}(h:zah c d e f i j l m n a b=some r):zan Tryz.prog 239 [.isl 10 (map zf c),.fn (.func 307) [] [.ipt 10 [[sA d,.isl 1 (map zm e),sA f,bA i,bA j,iA l,iA m,.isl 4 (map zv n),.isl 3 (map zae a),.isl 4 (map z7 b)]] 0 0]] (bA r):=by
 refine zo Tryz.func239 y kz y y<|A ?_;obtain ⟨o,p,h⟩:=bs h;refine A ?_;exact RT0
instance (c:List zc)(d:T0)(e:T1)(f:T0)(i:Bool)(j:Bool)(l:Int)(m:Int)(n:List zn)(a:List zX)(b:List zT):PF Tryz.prog 239 [.isl 10 (map zf c),.fn (.func 307) [] [.ipt 10 [[sA d,.isl 1 (map zm e),sA f,bA i,bA j,iA l,iA m,.isl 4 (map zv n),.isl 3 (map zae a),.isl 4 (map z7 b)]] 0 0]] (zah c d e f i j l m n a b) bA:=⟨fun _=>zcw c d e f i j l m n a b⟩
def zoj:Option (Bool):=
  some true
def zjX(a:Int):Option (Sum (Int) (Sum (Unit) (Bool))):=
  some (.inl (IntKind.i64.wrap (a+1)))
def zdx(i:List za)(j:T2)(a:zc)(c:T1)(b:Int):Option (Sum (Int) (Sum (Unit) (Bool))):=
  cond (decide (b<(length c:Int))) ((idx c b).bind fun d=>(zG i j d).bind fun e=>(zah e.1.Methods a.Name a.Params a.Ret a.Static a.Abstract a.Locals a.Stack a.Code a.Maps a.Traps).bind fun f=>cond f (some (.inr (.inr false))) (some (.inl (IntKind.i64.wrap (b+1))))) (some (.inr (.inl ())))
def zdy(e:List za)(f:T2)(d:za)(a:Int):Option (Sum (Int) (Sum (Unit) (Bool))):=
  cond (decide (a<(length d.Methods:Int))) ((idx d.Methods a).bind fun i=>(zad e f d.Name).bind fun c=>(zkS c 1 (length c:Int)).bind fun j=>(zr (fun z=>zdx e f i j z) 0).bind fun o=>zQ o (fun b=>zjX a) (fun r=>some (.inr (.inr r)))) (some (.inr (.inl ())))
def zgD(a:List za)(c:T2)(d:za):Option (Bool):=
  (zr (fun z=>zdy a c d z) 0).bind fun o=>zQ o (fun b=>zoj) some
theorem zjY(e:List za)(f:T2)(d:za){r:Bool}(h:zgD e f d=some r):zan Tryz.prog 214 [.ipt 2 [[.isl 6 (map zb e),.imp (map (rKV (fun x=>iA x)) f)]] 0 0,.agg (zb d)] (bA r):=by
 refine zo Tryz.func214 y kz y y<|A ?_;refine zi<|A ?_;obtain ⟨o,ho,h⟩:=bs h;refine lpB ho (fun z=>[(0,.ipt 2 [[.isl 6 (map zb e),.imp (map (rKV (fun x=>iA x)) f)]] 0 0),(3,.mpt 0 0 0),(12,.isl 10 (map zf d.Methods)),(13,iA (length d.Methods:Int)),(14,iA z)]) (fun z=>[some (6,[(zb d)])]) (fun b=>[]) (fun b=>[]) (pG Tryz.f214 bA) (zbZ [.old 0]) ?_ ?_
 ·rintro i r h;refine A ?_;refine zi ?_;refine zeh h y (fun n h=>?_) fun n h=>?_
  ·refine zg<|zi<|zs ?_;obtain ⟨c,C,h⟩:=bs h;refine A ?_;obtain ⟨j,s,l,m,h⟩:=bs2 h;refine A ?_;refine u<|sx [] (zaf e f d.Name s)<|zO (env0:=[(0,.ipt 2 [[.isl 6 (map zb e),.imp (map (rKV (fun x=>iA x)) f)]] 0 0),(3,.mpt 0 0 0),(6,.mpt 1 0 0),(12,.isl 10 (map zf d.Methods)),(13,iA (length d.Methods:Int)),(14,iA i),(21,.msl 2 0 (length j))]) (st0:=[some (6,[(zb d)]),some (10,[(zf c)]),some (1,map zm j)]) (zy [.old 0,.old 1,.old 2])<|zO (env0:=[(0,.ipt 2 [[.isl 6 (map zb e),.imp (map (rKV (fun x=>iA x)) f)]] 0 0),(3,.mpt 0 0 0),(6,.mpt 1 0 0),(12,.isl 10 (map zf d.Methods)),(13,iA (length d.Methods:Int)),(14,iA i),(21,.isl 1 (map zm j))]) (st0:=[some (6,[(zb d)]),some (10,[(zf c)])]) (zy [.old 0,.old 1])<|u<|slI (a:=1) (b:=(length j:Int)) ti y ti y y (zwD y m) y m<|A ?_;obtain ⟨o,ho,h⟩:=bs h;refine lpS ho (fun z=>[(0,.ipt 2 [[.isl 6 (map zb e),.imp (map (rKV (fun x=>iA x)) f)]] 0 0),(3,.mpt 0 0 0),(6,.mpt 1 0 0),(12,.isl 10 (map zf d.Methods)),(13,iA (length d.Methods:Int)),(14,iA i),(22,.isl 1 (map zm l)),(23,iA (length l:Int)),(24,iA z)]) (fun z=>[some (6,[(zb d)]),some (10,[(zf c)])]) (fun b=>[(0,.ipt 2 [[.isl 6 (map zb e),.imp (map (rKV (fun x=>iA x)) f)]] 0 0),(3,.mpt 0 0 0),(12,.isl 10 (map zf d.Methods)),(13,iA (length d.Methods:Int)),(14,iA i)]) (fun b=>[some (6,[(zb d)])]) (pG Tryz.f214 bA) (zbZ [.old 0,.old 1]) ?_ ?_ ?_
   ·rintro D r h;refine A ?_;refine zi ?_;refine zeh h y (fun p h=>?_) fun p h=>?_
    ·refine zg<|zi<|zs ?_;obtain ⟨E,F,h⟩:=bs h;refine A ?_;obtain ⟨v,G,h⟩:=bs h;refine A ?_;obtain ⟨H,B,h⟩:=bs h;refine A ?_;refine u<|pcs (zcw v.1.Methods c.Name c.Params c.Ret c.Static c.Abstract c.Locals c.Stack c.Code c.Maps c.Traps B) y y (.cons (si y) (.cons (zfW t ⟨(zay y ⟨(si y),(si y),(si y),(si y),(si y),(si y),(si y),(si y),(si y),(si y),t⟩),t⟩) .nil)) za9<|zz ?_;refine zeh h y (fun q h=>?_) fun q h=>?_
     ·refine A ?_;refine zL ?_;obtain rfl:=sm h;exact ⟨_,y,_,y,zbc []⟩
     ·refine zg<|A ?_;obtain rfl:=sm h;exact ⟨_,y,zy [.old 0,.old 1]⟩
    ·refine zJ ?_;obtain rfl:=sm h;exact ⟨y,_,y,zy [.old 0]⟩
   ·rintro ⟨⟩ rfl;refine zA<|A ?_;obtain rfl:=sm h;exact ⟨_,y,zy [.old 0]⟩
   ·rintro r' rfl env st hp;obtain rfl:=sm h;exact ⟨_,y,hp⟩
  ·refine zJ ?_;obtain rfl:=sm h;exact ⟨y,_,y,zy []⟩
 ·rintro ⟨⟩ rfl;refine zA<|A ?_;exact RT0
instance (a:List za)(b:T2)(c:za):PF Tryz.prog 214 [.ipt 2 [[.isl 6 (map zb a),.imp (map (rKV (fun x=>iA x)) b)]] 0 0,.agg (zb c)] (zgD a b c) bA:=⟨fun _=>zjY a b c⟩
def ziX(a:zc)(b:T0)(i:T1)(j:T0)(l:Bool)(m:Bool)(n:Int)(o:Int)(p:List zn)(c:List zX)(d:List zT):Option (Bool):=
  (cond (a.Name == b) ((ziL (zc.mk b i j l m n o p c d) a).bind fun e=>some (!e)) (some false)).bind fun f=>some f
instance (e:zc)(f:T0)(i:T1)(l:T0)(m:Bool)(n:Bool)(o:Int)(p:Int)(q:List zn)(c:List zX)(d:List zT):PF Tryz.prog 308 [.agg (zf e),.ipt 10 [[sA f,.isl 1 (map zm i),sA l,bA m,bA n,iA o,iA p,.isl 4 (map zv q),.isl 3 (map zae c),.isl 4 (map z7 d)]] 0 0] (ziX e f i l m n o p q c d) bA:=⟨fun r h=>by
 refine zo Tryz.func308 y kz y y<|A ?_;obtain ⟨s,b,h⟩:=bs h;refine A ?_;refine zgn (x:=s) (j:=5) 4 y y y y y gpn (fun a=>by replace b:=bT a b;obtain ⟨B,v,b⟩:=bs b;obtain rfl:=sm b;exact g y a<|ld ti y y<|g y a<|ld ti y y<|g y a<|pc (zjH (zc.mk f i l m n o p q c d) e v) y y y<|g y a<|nt y<|zz (eg [10,11,12,13] 4 y y y y)) (fun hb=>(sm (bF hb b)).symm)<|A ?_
 exact RT0⟩
def zcZ:Option (Int):=
  some (-1)
def zaD(b:List zc)(i:T0)(j:T1)(l:T0)(m:Bool)(n:Bool)(o:Int)(p:Int)(q:List zn)(c:List zX)(d:List zT)(a:Int):Option (Sum (Int) (Sum (Unit) (Int))):=
  cond (decide (a<(length b:Int))) ((idx b a).bind fun e=>(ziX e i j l m n o p q c d).bind fun f=>cond f (some (.inr (.inr a))) (some (.inl (IntKind.i64.wrap (a+1))))) (some (.inr (.inl ())))
def zbU(d:List zc)(e:T0)(f:T1)(i:T0)(j:Bool)(l:Bool)(m:Int)(n:Int)(p:List zn)(a:List zX)(c:List zT):Option (Int):=
  (zr (fun z=>zaD d e f i j l m n p a c z) 0).bind fun o=>zQ o (fun b=>zcZ) some
instance (d:List zc)(e:T0)(f:T1)(i:T0)(j:Bool)(l:Bool)(m:Int)(n:Int)(p:List zn)(a:List zX)(c:List zT):PF Tryz.prog 225 [.isl 10 (map zf d),.fn (.func 308) [] [.ipt 10 [[sA e,.isl 1 (map zm f),sA i,bA j,bA l,iA m,iA n,.isl 4 (map zv p),.isl 3 (map zae a),.isl 4 (map z7 c)]] 0 0]] (zbU d e f i j l m n p a c) iA:=⟨fun r h=>by
 refine zo Tryz.func225 y kz y y<|A ?_;refine zi<|A ?_;obtain ⟨o,ho,h⟩:=bs h;refine lpB ho (fun z=>[(0,.isl 10 (map zf d)),(1,.fn (.func 308) [] [.ipt 10 [[sA e,.isl 1 (map zm f),sA i,bA j,bA l,iA m,iA n,.isl 4 (map zv p),.isl 3 (map zae a),.isl 4 (map z7 c)]] 0 0]),(7,iA (length d:Int)),(8,iA z)]) (fun z=>[]) (fun b=>[]) (fun b=>[]) (pG Tryz.f225 iA) (zbZ []) ?_ ?_
 ·rintro v r h;refine A ?_;refine zi ?_;refine zeh h y (fun q h=>?_) fun q h=>?_
  ·refine zg<|zi<|zs<|A ?_;obtain ⟨x,C,B,D,h⟩:=bs2 h;refine A ?_;refine zeh h y (fun s h=>?_) fun s h=>?_
   ·refine A ?_;refine zL ?_;obtain rfl:=sm h;exact ⟨_,y,_,y,zbc []⟩
   ·refine zg<|A ?_;obtain rfl:=sm h;exact ⟨_,y,zy []⟩
  ·refine zJ ?_;obtain rfl:=sm h;exact ⟨y,_,y,zy []⟩
 ·rintro ⟨⟩ rfl;refine zA<|A ?_
  exact RT0⟩
def zai(d:List zc)(e:T0)(f:T1)(i:T0)(j:Bool)(l:Bool)(m:Int)(n:Int)(o:List zn)(a:List zX)(b:List zT):Option (Bool):=
  (zbU d e f i j l m n o a b).bind fun c=>some (decide (0≤c))
theorem zcx(c:List zc)(d:T0)(e:T1)(f:T0)(i:Bool)(j:Bool)(l:Int)(m:Int)(n:List zn)(a:List zX)(b:List zT){r:Bool}(h:zai c d e f i j l m n a b=some r):zan Tryz.prog 239 [.isl 10 (map zf c),.fn (.func 308) [] [.ipt 10 [[sA d,.isl 1 (map zm e),sA f,bA i,bA j,iA l,iA m,.isl 4 (map zv n),.isl 3 (map zae a),.isl 4 (map z7 b)]] 0 0]] (bA r):=by
 refine zo Tryz.func239 y kz y y<|A ?_;obtain ⟨o,p,h⟩:=bs h;refine A ?_;exact RT0
instance (c:List zc)(d:T0)(e:T1)(f:T0)(i:Bool)(j:Bool)(l:Int)(m:Int)(n:List zn)(a:List zX)(b:List zT):PF Tryz.prog 239 [.isl 10 (map zf c),.fn (.func 308) [] [.ipt 10 [[sA d,.isl 1 (map zm e),sA f,bA i,bA j,iA l,iA m,.isl 4 (map zv n),.isl 3 (map zae a),.isl 4 (map z7 b)]] 0 0]] (zai c d e f i j l m n a b) bA:=⟨fun _=>zcx c d e f i j l m n a b⟩
def zb1(a:zc):Bool:=
  ((!a.Static)&&(!a.Abstract))
theorem zl7(a:zc){r:Bool}(h:zb1 a=r):zan Tryz.prog 330 [.agg (zf a)] (bA r):=by
 refine zo Tryz.func330 y kz y y ?_;unfold zb1 at h;refine A ?_;refine A ?_;refine zL ?_;obtain rfl:=h;exact ⟨_,y,zbc []⟩
instance (a:zc):PF Tryz.prog 330 [.agg (zf a)] (some (zb1 a)) bA:=.of fun _=>zl7 a
def zrj:Option (T0×zc×Bool):=
  some ([],(zc.mk [] [] [] false false 0 0 [] [] []),false)
def zgb(l:List za)(m:T2)(e:T1)(n:T0)(a:Int):Option (Sum (Int) (Sum (Unit) (T0×zc×Bool))):=
  cond (decide (a<(length e:Int))) ((idx e a).bind fun d=>(zG l m d).bind fun b=>(zeC b.1 n).bind fun c=>(cond (decide (0≤c)) ((idx b.1.Methods c).bind fun f=>some (zb1 f)) (some false)).bind fun i=>cond i ((idx b.1.Methods c).bind fun j=>some (.inr (.inr (d,j,true)))) (some (.inl (IntKind.i64.wrap (a+1))))) (some (.inr (.inl ())))
def zkG(a:List za)(c:T2)(d:T1)(e:T0):Option (T0×zc×Bool):=
  (zr (fun z=>zgb a c d e z) 0).bind fun o=>zQ o (fun b=>zrj) some
instance (i:List za)(l:T2)(d:T1)(e:T0):PF Tryz.prog 218 [.ipt 2 [[.isl 6 (map zb i),.imp (map (rKV (fun x=>iA x)) l)]] 0 0,.isl 1 (map zm d),sA e,.fn (.func 330) [] []] (zkG i l d e) (fun r=>(.tup [sA r.1,.agg (zf r.2.1),bA r.2.2])):=⟨fun r h=>by
 refine zo Tryz.func218 y kz y y<|A ?_;refine zi<|A ?_;obtain ⟨o,ho,h⟩:=bs h;refine lpB ho (fun z=>[(0,.ipt 2 [[.isl 6 (map zb i),.imp (map (rKV (fun x=>iA x)) l)]] 0 0),(2,sA e),(3,.fn (.func 330) [] []),(9,.mpt 0 0 0),(16,.isl 1 (map zm d)),(17,iA (length d:Int)),(18,iA z)]) (fun z=>[some (10,[[sA [],.lit (.slice none 0 0),sA [],bA false,bA false,iA 0,iA 0,.lit (.slice none 0 0),.lit (.slice none 0 0),.lit (.slice none 0 0)]])]) (fun b=>[(9,.mpt 0 0 0)]) (fun b=>[some (10,[[sA [],.lit (.slice none 0 0),sA [],bA false,bA false,iA 0,iA 0,.lit (.slice none 0 0),.lit (.slice none 0 0),.lit (.slice none 0 0)]])]) (pG Tryz.f218 (fun r=>.tup [sA r.1,.agg (zf r.2.1),bA r.2.2])) (zbZ [.old 0]) ?_ ?_
 ·rintro C r h;refine A ?_;refine zi ?_;refine zeh h y (fun m h=>?_) fun m h=>?_
  ·refine zg<|zi<|zs ?_;obtain ⟨D,E,h⟩:=bs h;refine A ?_;obtain ⟨p,F,h⟩:=bs h;refine A ?_;obtain ⟨G,q,h⟩:=bs h;refine rg y<|u<|ld ti y y<|u<|mv y<|u<|pc (zf2 p.1 e q) y y y<|u<|asg y<|zz ?_;obtain ⟨s,c,h⟩:=bs h;refine rg y<|u<|mv y<|u<|geq ti y y<|u<|mv y<|zgn (x:=s) (j:=2) 7 y y y y y gpn (fun a=>by replace c:=bT a c;obtain ⟨v,f,c⟩:=bs c;obtain rfl:=sm c;exact g y a<|mv y<|g y a<|fa ti y y y<|g y a<|ld ti y y<|g y a<|mv y<|g y a<|ixI ti y ti y y y f<|g y a<|ldI ti y (zt f).2.2 y<|g y a<|pc (zl7 v y) y y y<|zz (eg [34,35,36,37,38,39,40] 7 y y y y)) (fun hb=>(sm (bF hb c)).symm)<|zz ?_;refine zeh h y (fun n h=>?_) fun n h=>?_
   ·obtain ⟨B,H,h⟩:=bs h;refine rdA [(8,_),(9,_),(10,_)] [some (10,[(zf B)])] [7] [0,1,2,3,4,5,6] [(8,_),(47,_),(46,_),(45,_),(44,_),(43,_),(42,_)] 1 (ze7 (z:=by exact ⟨(fun _ _=>⟨_,y,y,sto ti y y y<|⟨.any,[8],[(10,_)],y,y,y,t,zgE (z:=zbZ [.old 0])⟩⟩),t⟩)) ?_;refine zL ?_;obtain rfl:=sm h;exact ⟨_,y,_,y,zbc []⟩
   ·refine zg<|A ?_;obtain rfl:=sm h;exact ⟨_,y,zy [.old 0]⟩
  ·refine zJ ?_;obtain rfl:=sm h;exact ⟨y,_,y,zy [.old 0]⟩
 ·rintro ⟨⟩ rfl;refine zA<|A ?_
  exact RT0⟩
def zhG(a:List za)(b:T2)(d:T0)(e:T0):Option (T0×Bool):=
  (zad a b d).bind fun f=>(zkG a b f e).bind fun c=>some (c.1,c.2.2)
instance (a:List za)(b:T2)(d:T0)(c:T0):PF Tryz.prog 253 [.ipt 2 [[.isl 6 (map zb a),.imp (map (rKV (fun x=>iA x)) b)]] 0 0,sA d,sA c] (zhG a b d c) (fun r=>(.tup [sA r.1,bA r.2])):=⟨fun r h=>by
 refine zo Tryz.func253 y kz y y<|A ?_;obtain ⟨e,f,i,j,h⟩:=bs2 h;refine A ?_;refine u<|sx [] (zaf a b d f)<|zO (env0:=[(2,sA c),(12,.ipt 2 [[.isl 6 (map zb a),.imp (map (rKV (fun x=>iA x)) b)]] 0 0),(15,.msl 0 0 (length e))]) (st0:=[some (1,map zm e)]) (zy [.old 0])<|u<|mv y<|zO (env0:=[(12,.ipt 2 [[.isl 6 (map zb a),.imp (map (rKV (fun x=>iA x)) b)]] 0 0),(15,.isl 1 (map zm e)),(16,sA c)]) (st0:=[]) (zy [])<|A ?_;refine A ?_
 exact RT0⟩
def zky(a:zc)(b:T0)(i:T1)(j:T0)(l:Bool)(m:Bool)(n:Int)(o:Int)(p:List zn)(c:List zX)(d:List zT):Option (Bool):=
  (cond (a.Name == b) ((ziL (zc.mk b i j l m n o p c d) a).bind fun e=>some e) (some false)).bind fun f=>some f
instance (e:zc)(f:T0)(i:T1)(l:T0)(m:Bool)(n:Bool)(o:Int)(p:Int)(q:List zn)(c:List zX)(d:List zT):PF Tryz.prog 350 [.agg (zf e),.ipt 10 [[sA f,.isl 1 (map zm i),sA l,bA m,bA n,iA o,iA p,.isl 4 (map zv q),.isl 3 (map zae c),.isl 4 (map z7 d)]] 0 0] (zky e f i l m n o p q c d) bA:=⟨fun r h=>by
 refine zo Tryz.func350 y kz y y<|A ?_;obtain ⟨s,b,h⟩:=bs h;refine A ?_;refine zgn (x:=s) (j:=5) 3 y y y y y gpn (fun a=>by replace b:=bT a b;obtain ⟨B,v,b⟩:=bs b;obtain rfl:=sm b;exact g y a<|ld ti y y<|g y a<|ld ti y y<|g y a<|pc (zjH (zc.mk f i l m n o p q c d) e v) y y y<|zz (eg [10,11,12] 3 y y y y)) (fun hb=>(sm (bF hb b)).symm)<|A ?_
 exact RT0⟩
def zc1:Option (Int):=
  some (-1)
def zaF(b:List zc)(i:T0)(j:T1)(l:T0)(m:Bool)(n:Bool)(o:Int)(p:Int)(q:List zn)(c:List zX)(d:List zT)(a:Int):Option (Sum (Int) (Sum (Unit) (Int))):=
  cond (decide (a<(length b:Int))) ((idx b a).bind fun e=>(zky e i j l m n o p q c d).bind fun f=>cond f (some (.inr (.inr a))) (some (.inl (IntKind.i64.wrap (a+1))))) (some (.inr (.inl ())))
def zbW(d:List zc)(e:T0)(f:T1)(i:T0)(j:Bool)(l:Bool)(m:Int)(n:Int)(p:List zn)(a:List zX)(c:List zT):Option (Int):=
  (zr (fun z=>zaF d e f i j l m n p a c z) 0).bind fun o=>zQ o (fun b=>zc1) some
instance (d:List zc)(e:T0)(f:T1)(i:T0)(j:Bool)(l:Bool)(m:Int)(n:Int)(p:List zn)(a:List zX)(c:List zT):PF Tryz.prog 225 [.isl 10 (map zf d),.fn (.func 350) [] [.ipt 10 [[sA e,.isl 1 (map zm f),sA i,bA j,bA l,iA m,iA n,.isl 4 (map zv p),.isl 3 (map zae a),.isl 4 (map z7 c)]] 0 0]] (zbW d e f i j l m n p a c) iA:=⟨fun r h=>by
 refine zo Tryz.func225 y kz y y<|A ?_;refine zi<|A ?_;obtain ⟨o,ho,h⟩:=bs h;refine lpB ho (fun z=>[(0,.isl 10 (map zf d)),(1,.fn (.func 350) [] [.ipt 10 [[sA e,.isl 1 (map zm f),sA i,bA j,bA l,iA m,iA n,.isl 4 (map zv p),.isl 3 (map zae a),.isl 4 (map z7 c)]] 0 0]),(7,iA (length d:Int)),(8,iA z)]) (fun z=>[]) (fun b=>[]) (fun b=>[]) (pG Tryz.f225 iA) (zbZ []) ?_ ?_
 ·rintro v r h;refine A ?_;refine zi ?_;refine zeh h y (fun q h=>?_) fun q h=>?_
  ·refine zg<|zi<|zs<|A ?_;obtain ⟨x,C,B,D,h⟩:=bs2 h;refine A ?_;refine zeh h y (fun s h=>?_) fun s h=>?_
   ·refine A ?_;refine zL ?_;obtain rfl:=sm h;exact ⟨_,y,_,y,zbc []⟩
   ·refine zg<|A ?_;obtain rfl:=sm h;exact ⟨_,y,zy []⟩
  ·refine zJ ?_;obtain rfl:=sm h;exact ⟨y,_,y,zy []⟩
 ·rintro ⟨⟩ rfl;refine zA<|A ?_
  exact RT0⟩
def zak(d:List zc)(e:T0)(f:T1)(i:T0)(j:Bool)(l:Bool)(m:Int)(n:Int)(o:List zn)(a:List zX)(b:List zT):Option (Bool):=
  (zbW d e f i j l m n o a b).bind fun c=>some (decide (0≤c))
theorem zcz(c:List zc)(d:T0)(e:T1)(f:T0)(i:Bool)(j:Bool)(l:Int)(m:Int)(n:List zn)(a:List zX)(b:List zT){r:Bool}(h:zak c d e f i j l m n a b=some r):zan Tryz.prog 239 [.isl 10 (map zf c),.fn (.func 350) [] [.ipt 10 [[sA d,.isl 1 (map zm e),sA f,bA i,bA j,iA l,iA m,.isl 4 (map zv n),.isl 3 (map zae a),.isl 4 (map z7 b)]] 0 0]] (bA r):=by
 refine zo Tryz.func239 y kz y y<|A ?_;obtain ⟨o,p,h⟩:=bs h;refine A ?_;exact RT0
instance (c:List zc)(d:T0)(e:T1)(f:T0)(i:Bool)(j:Bool)(l:Int)(m:Int)(n:List zn)(a:List zX)(b:List zT):PF Tryz.prog 239 [.isl 10 (map zf c),.fn (.func 350) [] [.ipt 10 [[sA d,.isl 1 (map zm e),sA f,bA i,bA j,iA l,iA m,.isl 4 (map zv n),.isl 3 (map zae a),.isl 4 (map z7 b)]] 0 0]] (zak c d e f i j l m n a b) bA:=⟨fun _=>zcz c d e f i j l m n a b⟩
def zni(b:List za)(c:T2)(e:T0)(a:zc):Option (Bool):=
  (zhG b c e a.Name).bind fun d=>cond (!d.2) (some false) ((zG b c d.1).bind fun f=>(zak f.1.Methods a.Name a.Params a.Ret a.Static a.Abstract a.Locals a.Stack a.Code a.Maps a.Traps).bind fun i=>some i)
instance (b:List za)(c:T2)(d:T0)(a:zc):PF Tryz.prog 310 [.ipt 2 [[.isl 6 (map zb b),.imp (map (rKV (fun x=>iA x)) c)]] 0 0,sA d,.agg (zf a)] (zni b c d a) bA:=⟨fun r h=>by
 refine zo Tryz.func310 y kz y y<|A ?_;obtain ⟨j,l,h⟩:=bs h;refine A ?_;refine zi<|A ?_;refine zeh h y (fun e h=>?_) fun e h=>?_
 ·refine A ?_;exact RT0
 ·refine zg ?_;obtain ⟨f,m,h⟩:=bs h;refine A ?_;obtain ⟨n,i,h⟩:=bs h;refine A ?_;refine u<|pcs (zcz f.1.Methods a.Name a.Params a.Ret a.Static a.Abstract a.Locals a.Stack a.Code a.Maps a.Traps i) y y (.cons (si y) (.cons (zfW t ⟨(zay y ⟨(si y),(si y),(si y),(si y),(si y),(si y),(si y),(si y),(si y),(si y),t⟩),t⟩) .nil)) za9<|A ?_
  exact RT0⟩
def zkQ(b:zc)(c:List za)(d:T2)(e:T0)(f:T0)(i:Bool)(j:T1)(l:List zj)(m:List zc):Option (Bool):=
  (zni c d e b).bind fun a=>some (!a)
instance (a:zc)(b:List za)(c:T2)(d:T0)(e:T0)(f:Bool)(i:T1)(j:List zj)(l:List zc):PF Tryz.prog 309 [.agg (zf a),.ipt 1 [[.ipt 2 [[.isl 6 (map zb b),.imp (map (rKV (fun x=>iA x)) c)]] 0 0]] 0 0,.ipt 6 [[sA d,sA e,bA f,.isl 1 (map zm i),.isl 3 (map zD j),.isl 10 (map zf l)]] 0 0] (zkQ a b c d e f i j l) bA:=⟨fun r h=>by
 refine zo Tryz.func309 y kz y y<|A ?_;obtain ⟨m,n,h⟩:=bs h;refine A ?_
 exact RT0⟩
def zc0:Option (Int):=
  some (-1)
def zaE(b:List zc)(e:List za)(f:T2)(i:T0)(j:T0)(l:Bool)(m:T1)(n:List zj)(o:List zc)(a:Int):Option (Sum (Int) (Sum (Unit) (Int))):=
  cond (decide (a<(length b:Int))) ((idx b a).bind fun c=>(zkQ c e f i j l m n o).bind fun d=>cond d (some (.inr (.inr a))) (some (.inl (IntKind.i64.wrap (a+1))))) (some (.inr (.inl ())))
def zbV(a:List zc)(c:List za)(d:T2)(e:T0)(f:T0)(i:Bool)(j:T1)(l:List zj)(m:List zc):Option (Int):=
  (zr (fun z=>zaE a c d e f i j l m z) 0).bind fun o=>zQ o (fun b=>zc0) some
instance (a:List zc)(c:List za)(d:T2)(e:T0)(f:T0)(i:Bool)(j:T1)(l:List zj)(m:List zc):PF Tryz.prog 225 [.isl 10 (map zf a),.fn (.func 309) [] [.ipt 1 [[.ipt 2 [[.isl 6 (map zb c),.imp (map (rKV (fun x=>iA x)) d)]] 0 0]] 0 0,.ipt 6 [[sA e,sA f,bA i,.isl 1 (map zm j),.isl 3 (map zD l),.isl 10 (map zf m)]] 0 0]] (zbV a c d e f i j l m) iA:=⟨fun r h=>by
 refine zo Tryz.func225 y kz y y<|A ?_;refine zi<|A ?_;obtain ⟨o,ho,h⟩:=bs h;refine lpB ho (fun z=>[(0,.isl 10 (map zf a)),(1,.fn (.func 309) [] [.ipt 1 [[.ipt 2 [[.isl 6 (map zb c),.imp (map (rKV (fun x=>iA x)) d)]] 0 0]] 0 0,.ipt 6 [[sA e,sA f,bA i,.isl 1 (map zm j),.isl 3 (map zD l),.isl 10 (map zf m)]] 0 0]),(7,iA (length a:Int)),(8,iA z)]) (fun z=>[]) (fun b=>[]) (fun b=>[]) (pG Tryz.f225 iA) (zbZ []) ?_ ?_
 ·rintro q r h;refine A ?_;refine zi ?_;refine zeh h y (fun n h=>?_) fun n h=>?_
  ·refine zg<|zi<|zs<|A ?_;obtain ⟨s,B,v,C,h⟩:=bs2 h;refine A ?_;refine zeh h y (fun p h=>?_) fun p h=>?_
   ·refine A ?_;refine zL ?_;obtain rfl:=sm h;exact ⟨_,y,_,y,zbc []⟩
   ·refine zg<|A ?_;obtain rfl:=sm h;exact ⟨_,y,zy []⟩
  ·refine zJ ?_;obtain rfl:=sm h;exact ⟨y,_,y,zy []⟩
 ·rintro ⟨⟩ rfl;refine zA<|A ?_
  exact RT0⟩
def zaj(b:List zc)(c:List za)(d:T2)(e:T0)(f:T0)(i:Bool)(j:T1)(l:List zj)(m:List zc):Option (Bool):=
  (zbV b c d e f i j l m).bind fun a=>some (decide (0≤a))
theorem zcy(a:List zc)(b:List za)(c:T2)(d:T0)(e:T0)(f:Bool)(i:T1)(j:List zj)(l:List zc){r:Bool}(h:zaj a b c d e f i j l=some r):zan Tryz.prog 239 [.isl 10 (map zf a),.fn (.func 309) [] [.ipt 1 [[.ipt 2 [[.isl 6 (map zb b),.imp (map (rKV (fun x=>iA x)) c)]] 0 0]] 0 0,.ipt 6 [[sA d,sA e,bA f,.isl 1 (map zm i),.isl 3 (map zD j),.isl 10 (map zf l)]] 0 0]] (bA r):=by
 refine zo Tryz.func239 y kz y y<|A ?_;obtain ⟨m,n,h⟩:=bs h;refine A ?_;exact RT0
instance (a:List zc)(b:List za)(c:T2)(d:T0)(e:T0)(f:Bool)(i:T1)(j:List zj)(l:List zc):PF Tryz.prog 239 [.isl 10 (map zf a),.fn (.func 309) [] [.ipt 1 [[.ipt 2 [[.isl 6 (map zb b),.imp (map (rKV (fun x=>iA x)) c)]] 0 0]] 0 0,.ipt 6 [[sA d,sA e,bA f,.isl 1 (map zm i),.isl 3 (map zD j),.isl 10 (map zf l)]] 0 0]] (zaj a b c d e f i j l) bA:=⟨fun _=>zcy a b c d e f i j l⟩
def zmA(d:List za)(e:T2)(a:za)(b:List zc):Option (Bool):=
  cond a.Interface (some true) ((zaj b d e a.Name a.Super a.Interface a.Impl a.Fields a.Methods).bind fun c=>some (!c))
def zmz(a:Int)(b:List zc):Option (Sum ((List zc)×Int) (Sum ((List zc)) (Bool))):=
  some (.inl (b,(IntKind.i64.wrap (a+1))))
def zf6(d:za×Bool)(b:List zc)(c:Int):Option (Sum ((List zc)×Int) (Sum ((List zc)) (Bool))):=
  cond (decide (c<(length d.1.Methods:Int))) ((idx d.1.Methods c).bind fun a=>(zai b a.Name a.Params a.Ret a.Static a.Abstract a.Locals a.Stack a.Code a.Maps a.Traps).bind fun e=>cond e (some (.inr (.inr false))) ((zhj 152 b [a]).bind fun f=>some (.inl (f,(IntKind.i64.wrap (c+1)))))) (some (.inr (.inl b)))
def zf7(i:List za)(j:T2)(d:T1)(c:List zc)(a:Int):Option (Sum ((List zc)×Int) (Sum ((List zc)) (Bool))):=
  cond (decide (a<((length d):Int))) ((idx d a).bind fun e=>(zG i j e).bind fun f=>(zr (fun z=>zf6 f z.1 z.2) (c,0)).bind fun o=>zQ o (fun b=>zmz a b) (fun r=>some (.inr (.inr r)))) (some (.inr (.inl c)))
def zi8(a:List za)(c:T2)(d:za):Option (Bool):=
  (zec a c d.Name).bind fun e=>(zr (fun z=>zf7 a c e z.1 z.2) ([],0)).bind fun o=>zQ o (fun b=>zmA a c d b) some
theorem zmB(e:List za)(i:T2)(c:za){r:Bool}(h:zi8 e i c=some r):zan Tryz.prog 215 [.ipt 2 [[.isl 6 (map zb e),.imp (map (rKV (fun x=>iA x)) i)]] 0 0,.agg (zb c)] (bA r):=by
 refine zo Tryz.func215 y kz y y<|A ?_;refine A ?_;refine zi ?_;obtain ⟨d,E,h⟩:=bs h;refine A ?_;refine u<|sx [] (zhb e i c.Name E)<|zO (env0:=[(2,.mpt 0 0 0),(3,.mpt 1 0 0),(5,.lit (.slice none 0 0)),(15,.msl 2 0 (length d))]) (st0:=[some (1,[[.ipt 2 [[.isl 6 (map zb e),.imp (map (rKV (fun x=>iA x)) i)]] 0 0]]),some (6,[(zb c)]),some (1,map zm d)]) (zy [.old 0,.old 1,.old 2])<|A ?_;obtain ⟨o,ho,h⟩:=bs h;refine lpB ho (fun z=>[(2,.mpt 0 0 0),(3,.mpt 1 0 0),(5,.msl 2 0 (length z.1)),(15,.msl 3 0 (length d)),(16,iA ((length d):Int)),(17,iA z.2)]) (fun z=>[some (1,[[.ipt 2 [[.isl 6 (map zb e),.imp (map (rKV (fun x=>iA x)) i)]] 0 0]]),some (6,[(zb c)]),some (10,map zf z.1),some (1,map zm d)]) (fun b=>[(2,.mpt 0 0 0),(3,.mpt 1 0 0),(5,.msl 2 0 (length b))]) (fun b=>[some (1,[[.ipt 2 [[.isl 6 (map zb e),.imp (map (rKV (fun x=>iA x)) i)]] 0 0]]),some (6,[(zb c)]),some (10,map zf b)]) (pG Tryz.f215 bA) ⟨[.old 0,.old 1,.fresh 10,.old 2],cv y (.mpt y)<|cv y (.mpt y)<|cv y (.nilown y)<|cv y (.msl y)<|ce y y<|ce y y<|cn,y,⟨⟨_,y,zfU ⟨ci y,t⟩⟩,⟨_,y,zfU (ciL y)⟩,w,⟨_,y,zgo (fun _=>y)⟩,t⟩,y,k⟩ ?_ ?_
 ·rintro ⟨F,j⟩ r h;refine A ?_;refine zi ?_;refine zeh h y (fun m h=>?_) fun m h=>?_
  ·refine zg<|zi<|zs ?_;obtain ⟨G,H,h⟩:=bs h;refine A ?_;obtain ⟨l,I,h⟩:=bs h;refine A ?_;refine A ?_;obtain ⟨o,ho,h⟩:=bs h;refine lpS ho (fun z=>[(2,.mpt 0 0 0),(3,.mpt 1 0 0),(5,.msl 2 0 (length z.1)),(15,.msl 3 0 (length d)),(16,iA ((length d):Int)),(17,iA j),(28,.isl 10 (map zf l.1.Methods)),(29,iA (length l.1.Methods:Int)),(30,iA z.2)]) (fun z=>[some (1,[[.ipt 2 [[.isl 6 (map zb e),.imp (map (rKV (fun x=>iA x)) i)]] 0 0]]),some (6,[(zb c)]),some (10,map zf z.1),some (1,map zm d)]) (fun b=>[(2,.mpt 0 0 0),(3,.mpt 1 0 0),(5,.msl 2 0 (length b)),(15,.msl 3 0 (length d)),(16,iA ((length d):Int)),(17,iA j)]) (fun b=>[some (1,[[.ipt 2 [[.isl 6 (map zb e),.imp (map (rKV (fun x=>iA x)) i)]] 0 0]]),some (6,[(zb c)]),some (10,map zf b),some (1,map zm d)]) (pG Tryz.f215 bA) (zbZ [.old 0,.old 1,.old 2,.old 3]) ?_ ?_ ?_
   ·rintro ⟨s,J⟩ r h;refine A ?_;refine zi ?_;refine zeh h y (fun n h=>?_) fun n h=>?_
    ·refine zg<|zi<|zs ?_;obtain ⟨a,K,h⟩:=bs h;refine A ?_;refine zi ?_;obtain ⟨L,v,h⟩:=bs h;refine A ?_;refine u<|pcs (zcx s a.Name a.Params a.Ret a.Static a.Abstract a.Locals a.Stack a.Code a.Maps a.Traps v) y y (.cons (ziS y (fun _=>y)) (.cons (zfW t ⟨(zay y ⟨(si y),(si y),(si y),(si y),(si y),(si y),(si y),(si y),(si y),(si y),t⟩),t⟩) .nil)) za9<|zz ?_;refine zeh h y (fun p h=>?_) fun p h=>?_
     ·refine A ?_;refine zL ?_;obtain rfl:=sm h;exact ⟨_,y,_,y,zbc []⟩
     ·refine zg ?_;obtain ⟨M,B,h⟩:=bs h;refine A ?_;refine u<|apM 6 ti y ti y y (by decide) ti y y y y (roX (f:=zf) (z:=[a]) y y) (fun _=>y) y B<|A ?_;refine A ?_;obtain rfl:=sm h;exact ⟨_,y,zy [.old 0,.old 1,.old 6,.old 3]⟩
    ·refine zJ ?_;obtain rfl:=sm h;exact ⟨y,_,y,zy [.old 0,.old 1,.old 2,.old 3]⟩
   ·rintro N rfl;refine zA<|A ?_;obtain rfl:=sm h;exact ⟨_,y,zy [.old 0,.old 1,.old 2,.old 3]⟩
   ·rintro r' rfl env st hp;obtain rfl:=sm h;exact ⟨_,y,hp⟩
  ·refine zJ ?_;obtain rfl:=sm h;exact ⟨y,_,y,zy [.old 0,.old 1,.old 2]⟩
 ·rintro C rfl;refine zA<|zi<|A ?_;refine zeh h y (fun q h=>?_) fun q h=>?_
  ·refine A ?_;exact RT0
  ·refine zg ?_;obtain ⟨O,D,h⟩:=bs h;refine A ?_;refine u<|pcs (zcy C e i c.Name c.Super c.Interface c.Impl c.Fields c.Methods D) y y (.cons (ziS y (fun _=>y)) (.cons (zfW t ⟨(zay y ⟨(si y),t⟩),(zay y ⟨(si y),(si y),(si y),(si y),(si y),(si y),t⟩),t⟩) .nil)) za9<|A ?_;exact RT0
instance (a:List za)(b:T2)(c:za):PF Tryz.prog 215 [.ipt 2 [[.isl 6 (map zb a),.imp (map (rKV (fun x=>iA x)) b)]] 0 0,.agg (zb c)] (zi8 a b c) bA:=⟨fun _=>zmB a b c⟩
def zqs:Option (Int):=
  some 0
def zfj(a:zq)(c:T1)(b:Int):Option (Sum (Int) (Sum (Unit) (Int))):=
  cond (decide (b<((length c):Int))) ((idx c b).bind fun e=>(zG a.l a.at_ e).bind fun d=>(zgD a.l a.at_ d.1).bind fun f=>(cond (!f) (some true) ((zi8 a.l a.at_ d.1).bind fun i=>some (!i))).bind fun j=>cond j (some (.inr (.inr 1))) (some (.inl (IntKind.i64.wrap (b+1))))) (some (.inr (.inl ())))
def zl5(a:zq):Option (Int):=
  (zcq a.l a.at_).bind fun c=>(zr (fun z=>zfj a c z) 0).bind fun o=>zQ o (fun b=>zqs) some
def zfi(a:zq)(c:T1)(b:Int):Option (Sum (Int) (Sum (Unit) (Int))):=
  cond (decide (b<((length c):Int))) ((idx c b).bind fun f=>(zG a.l a.at_ f).bind fun d=>(zi9 a.l a.at_ d.1).bind fun e=>cond (!e) (some (.inr (.inr 4))) (some (.inl (IntKind.i64.wrap (b+1))))) (some (.inr (.inl ())))
def zgt(c:Option zq):Option (Int):=
  zt1 c (none) (fun a=>(zcq a.l a.at_).bind fun d=>(zr (fun z=>zfi a d z) 0).bind fun o=>zQ o (fun b=>zl5 a) some)
theorem zjk(m:Option zq){r:Int}(h:zgt m=some r):zan Tryz.prog 121 [zht 2 zS m] (iA r):=by
 refine zo Tryz.func121 y kz y y ?_;unfold zgt at h
 rcases m with _ |a
 ·replace h:=oeN h;cases h
 ·replace h:=oeS h;refine A ?_;refine zi ?_;obtain ⟨f,G,h⟩:=bs h;refine rg y<|u<|mv y<|u<|sx [] (zdV a.l a.at_ G)<|zO (env0:=[(0,.ipt 2 [[.isl 6 (map zb a.l),.imp (map (rKV (fun x=>iA x)) a.at_)]] 0 0),(12,.msl 0 0 (length f))]) (st0:=[some (1,map zm f)]) (zy [.old 0])<|A ?_;obtain ⟨o,ho,h⟩:=bs h;refine lpB ho (fun z=>[(0,.ipt 2 [[.isl 6 (map zb a.l),.imp (map (rKV (fun x=>iA x)) a.at_)]] 0 0),(12,.msl 0 0 (length f)),(13,iA ((length f):Int)),(14,iA z)]) (fun z=>[some (1,map zm f)]) (fun b=>[(0,.ipt 2 [[.isl 6 (map zb a.l),.imp (map (rKV (fun x=>iA x)) a.at_)]] 0 0)]) (fun b=>[]) (pG Tryz.f121 iA) (zbZ [.old 0]) ?_ ?_
  ·rintro O r h;refine A ?_;refine zi ?_;refine zeh h y (fun s h=>?_) fun s h=>?_
   ·refine zg<|zi<|zs ?_;obtain ⟨P,Q,h⟩:=bs h;refine A ?_;obtain ⟨v,R,h⟩:=bs h;refine A ?_;obtain ⟨H,B,h⟩:=bs h;refine rg y<|u<|mv y<|u<|ld ti y y<|u<|pc (zmC a.l a.at_ v.1 B) y y y<|u<|nt y<|zz ?_;refine zeh h y (fun n h=>?_) fun n h=>?_
    ·refine A ?_;refine zL ?_;obtain rfl:=sm h;exact ⟨_,y,_,y,zbc []⟩
    ·refine zg<|A ?_;obtain rfl:=sm h;exact ⟨_,y,zy [.old 0]⟩
   ·refine zJ ?_;obtain rfl:=sm h;exact ⟨y,_,y,zy []⟩
  ·rintro ⟨⟩ rfl;refine zA<|zi ?_;obtain ⟨e,C,h⟩:=bs h;refine rg y<|u<|mv y<|u<|sx [] (zdV a.l a.at_ C)<|zO (env0:=[(0,.ipt 2 [[.isl 6 (map zb a.l),.imp (map (rKV (fun x=>iA x)) a.at_)]] 0 0),(30,.msl 0 0 (length e))]) (st0:=[some (1,map zm e)]) (zy [.old 0])<|A ?_;obtain ⟨o,ho,h⟩:=bs h;refine lpB ho (fun z=>[(0,.ipt 2 [[.isl 6 (map zb a.l),.imp (map (rKV (fun x=>iA x)) a.at_)]] 0 0),(30,.msl 0 0 (length e)),(31,iA ((length e):Int)),(32,iA z)]) (fun z=>[some (1,map zm e)]) (fun b=>[]) (fun b=>[]) (pG Tryz.f121 iA) (zbZ [.old 0]) ?_ ?_
   ·rintro I r h;refine A ?_;refine zi ?_;refine zeh h y (fun p h=>?_) fun p h=>?_
    ·refine zg<|zi<|zs ?_;obtain ⟨J,K,h⟩:=bs h;refine A ?_;obtain ⟨i,L,h⟩:=bs h;refine A ?_;obtain ⟨M,D,E,d,h⟩:=bs2 h;refine rg y<|u<|mv y<|u<|ld ti y y<|u<|pc (zjY a.l a.at_ i.1 D) y y y<|u<|nt y<|u<|mv y<|ztF (x:=E) (j:=4) 4 y y y y y gpn (fun c=>by replace d:=bF c d;obtain ⟨N,F,d⟩:=bs d;obtain rfl:=sm d;exact g y c<|mv y<|g y c<|ld ti y y<|g y c<|pc (zmB a.l a.at_ i.1 F) y y y<|g y c<|nt y<|zz (eg [47,48,49,50] 4 y y y y)) (fun hb=>(sm (bT hb d)).symm)<|zz ?_;refine zeh h y (fun q h=>?_) fun q h=>?_
     ·refine A ?_;refine zL ?_;obtain rfl:=sm h;exact ⟨_,y,_,y,zbc []⟩
     ·refine zg<|A ?_;obtain rfl:=sm h;exact ⟨_,y,zy [.old 0]⟩
    ·refine zJ ?_;obtain rfl:=sm h;exact ⟨y,_,y,zy []⟩
   ·rintro ⟨⟩ rfl;refine zA<|A ?_;exact RT0
instance (a:Option zq):PF Tryz.prog 121 [zht 2 zS a] (zgt a) iA:=⟨fun _=>zjk a⟩
def zhL(a:T0):Bool:=
  false
instance (a:T0):PF Tryz.prog 102 [.lit (.pointer none),sA a] (some (zhL a)) bA:=.of fun r h=>by
 refine zo Tryz.func102 y kz y y ?_;unfold zhL at h;refine A ?_;refine zi<|A ?_;refine zd7 y (fun _=>?_) (fun hx=>by cases hx);refine A ?_;refine zL ?_;obtain rfl:=h;exact ⟨_,y,zbc []⟩
def zor:Option (T1):=
  some []
def zos(a:T0):Option (Sum (Unit) (Sum (Unit) (T1))):=
  cond (zhL a) ((zhj 16 ([]:T1) [a]).bind fun b=>none) (some (.inr (.inl ())))
def zjn(a:T0):Option (T1):=
  (zr (fun z=>zos a) ()).bind fun o=>zQ o (fun b=>zor) some
theorem zj3(a:T0){r:T1}(h:zjn a=some r):zan Tryz.prog 109 [.lit (.pointer none),sA a] (.isl 1 (map zm r)):=by
 refine zo Tryz.func109 y kz y y<|A ?_;refine A ?_;obtain ⟨o,ho,h⟩:=bs h;refine lpA ho (fun z=>[(0,.lit (.pointer none)),(1,sA a),(5,.lit (.slice none 0 0))]) (fun z=>[]) (fun b=>[(5,.lit (.slice none 0 0))]) (fun b=>[]) (pG Tryz.f109 (fun r=>.isl 1 (map zm r))) (zbZ []) ?_ ?_
 ·rintro ⟨⟩ r h;refine zi<|A ?_;refine zeh h y (fun c h=>?_) fun c h=>?_
  ·refine zg<|zs ?_;obtain ⟨e,d,h⟩:=bs h;refine A ?_;refine u<|apN (f:=zm) 1 ti y ti y y (by decide) ti y y y (roX (f:=zm) (z:=[a]) y y) (fun _=>y) y d<|A ?_;cases h
  ·refine zJ ?_;obtain rfl:=sm h;exact ⟨y,_,y,zy []⟩
 ·rintro ⟨⟩ rfl;refine A ?_;exact RT0
instance (a:T0):PF Tryz.prog 109 [.lit (.pointer none),sA a] (zjn a) (fun r=>(.isl 1 (map zm r))):=⟨fun _=>zj3 a⟩
def zkD(a:T0):Option (za×Bool):=
  cond (!(zhL a)) (some ((za.mk [] [] false [] [] []),false)) (none)
instance (a:T0):PF Tryz.prog 106 [.lit (.pointer none),sA a] (zkD a) (fun r=>(.tup [.agg (zb r.1),bA r.2])):=⟨fun r h=>by
 refine zo Tryz.func106 y kz y y<|A ?_;refine zi<|A ?_;refine zeh h y (fun b h=>?_) fun b h=>?_
 ·refine A ?_;exact RT0
 ·refine zg ?_
  cases h⟩
def zrk:Option (T0×zc×Bool):=
  some ([],(zc.mk [] [] [] false false 0 0 [] [] []),false)
def zrl(e:T1)(l:T0)(a:Int):Option (Sum (Int) (Sum (Unit) (T0×zc×Bool))):=
  cond (decide (a<(length e:Int))) ((idx e a).bind fun d=>(zkD d).bind fun b=>(zeC b.1 l).bind fun c=>(cond (decide (0≤c)) ((idx b.1.Methods c).bind fun f=>some (za2 f)) (some false)).bind fun i=>cond i ((idx b.1.Methods c).bind fun j=>some (.inr (.inr (d,j,true)))) (some (.inl (IntKind.i64.wrap (a+1))))) (some (.inr (.inl ())))
def zmP(a:T1)(c:T0):Option (T0×zc×Bool):=
  (zr (fun z=>zrl a c z) 0).bind fun o=>zQ o (fun b=>zrk) some
theorem zmQ(d:T1)(e:T0){r:T0×zc×Bool}(h:zmP d e=some r):zan Tryz.prog 218 [.lit (.pointer none),.isl 1 (map zm d),sA e,.fn (.func 219) [] []] (.tup [sA r.1,.agg (zf r.2.1),bA r.2.2]):=by
 refine zo Tryz.func218 y kz y y<|A ?_;refine zi<|A ?_;obtain ⟨o,ho,h⟩:=bs h;refine lpB ho (fun z=>[(0,.lit (.pointer none)),(2,sA e),(3,.fn (.func 219) [] []),(9,.mpt 0 0 0),(16,.isl 1 (map zm d)),(17,iA (length d:Int)),(18,iA z)]) (fun z=>[some (10,[[sA [],.lit (.slice none 0 0),sA [],bA false,bA false,iA 0,iA 0,.lit (.slice none 0 0),.lit (.slice none 0 0),.lit (.slice none 0 0)]])]) (fun b=>[(9,.mpt 0 0 0)]) (fun b=>[some (10,[[sA [],.lit (.slice none 0 0),sA [],bA false,bA false,iA 0,iA 0,.lit (.slice none 0 0),.lit (.slice none 0 0),.lit (.slice none 0 0)]])]) (pG Tryz.f218 (fun r=>.tup [sA r.1,.agg (zf r.2.1),bA r.2.2])) (zbZ [.old 0]) ?_ ?_
 ·rintro v r h;refine A ?_;refine zi ?_;refine zeh h y (fun i h=>?_) fun i h=>?_
  ·refine zg<|zi<|zs ?_;obtain ⟨B,C,h⟩:=bs h;refine A ?_;obtain ⟨m,D,h⟩:=bs h;refine A ?_;obtain ⟨E,n,h⟩:=bs h;refine rg y<|u<|ld ti y y<|u<|mv y<|u<|pc (zf2 m.1 e n) y y y<|u<|asg y<|zz ?_;obtain ⟨p,c,h⟩:=bs h;refine rg y<|u<|mv y<|u<|geq ti y y<|u<|mv y<|zgn (x:=p) (j:=2) 7 y y y y y gpn (fun a=>by replace c:=bT a c;obtain ⟨q,f,c⟩:=bs c;obtain rfl:=sm c;exact g y a<|mv y<|g y a<|fa ti y y y<|g y a<|ld ti y y<|g y a<|mv y<|g y a<|ixI ti y ti y y y f<|g y a<|ldI ti y (zt f).2.2 y<|g y a<|pc (zjp q y) y y y<|zz (eg [34,35,36,37,38,39,40] 7 y y y y)) (fun hb=>(sm (bF hb c)).symm)<|zz ?_;refine zeh h y (fun l h=>?_) fun l h=>?_
   ·obtain ⟨s,F,h⟩:=bs h;refine rdA [(8,_),(9,_),(10,_)] [some (10,[(zf s)])] [7] [0,1,2,3,4,5,6] [(8,_),(47,_),(46,_),(45,_),(44,_),(43,_),(42,_)] 1 (ze7 (z:=by exact ⟨(fun _ _=>⟨_,y,y,sto ti y y y<|⟨.any,[8],[(10,_)],y,y,y,t,zgE (z:=zbZ [.old 0])⟩⟩),t⟩)) ?_;refine zL ?_;obtain rfl:=sm h;exact ⟨_,y,_,y,zbc []⟩
   ·refine zg<|A ?_;obtain rfl:=sm h;exact ⟨_,y,zy [.old 0]⟩
  ·refine zJ ?_;obtain rfl:=sm h;exact ⟨y,_,y,zy [.old 0]⟩
 ·rintro ⟨⟩ rfl;refine zA<|A ?_;exact RT0
instance (a:T1)(b:T0):PF Tryz.prog 218 [.lit (.pointer none),.isl 1 (map zm a),sA b,.fn (.func 219) [] []] (zmP a b) (fun r=>(.tup [sA r.1,.agg (zf r.2.1),bA r.2.2])):=⟨fun _=>zmQ a b⟩
def zj8(f:Option zq)(d:T0)(e:T0):Option (T0×zc×Bool):=
  zt1 f ((zjn d).bind fun i=>(zmP i e).bind fun b=>some (b.1,b.2.1,b.2.2)) (fun a=>(zad a.l a.at_ d).bind fun j=>(zjd a.l a.at_ j e).bind fun c=>some (c.1,c.2.1,c.2.2))
theorem zn2(d:Option zq)(c:T0)(b:T0){r:T0×zc×Bool}(h:zj8 d c b=some r):zan Tryz.prog 124 [zht 2 zS d,sA c,sA b] (.tup [sA r.1,.agg (zf r.2.1),bA r.2.2]):=by
 refine zo Tryz.func124 y kz y y ?_;unfold zj8 at h
 rcases d with _ |a
 ·replace h:=oeN h;refine A ?_;obtain ⟨f,i,n,j,h⟩:=bs2 h;refine rg y<|u<|mv y<|u<|mv y<|u<|mv y<|u<|pc (zj3 c i) y y y<|u<|mv y<|u<|pc (zmQ f b j) y y y<|u<|ex y y<|u<|ex y y<|u<|ex y y<|u<|asg y<|u<|sto ti y y y<|u<|asg y<|zz ?_;exact RT0
 ·replace h:=oeS h;refine A ?_;obtain ⟨e,m,o,p,h⟩:=bs2 h;refine A ?_;refine u<|sx [] (zaf a.l a.at_ c m)<|zO (env0:=[(2,sA b),(7,.mpt 0 0 0),(9,.ipt 2 [[.isl 6 (map zb a.l),.imp (map (rKV (fun x=>iA x)) a.at_)]] 0 0),(12,.msl 1 0 (length e))]) (st0:=[some (10,[[sA [],.lit (.slice none 0 0),sA [],bA false,bA false,iA 0,iA 0,.lit (.slice none 0 0),.lit (.slice none 0 0),.lit (.slice none 0 0)]]),some (1,map zm e)]) (zy [.old 0,.old 1])<|u<|mv y<|zO (env0:=[(7,.mpt 0 0 0),(9,.ipt 2 [[.isl 6 (map zb a.l),.imp (map (rKV (fun x=>iA x)) a.at_)]] 0 0),(12,.isl 1 (map zm e)),(13,sA b)]) (st0:=[some (10,[[sA [],.lit (.slice none 0 0),sA [],bA false,bA false,iA 0,iA 0,.lit (.slice none 0 0),.lit (.slice none 0 0),.lit (.slice none 0 0)]])]) (zy [.old 0])<|A ?_;exact RT0
instance (a:Option zq)(b:T0)(c:T0):PF Tryz.prog 124 [zht 2 zS a,sA b,sA c] (zj8 a b c) (fun r=>(.tup [sA r.1,.agg (zf r.2.1),bA r.2.2])):=⟨fun _=>zn2 a b c⟩
def zkm(a:T0)(b:List za)(c:T2):Option (Bool):=
  (zdQ b c a).bind fun d=>some d
instance (a:T0)(b:List za)(c:T2):PF Tryz.prog 192 [sA a,.ipt 1 [[.ipt 2 [[.isl 6 (map zb b),.imp (map (rKV (fun x=>iA x)) c)]] 0 0]] 0 0] (zkm a b c) bA:=⟨fun r h=>by
 refine zo Tryz.func192 y kz y y<|A ?_;obtain ⟨d,e,h⟩:=bs h;refine A ?_
 exact RT0⟩
def zm9(a:T0)(b:List za)(c:T2):Option (Bool):=
  (zkm a b c).bind fun d=>some (!d)
instance (a:T0)(b:List za)(c:T2):PF Tryz.prog 274 [sA a,.ipt 1 [[.fn (.func 192) [] [.ipt 1 [[.ipt 2 [[.isl 6 (map zb b),.imp (map (rKV (fun x=>iA x)) c)]] 0 0]] 0 0]]] 0 0] (zm9 a b c) bA:=⟨fun r h=>by
 refine zo Tryz.func274 y kz y y<|A ?_;obtain ⟨d,e,h⟩:=bs h;refine A ?_
 exact RT0⟩
def zeQ:Option (Int):=
  some (-1)
def zbs(b:T1)(c:List za)(d:T2)(a:Int):Option (Sum (Int) (Sum (Unit) (Int))):=
  cond (decide (a<(length b:Int))) ((idx b a).bind fun e=>(zm9 e c d).bind fun f=>cond f (some (.inr (.inr a))) (some (.inl (IntKind.i64.wrap (a+1))))) (some (.inr (.inl ())))
def zdb(a:T1)(c:List za)(d:T2):Option (Int):=
  (zr (fun z=>zbs a c d z) 0).bind fun o=>zQ o (fun b=>zeQ) some
instance (a:T1)(c:List za)(d:T2):PF Tryz.prog 181 [.isl 1 (map zm a),.fn (.func 274) [] [.ipt 1 [[.fn (.func 192) [] [.ipt 1 [[.ipt 2 [[.isl 6 (map zb c),.imp (map (rKV (fun x=>iA x)) d)]] 0 0]] 0 0]]] 0 0]] (zdb a c d) iA:=⟨fun r h=>by
 refine zo Tryz.func181 y kz y y<|A ?_;refine zi<|A ?_;obtain ⟨o,ho,h⟩:=bs h;refine lpB ho (fun z=>[(0,.isl 1 (map zm a)),(1,.fn (.func 274) [] [.ipt 1 [[.fn (.func 192) [] [.ipt 1 [[.ipt 2 [[.isl 6 (map zb c),.imp (map (rKV (fun x=>iA x)) d)]] 0 0]] 0 0]]] 0 0]),(7,iA (length a:Int)),(8,iA z)]) (fun z=>[]) (fun b=>[]) (fun b=>[]) (pG Tryz.f181 iA) (zbZ []) ?_ ?_
 ·rintro i r h;refine A ?_;refine zi ?_;refine zeh h y (fun e h=>?_) fun e h=>?_
  ·refine zg<|zi<|zs<|A ?_;obtain ⟨j,l,m,n,h⟩:=bs2 h;refine A ?_;refine zeh h y (fun f h=>?_) fun f h=>?_
   ·refine A ?_;refine zL ?_;obtain rfl:=sm h;exact ⟨_,y,_,y,zbc []⟩
   ·refine zg<|A ?_;obtain rfl:=sm h;exact ⟨_,y,zy []⟩
  ·refine zJ ?_;obtain rfl:=sm h;exact ⟨y,_,y,zy []⟩
 ·rintro ⟨⟩ rfl;refine zA<|A ?_
  exact RT0⟩
def zbl(a:T1)(b:List za)(c:T2):Option (Bool):=
  (zdb a b c).bind fun d=>some (decide (0≤d))
theorem zd3(a:T1)(b:List za)(c:T2){r:Bool}(h:zbl a b c=some r):zan Tryz.prog 99 [.isl 1 (map zm a),.fn (.func 274) [] [.ipt 1 [[.fn (.func 192) [] [.ipt 1 [[.ipt 2 [[.isl 6 (map zb b),.imp (map (rKV (fun x=>iA x)) c)]] 0 0]] 0 0]]] 0 0]] (bA r):=by
 refine zo Tryz.func99 y kz y y<|A ?_;obtain ⟨d,e,h⟩:=bs h;refine A ?_;exact RT0
instance (a:T1)(b:List za)(c:T2):PF Tryz.prog 99 [.isl 1 (map zm a),.fn (.func 274) [] [.ipt 1 [[.fn (.func 192) [] [.ipt 1 [[.ipt 2 [[.isl 6 (map zb b),.imp (map (rKV (fun x=>iA x)) c)]] 0 0]] 0 0]]] 0 0]] (zbl a b c) bA:=⟨fun _=>zd3 a b c⟩
def zjR(a:T1)(b:List za)(c:T2):Option (Bool):=
  (zbl a b c).bind fun d=>some (!d)
theorem zlY(a:T1)(b:List za)(c:T2){r:Bool}(h:zjR a b c=some r):zan Tryz.prog 195 [.isl 1 (map zm a),.fn (.func 192) [] [.ipt 1 [[.ipt 2 [[.isl 6 (map zb b),.imp (map (rKV (fun x=>iA x)) c)]] 0 0]] 0 0]] (bA r):=by
 refine zo Tryz.func195 y kz y y<|A ?_;obtain ⟨e,d,h⟩:=bs h;refine A ?_;refine u<|pcs (zd3 a b c d) y y (.cons (si y) (.cons (zfW t ⟨(zay y ⟨(si y),t⟩),t⟩) .nil)) za9<|A ?_;exact RT0
instance (a:T1)(b:List za)(c:T2):PF Tryz.prog 195 [.isl 1 (map zm a),.fn (.func 192) [] [.ipt 1 [[.ipt 2 [[.isl 6 (map zb b),.imp (map (rKV (fun x=>iA x)) c)]] 0 0]] 0 0]] (zjR a b c) bA:=⟨fun _=>zlY a b c⟩
def zkp(a:List za)(b:T2)(c:T0)(d:zc)(e:T1)(f:T1)(i:Bool)(j:Bool):Unit:=
  ()
theorem zx(a:List za)(b:T2)(c:T0)(d:zc)(e:T1)(f:T1)(i:Bool)(j:Bool){r:Unit}(h:zkp a b c d e f i j=r):SC Tryz.prog 194 [.mpt 0 0 0,bA j] (tV a b c d e f i []) (.tup []) (tV a b c d e f (i||(!j)) []):=by
 refine ⟨⟨t,zdq (sz:=1) (fun _=>y),zdq (sz:=1) (fun _=>y),t⟩,zZ Tryz.func194 y kz y ?_⟩;unfold zkp at h;refine A ?_;obtain rfl:=h;exact ⟨_,y,zbc [.old 0,.old 1,.old 2]⟩
def zkn(a:T0)(b:List za)(c:T2):Option (Bool):=
  (zcB b c a a).bind fun d=>some d
instance (a:T0)(b:List za)(c:T2):PF Tryz.prog 197 [sA a,.ipt 1 [[.ipt 2 [[.isl 6 (map zb b),.imp (map (rKV (fun x=>iA x)) c)]] 0 0]] 0 0] (zkn a b c) bA:=⟨fun r h=>by
 refine zo Tryz.func197 y kz y y<|A ?_;obtain ⟨e,d,h⟩:=bs h;refine rg y<|u<|ld ti y y<|u<|mv y<|u<|mv y<|u<|pc (zdz b c a a d) y y y<|u<|asg y<|zz ?_
 exact RT0⟩
def zko(a:T0)(b:List za)(c:T2):Option (Bool):=
  (zkn a b c).bind fun d=>some (!d)
instance (a:T0)(b:List za)(c:T2):PF Tryz.prog 274 [sA a,.ipt 1 [[.fn (.func 197) [] [.ipt 1 [[.ipt 2 [[.isl 6 (map zb b),.imp (map (rKV (fun x=>iA x)) c)]] 0 0]] 0 0]]] 0 0] (zko a b c) bA:=⟨fun r h=>by
 refine zo Tryz.func274 y kz y y<|A ?_;obtain ⟨d,e,h⟩:=bs h;refine A ?_
 exact RT0⟩
def zeR:Option (Int):=
  some (-1)
def zbt(b:T1)(c:List za)(d:T2)(a:Int):Option (Sum (Int) (Sum (Unit) (Int))):=
  cond (decide (a<(length b:Int))) ((idx b a).bind fun e=>(zko e c d).bind fun f=>cond f (some (.inr (.inr a))) (some (.inl (IntKind.i64.wrap (a+1))))) (some (.inr (.inl ())))
def zdc(a:T1)(c:List za)(d:T2):Option (Int):=
  (zr (fun z=>zbt a c d z) 0).bind fun o=>zQ o (fun b=>zeR) some
instance (a:T1)(c:List za)(d:T2):PF Tryz.prog 181 [.isl 1 (map zm a),.fn (.func 274) [] [.ipt 1 [[.fn (.func 197) [] [.ipt 1 [[.ipt 2 [[.isl 6 (map zb c),.imp (map (rKV (fun x=>iA x)) d)]] 0 0]] 0 0]]] 0 0]] (zdc a c d) iA:=⟨fun r h=>by
 refine zo Tryz.func181 y kz y y<|A ?_;refine zi<|A ?_;obtain ⟨o,ho,h⟩:=bs h;refine lpB ho (fun z=>[(0,.isl 1 (map zm a)),(1,.fn (.func 274) [] [.ipt 1 [[.fn (.func 197) [] [.ipt 1 [[.ipt 2 [[.isl 6 (map zb c),.imp (map (rKV (fun x=>iA x)) d)]] 0 0]] 0 0]]] 0 0]),(7,iA (length a:Int)),(8,iA z)]) (fun z=>[]) (fun b=>[]) (fun b=>[]) (pG Tryz.f181 iA) (zbZ []) ?_ ?_
 ·rintro i r h;refine A ?_;refine zi ?_;refine zeh h y (fun e h=>?_) fun e h=>?_
  ·refine zg<|zi<|zs<|A ?_;obtain ⟨j,l,m,n,h⟩:=bs2 h;refine A ?_;refine zeh h y (fun f h=>?_) fun f h=>?_
   ·refine A ?_;refine zL ?_;obtain rfl:=sm h;exact ⟨_,y,_,y,zbc []⟩
   ·refine zg<|A ?_;obtain rfl:=sm h;exact ⟨_,y,zy []⟩
  ·refine zJ ?_;obtain rfl:=sm h;exact ⟨y,_,y,zy []⟩
 ·rintro ⟨⟩ rfl;refine zA<|A ?_
  exact RT0⟩
def zbm(a:T1)(b:List za)(c:T2):Option (Bool):=
  (zdc a b c).bind fun d=>some (decide (0≤d))
theorem zd4(a:T1)(b:List za)(c:T2){r:Bool}(h:zbm a b c=some r):zan Tryz.prog 99 [.isl 1 (map zm a),.fn (.func 274) [] [.ipt 1 [[.fn (.func 197) [] [.ipt 1 [[.ipt 2 [[.isl 6 (map zb b),.imp (map (rKV (fun x=>iA x)) c)]] 0 0]] 0 0]]] 0 0]] (bA r):=by
 refine zo Tryz.func99 y kz y y<|A ?_;obtain ⟨d,e,h⟩:=bs h;refine A ?_;exact RT0
instance (a:T1)(b:List za)(c:T2):PF Tryz.prog 99 [.isl 1 (map zm a),.fn (.func 274) [] [.ipt 1 [[.fn (.func 197) [] [.ipt 1 [[.ipt 2 [[.isl 6 (map zb b),.imp (map (rKV (fun x=>iA x)) c)]] 0 0]] 0 0]]] 0 0]] (zbm a b c) bA:=⟨fun _=>zd4 a b c⟩
def zit(a:T1)(b:List za)(c:T2):Option (Bool):=
  (zbm a b c).bind fun d=>some (!d)
theorem zl9(a:T1)(b:List za)(c:T2){r:Bool}(h:zit a b c=some r):zan Tryz.prog 195 [.isl 1 (map zm a),.fn (.func 197) [] [.ipt 1 [[.ipt 2 [[.isl 6 (map zb b),.imp (map (rKV (fun x=>iA x)) c)]] 0 0]] 0 0]] (bA r):=by
 refine zo Tryz.func195 y kz y y<|A ?_;obtain ⟨e,d,h⟩:=bs h;refine A ?_;refine u<|pcs (zd4 a b c d) y y (.cons (si y) (.cons (zfW t ⟨(zay y ⟨(si y),t⟩),t⟩) .nil)) za9<|A ?_;exact RT0
instance (a:T1)(b:List za)(c:T2):PF Tryz.prog 195 [.isl 1 (map zm a),.fn (.func 197) [] [.ipt 1 [[.ipt 2 [[.isl 6 (map zb b),.imp (map (rKV (fun x=>iA x)) c)]] 0 0]] 0 0]] (zit a b c) bA:=⟨fun _=>zl9 a b c⟩
def zfL(a:zX)(b:Int):Bool:=
  (a.At == b)
instance (a:zX)(b:Int):PF Tryz.prog 340 [.agg (zae a),.ipt 1 [[iA b]] 0 0] (some (zfL a b)) bA:=.of fun r h=>by
 refine zo Tryz.func340 y kz y y ?_;unfold zfL at h;refine A ?_;refine A ?_;refine zL ?_;obtain rfl:=h;exact ⟨_,y,zbc []⟩
def ze5:Option (Int):=
  some (-1)
def zbE(b:List zX)(c:Int)(a:Int):Option (Sum (Int) (Sum (Unit) (Int))):=
  cond (decide (a<(length b:Int))) ((idx b a).bind fun d=>cond (zfL d c) (some (.inr (.inr a))) (some (.inl (IntKind.i64.wrap (a+1))))) (some (.inr (.inl ())))
def zb6(a:List zX)(c:Int):Option (Int):=
  (zr (fun z=>zbE a c z) 0).bind fun o=>zQ o (fun b=>ze5) some
theorem ze6(a:List zX)(c:Int){r:Int}(h:zb6 a c=some r):zan Tryz.prog 339 [.isl 3 (map zae a),.fn (.func 340) [] [.ipt 1 [[iA c]] 0 0]] (iA r):=by
 refine zo Tryz.func339 y kz y y<|A ?_;refine zi<|A ?_;obtain ⟨o,ho,h⟩:=bs h;refine lpB ho (fun z=>[(0,.isl 3 (map zae a)),(1,.fn (.func 340) [] [.ipt 1 [[iA c]] 0 0]),(7,iA (length a:Int)),(8,iA z)]) (fun z=>[]) (fun b=>[]) (fun b=>[]) (pG Tryz.f339 iA) (zbZ []) ?_ ?_
 ·rintro f r h;refine A ?_;refine zi ?_;refine zeh h y (fun d h=>?_) fun d h=>?_
  ·refine zg<|zi<|zs<|A ?_;obtain ⟨i,j,h⟩:=bs h;refine A ?_;refine zeh h y (fun e h=>?_) fun e h=>?_
   ·refine A ?_;refine zL ?_;obtain rfl:=sm h;exact ⟨_,y,_,y,zbc []⟩
   ·refine zg<|A ?_;obtain rfl:=sm h;exact ⟨_,y,zy []⟩
  ·refine zJ ?_;obtain rfl:=sm h;exact ⟨y,_,y,zy []⟩
 ·rintro ⟨⟩ rfl;refine zA<|A ?_;exact RT0
instance (a:List zX)(b:Int):PF Tryz.prog 339 [.isl 3 (map zae a),.fn (.func 340) [] [.ipt 1 [[iA b]] 0 0]] (zb6 a b) iA:=⟨fun _=>ze6 a b⟩
def zdK(e:List za)(f:T2)(i:T0)(a:zc)(j:T1)(l:T1)(m:Bool)(d:Int):Option ((Option zX)):=
  (zb6 a.Maps d).bind fun b=>cond (decide (b<0)) (some none) ((idx a.Maps b).bind fun c=>some (some c))
theorem zgV(b:List za)(c:T2)(d:T0)(a:zc)(e:T1)(f:T1)(i:Bool)(j:Int){r:(Option zX)}(h:zdK b c d a e f i j=some r):SC Tryz.prog 277 [.mpt 0 0 0,iA j] (tV b c d a e f i []) (zht 3 zae r) (tV b c d a e f i []):=by
 refine ⟨⟨t,zdq (sz:=1) (fun _=>y),zdq (sz:=1) (fun _=>y),t⟩,zZ Tryz.func277 y kz y ?_⟩;refine A ?_;obtain ⟨p,n,h⟩:=bs h;refine A ?_;refine u<|pcs (ze6 a.Maps j n) y y (.cons (si y) (.cons (zfW t ⟨(zay y ⟨(si y),t⟩),t⟩) .nil)) za9<|A ?_;refine zi<|A ?_;refine zeh h y (fun l h=>?_) fun l h=>?_
 ·refine A ?_;exact RT3
 ·refine zg ?_;obtain ⟨o,m,h⟩:=bs h;refine rg y<|u<|mv y<|u<|nc y y<|u<|fa ti y y y<|u<|fa ti y y y<|u<|ld ti y y<|u<|mv y<|u<|ixI ti y ti y y y m<|zHf m<|u<|asg y<|zz ?_;exact RT3
def zic(b:List za)(c:T2)(a:T0):Option (Bool):=
  (cond (!(a == [73])) ((zcB b c a a).bind fun d=>some d) (some false)).bind fun e=>some e
instance (d:List za)(e:T2)(c:T0):PF Tryz.prog 337 [.ipt 2 [[.isl 6 (map zb d),.imp (map (rKV (fun x=>iA x)) e)]] 0 0,sA c] (zic d e c) bA:=⟨fun r h=>by
 refine zo Tryz.func337 y kz y y<|A ?_;obtain ⟨f,b,h⟩:=bs h;refine rg y<|u<|mv y<|u<|sne ti y y<|u<|mv y<|zgn (x:=f) (j:=2) 4 y y y y y gpn (fun a=>by replace b:=bT a b;obtain ⟨l,i,b⟩:=bs b;obtain rfl:=sm b;exact g y a<|mv y<|g y a<|mv y<|g y a<|mv y<|g y a<|pc (zdz d e c c i) y y y<|zz (eg [8,9,10,11] 4 y y y y)) (fun hb=>(sm (bF hb b)).symm)<|u<|asg y<|zz ?_
 exact RT0⟩
def zfJ(a:List za)(b:T2)(d:T0)(c:T0):Option (Bool):=
  (zdQ a b d).bind fun m=>(cond (!m) (some true) ((zdQ a b c).bind fun n=>some (!n))).bind fun o=>cond o (some false) (cond ((c == [84])||(d == c)) (some true) (cond (d == [78]) ((zic a b c).bind fun p=>some p) ((zic a b d).bind fun q=>(cond (!q) (some true) ((zic a b c).bind fun e=>some (!e))).bind fun f=>cond f (some false) ((zG a b c).bind fun i=>(cond i.1.Interface (some true) ((zcB a b d c).bind fun j=>some j)).bind fun l=>some l))))
theorem zju(c:List za)(d:T2)(e:T0)(f:T0){r:Bool}(h:zfJ c d e f=some r):zan Tryz.prog 271 [.ipt 2 [[.isl 6 (map zb c),.imp (map (rKV (fun x=>iA x)) d)]] 0 0,sA e,sA f] (bA r):=by
 refine zo Tryz.func271 y kz y y<|A ?_;refine zi<|zs ?_;obtain ⟨E,F,G,H,h⟩:=bs2 h;refine A ?_;refine zeh h y (fun l h=>?_) fun l h=>?_
 ·refine A ?_;exact RT0
 ·refine A ?_;refine zeh h y (fun m h=>?_) fun m h=>?_
  ·refine A ?_;exact RT0
  ·refine A ?_;refine zeh h y (fun n h=>?_) fun n h=>?_
   ·obtain ⟨I,J,h⟩:=bs h;refine A ?_;exact RT0
   ·obtain ⟨K,q,s,v,h⟩:=bs2 h;refine A ?_;refine zeh h y (fun i h=>?_) fun i h=>?_
    ·refine A ?_;exact RT0
    ·refine zg ?_;obtain ⟨B,C,h⟩:=bs h;refine A ?_;obtain ⟨o,b,h⟩:=bs h;refine rg y<|u<|fa ti y y y<|u<|ld ti y y<|u<|mv y<|ztF (x:=o) (j:=2) 4 y y y y y gpn (fun a=>by replace b:=bF a b;obtain ⟨D,p,b⟩:=bs b;obtain rfl:=sm b;exact g y a<|mv y<|g y a<|mv y<|g y a<|mv y<|g y a<|pc (zdz c d e f p) y y y<|zz (eg [54,55,56,57] 4 y y y y)) (fun hb=>(sm (bT hb b)).symm)<|u<|asg y<|zz ?_;exact RT0
instance (a:List za)(b:T2)(c:T0)(d:T0):PF Tryz.prog 271 [.ipt 2 [[.isl 6 (map zb a),.imp (map (rKV (fun x=>iA x)) b)]] 0 0,sA c,sA d] (zfJ a b c d) bA:=⟨fun _=>zju a b c d⟩
def zrL:Option (Bool):=
  some true
def zgl(f:List za)(i:T2)(b:T1)(j:T1)(a:Int):Option (Sum (Int) (Sum (Unit) (Bool))):=
  cond (decide (a<(length b:Int))) ((idx b a).bind fun c=>(idx j a).bind fun d=>(zfJ f i c d).bind fun e=>cond (!e) (some (.inr (.inr false))) (some (.inl (IntKind.i64.wrap (a+1))))) (some (.inr (.inl ())))
def zjh(d:List za)(e:T2)(a:T1)(c:T1):Option (Bool):=
  cond (!((length a:Int) == (length c:Int))) (some false) ((zr (fun z=>zgl d e a c z) 0).bind fun o=>zQ o (fun b=>zrL) some)
instance (c:List za)(d:T2)(a:T1)(e:T1):PF Tryz.prog 272 [.ipt 2 [[.isl 6 (map zb c),.imp (map (rKV (fun x=>iA x)) d)]] 0 0,.isl 1 (map zm a),.isl 1 (map zm e)] (zjh c d a e) bA:=⟨fun r h=>by
 refine zo Tryz.func272 y kz y y<|A ?_;refine zi<|A ?_;refine zeh h y (fun i h=>?_) fun i h=>?_
 ·refine A ?_;exact RT0
 ·refine zg<|zi<|A ?_;obtain ⟨o,ho,h⟩:=bs h;refine lpB ho (fun z=>[(0,.ipt 2 [[.isl 6 (map zb c),.imp (map (rKV (fun x=>iA x)) d)]] 0 0),(1,.isl 1 (map zm a)),(2,.isl 1 (map zm e)),(14,iA (length a:Int)),(15,iA z)]) (fun z=>[]) (fun b=>[]) (fun b=>[]) (pG Tryz.f272 bA) (zbZ []) ?_ ?_
  ·rintro q r h;refine A ?_;refine zi ?_;refine zeh h y (fun j h=>?_) fun j h=>?_
   ·refine zg<|zi<|zs<|A ?_;obtain ⟨l,s,m,v,n,p,h⟩:=bs3 h;refine rdA [(0,_),(1,_),(2,_),(14,_),(15,_),(28,_)] [] [] [0,1,2,3,4,5,6,7,8,9,10] [(28,_),(27,_),(26,_),(25,_),(24,_),(23,_),(22,_),(21,_),(20,_),(19,_),(18,_)] 0 (zgE (z:=zbZ [])) ?_;refine zeh h y (fun f h=>?_) fun f h=>?_
    ·refine A ?_;refine zL ?_;obtain rfl:=sm h;exact ⟨_,y,_,y,zbc []⟩
    ·refine zg<|A ?_;obtain rfl:=sm h;exact ⟨_,y,zy []⟩
   ·refine zJ ?_;obtain rfl:=sm h;exact ⟨y,_,y,zy []⟩
  ·rintro ⟨⟩ rfl;refine zA<|A ?_
   exact RT0⟩
def zfK(a:List za)(b:T2)(c:zX)(d:T1)(e:T1):Option (Bool):=
  (zjh a b d c.Locals).bind fun f=>(cond f ((zjh a b e c.Stack).bind fun i=>some i) (some false)).bind fun j=>some j
theorem zjv(a:List za)(b:T2)(c:zX)(d:T1)(e:T1){r:Bool}(h:zfK a b c d e=some r):zan Tryz.prog 273 [.ipt 2 [[.isl 6 (map zb a),.imp (map (rKV (fun x=>iA x)) b)]] 0 0,.agg (zae c),.isl 1 (map zm d),.isl 1 (map zm e)] (bA r):=by
 refine zo Tryz.func273 y kz y y<|A ?_;obtain ⟨f,i,j,l,h⟩:=bs2 h;refine A ?_;exact RT0
instance (a:List za)(b:T2)(c:zX)(d:T1)(e:T1):PF Tryz.prog 273 [.ipt 2 [[.isl 6 (map zb a),.imp (map (rKV (fun x=>iA x)) b)]] 0 0,.agg (zae c),.isl 1 (map zm d),.isl 1 (map zm e)] (zfK a b c d e) bA:=⟨fun _=>zjv a b c d e⟩
def zdL(b:List za)(c:T2)(j:T0)(l:zc)(d:T1)(e:T1)(a:Bool)(m:Int):Option (Bool):=
  (zdK b c j l d e a m).bind fun n=>zt1 n (some (a||(!false))) (fun f=>(zfK b c f d e).bind fun i=>some (a||(!i)))
theorem ziA(c:List za)(d:T2)(f:T0)(i:zc)(e:T1)(a:T1)(j:Bool)(m:Int){r:Bool}(h:zdL c d f i e a j m=some r):SC Tryz.prog 202 [.mpt 0 0 0,iA m,.msl 2 0 (length a)] (tV c d f i e a j []) (.tup []) (tV c d f i e a r []):=by
 refine ⟨⟨t,zdq (sz:=1) (fun _=>y),zdq (sz:=1) (fun _=>y),t⟩,zZ Tryz.func202 y kz y ?_⟩;obtain ⟨n,p,h⟩:=bs h;refine A ?_;refine u<|sx [0,1,2] (zgV c d f i e a j m p)<|zGG zAC<|zO (env0:=[(0,.mpt 0 0 0),(2,.msl 2 0 (length a)),(9,zht 3 zae n)]) (st0:=(sV c d f i e a j [])) (zy [.old 0,.old 1,.old 2])<|A ?_
 rcases n with _ |o
 ·replace h:=oeN h;refine zpG [] (sV c d f i e a (j||(!false)) []) [18] [17,16,15,14,13,12,11,10,9,8,7,6,5,4,3,2,1,0] [(27,bA false),(26,.lit undef),(25,.lit undef),(24,.lit undef),(23,.lit undef),(22,.lit undef),(21,.lit undef),(20,.lit undef),(19,.lit undef),(18,.lit undef),(17,.lit undef),(16,.lit undef),(15,.lit undef),(14,.lit undef),(13,bA false),(12,bA false),(11,.lit (.pointer none)),(10,.mpt 0 0 0)] 1 (zj0 ⟨pe,pe,pe,pe,pe,pe,pe,pe,pe,pe,pe,pe,pe,pe,pe,(pb y (nep ti y y y y y y w)),pe,pe,t⟩ ⟨(fun _ _=>⟨_,y,y,sc [0,1,2] (args:=[.mpt 0 0 0,bA false]) (zx c d f i e a j false y) y y y y ⟨(.mpt y),(rnI y),t⟩ ⟨⟨_,y,(zAD y ⟨(.msl y),(.msl y),(rnI y),t⟩)⟩,⟨y,mkI (fun _=>y)⟩,⟨y,mkI (fun _=>y)⟩,t⟩<|⟨(.tup []),[],[(28,.tup [])],y,y,kz,y,zvA ⟨pe,pe,pe,pe,pe,pe,pe,pe,pe,pe,pe,pe,pe,pe,pe,(pb y (nep ti y y y y y y w)),pe,pe,t⟩ (zy [.old 0,.old 1,.old 2])⟩⟩),t⟩) ?_;obtain rfl:=sm h;exact ⟨_,y,zbc [.old 0,.old 1,.old 2]⟩
 ·replace h:=oeS h;obtain ⟨l,q,h⟩:=bs h;refine zpG [] (sV c d f i e a (j||(!l)) []) [18] [0,1,2,3,4,5,6,7,8,9,10,11,12,13,14,15,16,17] [(27,_),(26,_),(25,_),(24,_),(23,_),(22,_),(21,_),(20,_),(19,_),(18,_),(17,_),(16,_),(15,_),(14,_),(13,_),(12,_),(11,_),(10,_)] 1 (ze7 ⟨peC,peC,peC,peC,peC,peC,peC,peC,peC,peC,peC,peC,peC,peC,peC,peC,(by exact fun _=>pag (b:=true) y y y y y y (pcs (zjv c d o e a q) y y (.cons (si y) (.cons (si y) (.cons (ziS y (fun _=>y)) (.cons (ziS y (fun _=>y)) .nil)))) za9<|w)),peC,t⟩ (by exact ⟨(fun _ _=>⟨_,y,y,sc [0,1,2] (args:=[.mpt 0 0 0,bA l]) (zx c d f i e a j l y) y y y y ⟨(.mpt y),(rnI y),t⟩ ⟨⟨_,y,(zAD y ⟨(.msl y),(.msl y),(rnI y),t⟩)⟩,⟨y,mkI (fun _=>y)⟩,⟨y,mkI (fun _=>y)⟩,t⟩<|⟨(.tup []),[],[(28,_)],y,y,y,y,zgE (z:=zbZ [.old 0,.old 1,.old 2])⟩⟩),t⟩)) ?_;obtain rfl:=sm h;exact ⟨_,y,zbc [.old 0,.old 1,.old 2]⟩
def zkx(a:T1):Option T1:=zhj 16 ([]:T1) a
theorem zk2(a:T1){r:T1}(h:zkx a=some r):SC Tryz.prog 130 [.isl 1 (map zm a)] [] (.msl 0 0 (length r)) [.many 1 (map zm r)]:=by
 refine ⟨⟨zdq (sz:=1) (fun _=>y),t⟩,zZ Tryz.func130 y kz y ?_⟩;unfold zkx at h;refine A ?_;refine zi ?_;refine rg y<|u<|mv y<|zGD ti y y y<|And.intro ?_ ?_
 · intro hl;refine zz ?_;subst hl
   obtain rfl:[]=r:=by simpa [zhj] using h
   refine zd7 y (fun _=>?_) (fun hx=>by cases hx);refine A ?_;refine zL ?_;exact ⟨_,y,[.fresh 1],.nilown y,y,⟨w,t⟩,y,k⟩
 · refine zz ?_;refine zd7 y (fun hx=>by cases hx) (fun _=>?_);refine zg<|A ?_;refine u<|apM (l:=([]:T1)) (f:=zm) 1 ti y ti y y (by decide) ti y y y y roI (fun _=>y) y h<|A ?_;refine zL ?_;exact ⟨_,y,zbc [.old 1]⟩
def zbF(b:(Option zX))(c:Bool):Option (T1×T1×Bool):=
  zt1 b (none) (fun a=>(zkx a.Locals).bind fun d=>(zkx a.Stack).bind fun e=>some (d,e,c))
def zf0(e:List za)(f:T2)(i:T0)(j:zc)(c:T1)(d:T1)(b:Bool)(l:Int)(m:Bool):Option (T1×T1×Bool):=
  (zdK e f i j c d b l).bind fun a=>cond (Option.isNone a) (some (c,d,(b||(!m)))) (cond m ((zdL e f i j c d b l).bind fun n=>zbF a n) (zbF a b))
theorem zlZ(a:List za)(b:T2)(c:T0)(d:zc)(e:T1)(f:T1)(j:Bool)(l:Int)(m:Bool){r:T1×T1×Bool}(h:zf0 a b c d e f j l m=some r):SC Tryz.prog 198 [.mpt 0 0 0,iA l,bA m] (tV a b c d e f j []) (.tup []) [.one 15 (vK a b c d (.msl 3 0 (length r.1)) (.msl 4 0 (length r.2.1)) (bA r.2.2)),.no,.no,.many 1 (map zm r.1),.many 1 (map zm r.2.1)]:=by
 refine ⟨⟨t,t,t,zdq (sz:=1) (fun _=>y),zdq (sz:=1) (fun _=>y),t⟩,zZ Tryz.func198 y kz y ?_⟩;obtain ⟨i,B,h⟩:=bs h;refine A ?_;refine u<|sx [0,1,2] (zgV a b c d e f j l B)<|zGG zAC<|zO (env0:=[(0,.mpt 0 0 0),(1,iA l),(2,bA m),(9,zht 3 zae i)]) (st0:=(sV a b c d e f j [])) (zy [.old 0,.old 1,.old 2])<|A ?_;refine zi ?_;refine rg y<|u<|mv y<|u<|zG7 ti y y y<|zz ?_;refine zeh h y (fun v h=>?_) fun v h=>?_
 ·refine A ?_;refine u<|sx [0,1,2] (zx a b c d e f j m y)<|zO (env0:=[]) (st0:=(sV a b c d e f (j||(!m)) [])) (zy [.old 0,.old 1,.old 2])<|zz ?_;refine zL ?_;obtain rfl:=sm h;exact ⟨_,y,zx1 [.old 0,.dead,.dead,.old 1,.old 2]⟩
 ·refine zg ?_;refine zbG (X:=Bool) (fun z=>[(0,.mpt 0 0 0),(6,zht 3 zae i)]) (fun z=>(sV a b c d e f z [])) (fun z=>zbF i z=some r) ?_ ?_
  ·refine A ?_;refine zeh h y (fun x h=>?_) fun x h=>?_
   ·obtain ⟨p,C,h⟩:=bs h;refine A ?_;exact u<|sx [0,1,2] (ziA a b c d e f j l C)<|zO (env0:=[(0,.mpt 0 0 0),(6,zht 3 zae i)]) (st0:=(sV a b c d e f p [])) (zy [.old 0,.old 1,.old 2])<|zz (⟨p,h,zy [.old 0,.old 1,.old 2]⟩)
   ·refine zg ?_;exact ⟨j,h,zy [.old 0,.old 1,.old 2]⟩
  ·rintro q h;replace h:zbF i q=some r:=h;unfold zbF at h
   rcases i with _ |s
   ·replace h:=oeN h;cases h
   ·replace h:=oeS h;obtain ⟨n,D,o,E,h⟩:=bs2 h;refine zpG [] [some (15,[(vK a b c d (.msl 3 0 (length n)) (.msl 4 0 (length o)) (bA q))]),some (1,map zm e),some (1,map zm f),some (1,map zm n),some (1,map zm o)] [6,11,14,17] [0,1,2,3,4,5,7,8,9,10] [(33,_),(32,_),(31,_),(30,_),(28,_),(27,_),(26,_),(25,_),(24,_),(23,_)] 4 (ze7 (z:=by exact ⟨(fun _ _=>⟨_,y,y,sx [] (zk2 s.Locals D)<|⟨(.msl 3 0 (length n)),[],[(29,_)],y,y,y,y,ze7 (z:=by exact ⟨nv,(fun _ _=>⟨_,y,y,sx [] (zk2 s.Stack E)<|⟨(.msl 4 0 (length o)),[12,13],[(36,_),(35,_),(34,_)],y,y,y,y,ze7 (z:=by exact ⟨nv,nv,(fun _ _=>⟨_,y,y,sto ti y y y<|⟨.any,[15,16],[(38,_),(37,_)],y,y,y,t,ze7 (z:=by exact ⟨nv,nv,nv,(fun _ _=>⟨_,y,y,sto ti y y y<|⟨.any,[],[],y,y,y,t,zgE (z:=zbZ [.old 0,.old 1,.old 2,.old 3,.old 4])⟩⟩),t⟩)⟩⟩),nw,t⟩)⟩⟩),nw,nw,t⟩)⟩⟩),nw,nw,nw,t⟩)) ?_;obtain rfl:=sm h;exact ⟨_,y,zbc [.old 0,.dead,.dead,.old 3,.old 4]⟩
def zfe(b:List za)(c:T2)(j:T0)(l:zc)(d:T1)(m:T1)(a:Bool)(n:Int)(o:T1):Option (Bool):=
  (zdK b c j l d m a n).bind fun e=>zt1 e (some (a||(!false))) (fun f=>(zfK b c f d o).bind fun i=>some (a||(!i)))
theorem zkX(a:List za)(c:T2)(e:T0)(f:zc)(d:T1)(i:T1)(l:Bool)(o:Int)(j:T1){r:Bool}(h:zfe a c e f d i l o j=some r):SC Tryz.prog 202 [.mpt 0 0 0,iA o,.msl 3 0 (length j)] (tV a c e f d i l [.many 1 (map zm j)]) (.tup []) (tV a c e f d i r [.many 1 (map zm j)]):=by
 refine ⟨⟨t,zdq (sz:=1) (fun _=>y),zdq (sz:=1) (fun _=>y),zdq (sz:=1) (fun _=>y),t⟩,zZ Tryz.func202 y kz y ?_⟩;obtain ⟨n,q,h⟩:=bs h;refine A ?_;refine u<|sx [0,1,2] (zgV a c e f d i l o q)<|zGG zAC<|zO (env0:=[(0,.mpt 0 0 0),(2,.msl 3 0 (length j)),(9,zht 3 zae n)]) (st0:=(sV a c e f d i l [some (1,map zm j)])) (zy [.old 0,.old 1,.old 2,.old 3])<|A ?_
 rcases n with _ |p
 ·replace h:=oeN h;refine zpG [] (sV a c e f d i (l||(!false)) [some (1,map zm j)]) [18] [17,16,15,14,13,12,11,10,9,8,7,6,5,4,3,2,1,0] [(27,bA false),(26,.lit undef),(25,.lit undef),(24,.lit undef),(23,.lit undef),(22,.lit undef),(21,.lit undef),(20,.lit undef),(19,.lit undef),(18,.lit undef),(17,.lit undef),(16,.lit undef),(15,.lit undef),(14,.lit undef),(13,bA false),(12,bA false),(11,.lit (.pointer none)),(10,.mpt 0 0 0)] 1 (zj0 ⟨pe,pe,pe,pe,pe,pe,pe,pe,pe,pe,pe,pe,pe,pe,pe,(pb y (nep ti y y y y y y w)),pe,pe,t⟩ ⟨(fun _ _=>⟨_,y,y,sc [0,1,2] (args:=[.mpt 0 0 0,bA false]) (zx a c e f d i l false y) y y y y ⟨(.mpt y),(rnI y),t⟩ ⟨⟨_,y,(zAD y ⟨(.msl y),(.msl y),(rnI y),t⟩)⟩,⟨y,mkI (fun _=>y)⟩,⟨y,mkI (fun _=>y)⟩,t⟩<|⟨(.tup []),[],[(28,.tup [])],y,y,kz,y,zvA ⟨pe,pe,pe,pe,pe,pe,pe,pe,pe,pe,pe,pe,pe,pe,pe,(pb y (nep ti y y y y y y w)),pe,pe,t⟩ (zy [.old 0,.old 1,.old 2,.old 3])⟩⟩),t⟩) ?_;obtain rfl:=sm h;exact ⟨_,y,zbc [.old 0,.old 1,.old 2,.old 3]⟩
 ·replace h:=oeS h;obtain ⟨m,s,h⟩:=bs h;refine zpG [] (sV a c e f d i (l||(!m)) [some (1,map zm j)]) [18] [0,1,2,3,4,5,6,7,8,9,10,11,12,13,14,15,16,17] [(27,_),(26,_),(25,_),(24,_),(23,_),(22,_),(21,_),(20,_),(19,_),(18,_),(17,_),(16,_),(15,_),(14,_),(13,_),(12,_),(11,_),(10,_)] 1 (ze7 ⟨peC,peC,peC,peC,peC,peC,peC,peC,peC,peC,peC,peC,peC,peC,peC,peC,(by exact fun _=>pag (b:=true) y y y y y y (pcs (zjv a c p d j s) y y (.cons (si y) (.cons (si y) (.cons (ziS y (fun _=>y)) (.cons (ziS y (fun _=>y)) .nil)))) za9<|w)),peC,t⟩ (by exact ⟨(fun _ _=>⟨_,y,y,sc [0,1,2] (args:=[.mpt 0 0 0,bA m]) (zx a c e f d i l m y) y y y y ⟨(.mpt y),(rnI y),t⟩ ⟨⟨_,y,(zAD y ⟨(.msl y),(.msl y),(rnI y),t⟩)⟩,⟨y,mkI (fun _=>y)⟩,⟨y,mkI (fun _=>y)⟩,t⟩<|⟨(.tup []),[],[(28,_)],y,y,y,y,zgE (z:=zbZ [.old 0,.old 1,.old 2,.old 3])⟩⟩),t⟩)) ?_;obtain rfl:=sm h;exact ⟨_,y,zbc [.old 0,.old 1,.old 2,.old 3]⟩
def zl1(a:Bool):Option (Bool):=
  some a
def zeB(a:Int)(b:Bool):Option (Sum (Bool×Int) (Sum (Bool) (Bool))):=
  some (.inl (b,(IntKind.i64.wrap (a+1))))
def zdf(f:List za)(i:T2)(m:T0)(n:zc)(o:T1)(p:T1)(j:Int)(b:Bool)(c:Int)(a:zT)(d:T0):Option (Sum (Bool×Int) (Sum (Bool) (Bool))):=
  (zcB f i d [84,104,114,111,119,110]).bind fun e=>cond ((decide (a.From≤j))&&(decide (j<a.To))) ((zfe f i m n o p (b||(!e)) a.At [d]).bind fun l=>zeB c l) (zeB c (b||(!e)))
def zck(e:List za)(f:T2)(i:T0)(d:zc)(j:T1)(l:T1)(m:Int)(c:Bool)(a:Int):Option (Sum (Bool×Int) (Sum (Bool) (Bool))):=
  cond (decide (a<(length d.Traps:Int))) ((idx d.Traps a).bind fun b=>cond (b.C == []) (zdf e f i d j l m c a b [84,104,114,111,119,110]) (zdf e f i d j l m c a b b.C)) (some (.inr (.inl c)))
def zev(a:List za)(c:T2)(d:T0)(e:zc)(f:T1)(i:T1)(j:Bool)(l:Int):Option (Bool):=
  (zr (fun z=>zck a c d e f i l z.1 z.2) (j,0)).bind fun o=>zQ o (fun b=>zl1 b) some
theorem zl2(c:List za)(d:T2)(e:T0)(a:zc)(f:T1)(i:T1)(B:Bool)(m:Int){r:Bool}(h:zev c d e a f i B m=some r):SC Tryz.prog 199 [.mpt 0 0 0,iA m] (tV c d e a f i B []) (.tup []) (tV c d e a f i r []):=by
 refine ⟨⟨t,zdq (sz:=1) (fun _=>y),zdq (sz:=1) (fun _=>y),t⟩,zZ Tryz.func199 y kz y ?_⟩;refine A ?_;obtain ⟨o,ho,h⟩:=bs h;refine lpB ho (fun z=>[(0,.mpt 0 0 0),(1,iA m),(11,.isl 4 (map z7 a.Traps)),(12,iA (length a.Traps:Int)),(13,iA z.2)]) (fun z=>(sV c d e a f i z.1 [])) (fun b=>[]) (fun b=>(sV c d e a f i b [])) (fun r env st=>zoe Tryz.prog Tryz.f199 3 (.tup []) (sV c d e a f i r []) env st) (zbZ [.old 0,.old 1,.old 2]) ?_ ?_
 ·rintro ⟨j,l⟩ r h;refine A ?_;refine zi ?_;refine zeh h y (fun D h=>?_) fun D h=>?_
  ·refine zg ?_;refine zbG (X:=Bool) (fun z=>[(0,.mpt 0 0 0),(1,iA m),(11,.isl 4 (map z7 a.Traps)),(12,iA (length a.Traps:Int)),(13,iA l)]) (fun z=>(sV c d e a f i z [])) (fun z=>zeB l z=some r) ?_ ?_
   ·refine zs ?_;obtain ⟨n,I,h⟩:=bs h;refine A ?_;refine A ?_;refine zbG (X:=T0) (fun z=>[(0,.mpt 0 0 0),(1,iA m),(5,.mpt 3 0 0),(6,sA z),(11,.isl 4 (map z7 a.Traps)),(12,iA (length a.Traps:Int)),(13,iA l)]) (fun z=>(sV c d e a f i j [some (4,[(z7 n)])])) (fun z=>zdf c d e a f i m j l n z=some r) ?_ ?_
    ·refine A ?_;refine zeh h y (fun v h=>?_) fun v h=>?_
     ·refine A ?_;exact (⟨[84,104,114,111,119,110],h,zy [.old 0,.old 1,.old 2,.old 3]⟩)
     ·refine zg ?_;exact ⟨n.C,h,zy [.old 0,.old 1,.old 2,.old 3]⟩
    ·rintro q h;obtain ⟨p,E,h⟩:=bs h;refine rg y<|u<|mv y<|u<|mv y<|u<|nc y y<|u<|fa ti y y y<|u<|ld ti y y<|u<|mv y<|u<|pc (zdz c d q [84,104,114,111,119,110] E) y y y<|u<|sx [0,1,2] (zx c d e a f i j p y)<|zO (env0:=[(0,.mpt 0 0 0),(1,iA m),(5,.mpt 3 0 0),(6,sA q),(11,.isl 4 (map z7 a.Traps)),(12,iA (length a.Traps:Int)),(13,iA l)]) (st0:=(sV c d e a f i (j||(!p)) [some (4,[(z7 n)])])) (zy [.old 0,.old 1,.old 2,.old 3])<|zz ?_;refine A ?_;refine zeh h y (fun x h=>?_) fun x h=>?_
     ·obtain ⟨s,F,h⟩:=bs h;refine A ?_;exact u<|sx [0,1,2,4] (zkX c d e a f i (j||(!p)) n.At [q] F)<|zO (env0:=[(0,.mpt 0 0 0),(1,iA m),(11,.isl 4 (map z7 a.Traps)),(12,iA (length a.Traps:Int)),(13,iA l)]) (st0:=(sV c d e a f i s [])) (zy [.old 0,.old 1,.old 2])<|zz (⟨s,h,zy [.old 0,.old 1,.old 2]⟩)
     ·refine zg ?_;exact ⟨(j||(!p)),h,zy [.old 0,.old 1,.old 2]⟩
   ·rintro G h;refine A ?_;obtain rfl:=sm h;exact ⟨_,y,zy [.old 0,.old 1,.old 2]⟩
  ·refine zJ ?_;obtain rfl:=sm h;exact ⟨y,_,y,zy [.old 0,.old 1,.old 2]⟩
 ·rintro H rfl;refine zA ?_;obtain rfl:=sm h;exact ⟨_,y,zbc [.old 0,.old 1,.old 2]⟩
def zaJ(a:Int)(b:Int)(c:Int):Bool:=
  ((decide (b≤a))&&(decide (a≤c)))
instance (a:Int)(b:Int)(c:Int):PF Tryz.prog 278 [iA a,iA b,iA c] (some (zaJ a b c)) bA:=.of fun r h=>by
 refine zo Tryz.func278 y kz y y ?_;unfold zaJ at h;refine A ?_;refine A ?_;refine zL ?_;obtain rfl:=h;exact ⟨_,y,zbc []⟩
def zI(d:List za)(e:T2)(f:T0)(i:zc)(j:T1)(a:T1)(l:Bool)(b:T0):Option (T1):=
  (zhj 16 a [b]).bind fun c=>some c
theorem zH(a:List za)(b:T2)(c:T0)(d:zc)(e:T1)(l:T1)(i:Bool)(j:T0){r:T1}(h:zI a b c d e l i j=some r):SC Tryz.prog 281 [.mpt 0 0 0,sA j] (tV a b c d e l i []) (.tup []) (tU a b c d e r i []):=by
 refine ⟨⟨t,zdq (sz:=1) (fun _=>y),t,zdq (sz:=1) (fun _=>y),t⟩,zZ Tryz.func281 y kz y ?_⟩;obtain ⟨n,m,h⟩:=bs h;refine A ?_;refine u<|apM 4 ti y ti y y (by decide) ti y y y y (roX (f:=zm) (z:=[j]) y y) (fun _=>y) y m<|A ?_;obtain rfl:=sm h;exact ⟨_,y,zbc [.old 0,.old 1,.dead,.old 4]⟩
def zat(e:List za)(f:T2)(i:T0)(j:zc)(l:T1)(a:T1)(b:Bool):Option (T0×T1×Bool):=
  cond (((length a):Int) == (0:Int)) (some ([84],a,true)) ((idx a (IntKind.i64.wrap (((length a):Int)-1))).bind fun c=>(zkS a 0 (IntKind.i64.wrap (((length a):Int)-1))).bind fun d=>some (c,d,b))
theorem zaL(e:List za)(i:T2)(j:T0)(m:zc)(d:T1)(a:T1)(n:Bool){r:T0×T1×Bool}(h:zat e i j m d a n=some r):SC Tryz.prog 341 [.mpt 0 0 0] (tV e i j m d a n []) (sA r.1) (tV e i j m d r.2.1 r.2.2 []):=by
 refine ⟨⟨t,zdq (sz:=1) (fun _=>y),zdq (sz:=1) (fun _=>y),t⟩,zZ Tryz.func341 y kz y ?_⟩;refine A ?_;refine zi<|A ?_;refine zeh h y (fun p h=>?_) fun p h=>?_
 ·refine A ?_;refine A ?_;exact RT3
 ·refine zg ?_;obtain ⟨s,v,h⟩:=bs h;refine rdA [(0,_),(3,_)] (sV e i j m d a n []) [] [0,1,2,3,4,5,6,7,8,9,10,11,12] [(3,_),(24,_),(23,_),(22,_),(21,_),(20,_),(19,_),(18,_),(17,_),(16,_),(15,_),(14,_),(13,_)] 0 (zgE (z:=zbZ [.old 0,.old 1,.old 2])) ?_;obtain ⟨q,o,h⟩:=bs h;refine rdA [(3,_)] [some (15,[(vK e i j m (.msl 1 0 (length d)) (.msl 2 0 (length q)) (bA n))]),some (1,map zm d),some (1,map zm a)] [14] [0,1,2,3,4,5,6,7,8,9,10,11,12,13] [(38,_),(37,_),(36,_),(35,_),(34,_),(33,_),(32,_),(31,_),(30,_),(29,_),(28,_),(27,_),(26,_),(25,_)] 1 (ze7 ⟨peC,peC,peC,peC,peC,peC,peC,peC,peC,peC,peC,(by exact pb y (slM (l:=a) (c:=(IntKind.i64.wrap (((length a):Int)-1))) ti y ti y y y (zqT y o) o<|w)),peC,peC,t⟩ (by exact ⟨(fun _ _=>⟨_,y,y,sto ti y y y<|⟨.any,[],[],y,y,y,t,zgE (z:=zbZ [.old 0,.old 1,.old 2])⟩⟩),t⟩)) ?_;refine zGL (b:=2) (l:=a) (f:=zm) (c:=(IntKind.i64.wrap (((length a):Int)-1))) y y o ?_;refine A ?_;exact RT3
def zbY(i:List za)(j:T2)(l:T0)(m:zc)(a:T1)(b:T1)(c:Bool)(n:zn)(d:Bool):Option (T1×T1×Bool):=
  cond d (some (a,b,true)) ((idx a n.A).bind fun e=>(zI i j l m a b c e).bind fun f=>some (a,f,c))
def za6(c:List za)(d:T2)(e:T0)(f:zc)(a:T1)(l:T1)(i:Bool)(b:zn):Option (T1×T1×Bool):=
  cond (b.Op == (1:Int)) ((zI c d e f a l i [73]).bind fun E=>some (a,E,i)) (cond (b.Op == (2:Int)) ((zI c d e f a l i [78]).bind fun s=>some (a,s,i)) (cond (b.Op == (3:Int)) (cond (decide (((length a):Int)≤b.A)) (zbY c d e f a l i b true) ((idx a b.A).bind fun v=>zbY c d e f a l i b (v == [84]))) (cond (b.Op == (4:Int)) ((zat c d e f a l i).bind fun n=>cond (decide (((length a):Int)≤b.A)) (some (a,n.2.1,true)) ((zkx a).bind fun p=>(idx p b.A).bind fun F=>some ((List.set p (Int.toNat b.A) n.1),n.2.1,n.2.2))) (cond (b.Op == (5:Int)) ((zat c d e f a l i).bind fun q=>some (a,q.2.1,q.2.2)) (cond (b.Op == (6:Int)) ((zat c d e f a l i).bind fun j=>(zI c d e f a j.2.1 j.2.2 j.1).bind fun x=>(zI c d e f a x j.2.2 j.1).bind fun B=>some (a,B,j.2.2)) (cond (b.Op == (7:Int)) ((zat c d e f a l i).bind fun o=>(zat c d e f a o.2.1 o.2.2).bind fun m=>(zI c d e f a m.2.1 m.2.2 o.1).bind fun C=>(zI c d e f a C m.2.2 m.1).bind fun D=>some (a,D,m.2.2)) (some (a,l,i))))))))
theorem zmr(b:List za)(c:T2)(d:T0)(e:zc)(a:T1)(m:T1)(l:Bool)(n:zn){r:T1×T1×Bool}(h:za6 b c d e a m l n=some r):SC Tryz.prog 279 [.mpt 0 0 0,.agg (zv n)] (tV b c d e a m l []) (.tup []) [.one 15 (vK b c d e (.msl 3 0 (length r.1)) (.msl 4 0 (length r.2.1)) (bA r.2.2)),.no,.no,.many 1 (map zm r.1),.many 1 (map zm r.2.1)]:=by
 refine ⟨⟨t,t,t,zdq (sz:=1) (fun _=>y),zdq (sz:=1) (fun _=>y),t⟩,zZ Tryz.func279 y kz y ?_⟩;refine A ?_;refine A ?_;refine zs<|A ?_;refine zeh h y (fun G h=>?_) fun G h=>?_
 ·obtain ⟨v9,q2,h⟩:=bs h;refine rl y<|u<|mv y<|u<|sx [0,1,2] (zH b c d e a m l [73] q2)<|zO (env0:=[]) (st0:=(sU b c d e a v9 l [])) (zy [.old 0,.old 1,.dead,.old 4])<|zz ?_;obtain rfl:=sm h;exact ⟨_,y,zbc [.old 0,.dead,.dead,.old 1,.old 3]⟩
 ·refine A ?_;refine zeh h y (fun H h=>?_) fun H h=>?_
  ·obtain ⟨I,q4,h⟩:=bs h;refine rl y<|u<|mv y<|u<|sx [0,1,2] (zH b c d e a m l [78] q4)<|zO (env0:=[]) (st0:=(sU b c d e a I l [])) (zy [.old 0,.old 1,.dead,.old 4])<|zz ?_;obtain rfl:=sm h;exact ⟨_,y,zbc [.old 0,.dead,.dead,.old 1,.old 3]⟩
  ·refine A ?_;refine zeh h y (fun J h=>?_) fun J h=>?_
   ·refine zi ?_;refine zbG (X:=Bool) (fun z=>[(0,.mpt 0 0 0),(3,.mpt 3 0 0),(38,bA z)]) (fun z=>(sV b c d e a m l [some (4,[(zv n)])])) (fun z=>zbY b c d e a m l n z=some r) ?_ ?_
    ·rcases bb (decide (((length a):Int)≤n.A)) with q |q
     ·replace h:=bT q h;exact rdQ [] [0,1,2,3,4,5,6,7,8,9,10,11,12,13,14,15,16,17,18] [(38,_),(37,_),(36,_),(35,_),(34,_),(33,_),(32,_),(31,_),(30,_),(29,_),(28,_),(27,_),(26,_),(25,_),(24,_),(23,_),(22,_),(21,_),(20,_)] 0 (zgE (z:=by exact ⟨true,h,zbZ [.old 0,.old 1,.old 2,.old 3]⟩))
     ·replace h:=bF q h;obtain ⟨K,q7,h⟩:=bs h;exact rdQ [] [0,1,2,3,4,5,6,7,8,9,10,11,12,13,14,15,16,17,18] [(38,_),(37,_),(36,_),(35,_),(34,_),(33,_),(32,_),(31,_),(30,_),(29,_),(28,_),(27,_),(26,_),(25,_),(24,_),(23,_),(22,_),(21,_),(20,_)] 0 (zgE (z:=by exact ⟨(K == [84]),h,zbZ [.old 0,.old 1,.old 2,.old 3]⟩))
    ·rintro v12 h;refine zeh h y (fun L h=>?_) fun L h=>?_
     ·refine A ?_;refine zL ?_;obtain rfl:=sm h;exact ⟨_,y,zx1 [.old 0,.dead,.dead,.old 1,.old 2]⟩
     ·refine zg ?_;obtain ⟨M,q9,N,O,h⟩:=bs2 h;refine zpG [] (sU b c d e a N l []) [9] [0,1,2,3,4,5,6,7,8] [(50,_),(49,_),(48,_),(47,_),(46,_),(45,_),(44,_),(43,_),(42,_)] 1 (ze7 (z:=by exact ⟨(fun _ _=>⟨_,y,y,sx [0,1,2] (zH b c d e a m l M O)<|⟨(.tup []),[],[(51,_)],y,y,y,y,zgE (z:=zbZ [.old 0,.old 1,.dead,.old 4])⟩⟩),t⟩)) ?_;obtain rfl:=sm h;exact ⟨_,y,zbc [.old 0,.dead,.dead,.old 1,.old 3]⟩
   ·refine A ?_;refine zeh h y (fun B h=>?_) fun B h=>?_
    ·obtain ⟨f,P,h⟩:=bs h;refine rg y<|u<|mv y<|u<|sx [0,1,2] (zaL b c d e a m l P)<|zO (env0:=[(0,.mpt 0 0 0),(3,.mpt 3 0 0),(55,sA f.1)]) (st0:=(sV b c d e a f.2.1 f.2.2 [some (4,[(zv n)])])) (zy [.old 0,.old 1,.old 2,.old 3])<|A ?_;refine zi ?_;refine rdA [(0,_),(3,_),(4,_),(63,_)] (sV b c d e a f.2.1 f.2.2 [some (4,[(zv n)])]) [] [0,1,2,3,4,5,6,7] [(63,_),(62,_),(61,_),(60,_),(59,_),(58,_),(57,_),(56,_)] 0 (zgE (z:=zbZ [.old 0,.old 1,.old 2,.old 3])) ?_;refine zeh h y (fun C h=>?_) fun C h=>?_
     ·refine A ?_;refine zL ?_;obtain rfl:=sm h;exact ⟨_,y,zx1 [.old 0,.dead,.dead,.old 1,.old 2]⟩
     ·refine zg ?_;obtain ⟨p,Q,h⟩:=bs h;refine A ?_;refine zO (env0:=[(0,.mpt 0 0 0),(3,.mpt 3 0 0),(4,sA f.1),(67,.mpt 0 0 0),(71,.isl 1 (map zm a))]) (st0:=[some (15,[(vK b c d e (.isl 1 (map zm a)) (.msl 2 0 (length f.2.1)) (bA f.2.2))]),none,some (1,map zm f.2.1),some (4,[(zv n)])]) (zy [.old 0,.dead,.old 2,.old 3])<|u<|sx [] (zk2 a Q)<|zO (env0:=[(0,.mpt 0 0 0),(3,.mpt 3 0 0),(4,sA f.1),(67,.mpt 0 0 0),(72,.msl 4 0 (length p))]) (st0:=[some (15,[(vK b c d e (.isl 1 (map zm a)) (.msl 2 0 (length f.2.1)) (bA f.2.2))]),none,some (1,map zm f.2.1),some (4,[(zv n)]),some (1,map zm p)]) (zy [.old 0,.dead,.old 2,.old 3,.old 4])<|A ?_;obtain ⟨v17,R,h⟩:=bs h;refine zpG [] [some (15,[(vK b c d e (.msl 3 0 (length (List.set p (Int.toNat n.A) f.1))) (.msl 2 0 (length f.2.1)) (bA f.2.2))]),none,some (1,map zm f.2.1),some (1,map zm (List.set p (Int.toNat n.A) f.1))] [8] [0,1,2,3,4,5,6,7] [(82,_),(81,_),(80,_),(79,_),(78,_),(77,_),(76,_),(75,_)] 1 (ze7 (z:=by exact ⟨(fun _ _=>⟨_,y,y,zGI (c':=f.1) ti y y (zt R).2.2 y y y y y<|⟨.any,[],[],y,y,y,t,zgE (z:=by exact ⟨[.old 0,.dead,.old 2,.old 4],cn,y,⟨⟨_,y,zfU (zBl y (by exact ⟨zEW (by simp) y,.msl y,ci y,t⟩))⟩,⟨_,y,zgo (fun _=>y)⟩,⟨_,y,zgo (fun _=>y)⟩,t⟩,y,k⟩)⟩⟩),t⟩)) ?_;obtain rfl:=sm h;exact ⟨_,y,zbc [.old 0,.dead,.dead,.old 3,.old 2]⟩
    ·refine A ?_;refine zeh h y (fun D h=>?_) fun D h=>?_
     ·obtain ⟨s,S,h⟩:=bs h;refine rl y<|u<|mv y<|u<|sx [0,1,2] (zaL b c d e a m l S)<|zO (env0:=[]) (st0:=(sV b c d e a s.2.1 s.2.2 [])) (zy [.old 0,.old 1,.old 2])<|zz ?_;obtain rfl:=sm h;exact ⟨_,y,zbc [.old 0,.dead,.dead,.old 1,.old 2]⟩
     ·refine A ?_;refine zeh h y (fun E h=>?_) fun E h=>?_
      ·obtain ⟨i,T,h⟩:=bs h;refine rg y<|u<|mv y<|u<|sx [0,1,2] (zaL b c d e a m l T)<|zO (env0:=[(0,.mpt 0 0 0),(90,sA i.1)]) (st0:=(sV b c d e a i.2.1 i.2.2 [])) (zy [.old 0,.old 1,.old 2])<|A ?_;obtain ⟨v,U,h⟩:=bs h;refine rg y<|u<|mv y<|u<|mv y<|u<|sx [0,1,2] (zH b c d e a i.2.1 i.2.2 i.1 U)<|zO (env0:=[(0,.mpt 0 0 0),(5,sA i.1)]) (st0:=(sU b c d e a v i.2.2 [])) (zy [.old 0,.old 1,.dead,.old 3])<|zz ?_;obtain ⟨V,W,h⟩:=bs h;refine rl y<|u<|mv y<|u<|mv y<|u<|sx [0,1,3] (zH b c d e a v i.2.2 i.1 W)<|zO (env0:=[]) (st0:=(sU b c d e a V i.2.2 [])) (zy [.old 0,.old 1,.dead,.old 4])<|zz ?_;obtain rfl:=sm h;exact ⟨_,y,zbc [.old 0,.dead,.dead,.old 1,.old 3]⟩
      ·refine A ?_;refine zeh h y (fun F h=>?_) fun F h=>?_
       ·obtain ⟨o,Y,j,Z,h⟩:=bs2 h;refine rg y<|u<|mv y<|u<|sx [0,1,2] (zaL b c d e a m l Y)<|zO (env0:=[(0,.mpt 0 0 0),(100,sA o.1)]) (st0:=(sV b c d e a o.2.1 o.2.2 [])) (zy [.old 0,.old 1,.old 2])<|u<|mv y<|u<|sx [0,1,2] (zaL b c d e a o.2.1 o.2.2 Z)<|zO (env0:=[(0,.mpt 0 0 0),(100,sA o.1),(102,sA j.1)]) (st0:=(sV b c d e a j.2.1 j.2.2 [])) (zy [.old 0,.old 1,.old 2])<|A ?_;obtain ⟨x,q25,h⟩:=bs h;refine rg y<|u<|mv y<|u<|mv y<|u<|sx [0,1,2] (zH b c d e a j.2.1 j.2.2 o.1 q25)<|zO (env0:=[(0,.mpt 0 0 0),(7,sA j.1)]) (st0:=(sU b c d e a x j.2.2 [])) (zy [.old 0,.old 1,.dead,.old 3])<|zz ?_;obtain ⟨v25,q26,h⟩:=bs h;refine rl y<|u<|mv y<|u<|mv y<|u<|sx [0,1,3] (zH b c d e a x j.2.2 j.1 q26)<|zO (env0:=[]) (st0:=(sU b c d e a v25 j.2.2 [])) (zy [.old 0,.old 1,.dead,.old 4])<|zz ?_;obtain rfl:=sm h;exact ⟨_,y,zbc [.old 0,.dead,.dead,.old 1,.old 3]⟩
       ·refine zg ?_;obtain rfl:=sm h;exact ⟨_,y,zbc [.old 0,.dead,.dead,.old 1,.old 2]⟩
def zmt(a:T1)(b:Bool):Option (T1×Bool):=
  some (a,b)
def zaV(e:List za)(f:T2)(l:T0)(m:zc)(n:T1)(o:T1)(c:T1)(d:Bool)(a:Int):Option (Sum (T1×Bool×Int) (Sum (T1×Bool) (T1×Bool))):=
  cond (decide (0≤a)) ((idx o a).bind fun i=>(zat e f l m n c d).bind fun b=>(zfJ e f b.1 i).bind fun j=>some (.inl (b.2.1,(b.2.2||(!j)),(IntKind.i64.wrap (a-1))))) (some (.inr (.inl (c,d))))
def zP(c:List za)(d:T2)(e:T0)(f:zc)(i:T1)(j:T1)(l:Bool)(a:T1):Option (T1×Bool):=
  (zr (fun z=>zaV c d e f i a z.1 z.2.1 z.2.2) (j,l,(IntKind.i64.wrap ((length a:Int)-1)))).bind fun o=>zQ o (fun b=>zmt b.1 b.2) some
theorem zN(a:List za)(c:T2)(d:T0)(e:zc)(f:T1)(m:T1)(n:Bool)(l:T1){r:T1×Bool}(h:zP a c d e f m n l=some r):SC Tryz.prog 280 [.mpt 0 0 0,.isl 1 (map zm l)] (tV a c d e f m n []) (.tup []) (tV a c d e f r.1 r.2 []):=by
 refine ⟨⟨t,zdq (sz:=1) (fun _=>y),zdq (sz:=1) (fun _=>y),t⟩,zZ Tryz.func280 y kz y ?_⟩;refine A ?_;obtain ⟨o,ho,h⟩:=bs h;refine lpB ho (fun z=>[(0,.mpt 0 0 0),(1,.isl 1 (map zm l)),(4,iA z.2.2)]) (fun z=>(sV a c d e f z.1 z.2.1 [])) (fun b=>[]) (fun b=>(sV a c d e f b.1 b.2 [])) (fun r env st=>zoe Tryz.prog Tryz.f280 3 (.tup []) (sV a c d e f r.1 r.2 []) env st) (zbZ [.old 0,.old 1,.old 2]) ?_ ?_
 ·rintro ⟨p,q,x⟩ r h;refine zi<|A ?_;refine zeh h y (fun s h=>?_) fun s h=>?_
  ·refine zg<|zi<|zs ?_;obtain ⟨B,E,i,v,j,F,h⟩:=bs3 h;refine zpG [(0,_),(1,_),(4,_)] (sV a c d e f i.2.1 (i.2.2||(!j)) []) [6,12] [0,1,2,3,4,5,7,8,9,10] [(22,_),(21,_),(20,_),(19,_),(17,_),(16,_),(15,_),(14,_),(13,_),(12,_)] 2 (ze7 (z:=by exact ⟨(fun _ _=>⟨_,y,y,sx [0,1,2] (zaL a c d e f p q v)<|⟨(sA i.1),[11],[(23,_),(18,_)],y,y,y,y,ze7 (z:=by exact ⟨nv,(fun _ _=>⟨_,y,y,sx [0,1,2] (zx a c d e f i.2.1 i.2.2 j y)<|⟨(.tup []),[],[(24,_)],y,y,y,y,zgE (z:=zbZ [.old 0,.old 1,.old 2])⟩⟩),t⟩)⟩⟩),nw,t⟩)) ?_;refine A ?_;obtain rfl:=sm h;exact ⟨_,y,zy [.old 0,.old 1,.old 2]⟩
  ·refine zJ ?_;obtain rfl:=sm h;exact ⟨y,_,y,zy [.old 0,.old 1,.old 2]⟩
 ·rintro ⟨C,D⟩ rfl;refine zA ?_;obtain rfl:=sm h;exact ⟨_,y,zbc [.old 0,.old 1,.old 2]⟩
def zcs(c:List za)(d:T2)(e:T0)(f:zc)(i:T1)(j:T1)(l:Bool):Option (T0×T1×Bool):=
  (zat c d e f i j l).bind fun a=>(cond (a.1 == [78]) (some true) ((zjE a.1).bind fun m=>some m)).bind fun b=>some (a.1,a.2.1,(a.2.2||(!b)))
theorem zd9(b:List za)(c:T2)(d:T0)(e:zc)(f:T1)(j:T1)(l:Bool){r:T0×T1×Bool}(h:zcs b c d e f j l=some r):SC Tryz.prog 282 [.mpt 0 0 0] (tV b c d e f j l []) (sA r.1) (tV b c d e f r.2.1 r.2.2 []):=by
 refine ⟨⟨t,zdq (sz:=1) (fun _=>y),zdq (sz:=1) (fun _=>y),t⟩,zZ Tryz.func282 y kz y ?_⟩;refine A ?_;obtain ⟨a,m,h⟩:=bs h;refine rg y<|u<|mv y<|u<|sx [0,1,2] (zaL b c d e f j l m)<|zO (env0:=[(0,.mpt 0 0 0),(5,sA a.1)]) (st0:=(sV b c d e f a.2.1 a.2.2 [])) (zy [.old 0,.old 1,.old 2])<|A ?_;obtain ⟨i,n,h⟩:=bs h;refine A ?_;refine u<|sx [0,1,2] (zx b c d e f a.2.1 a.2.2 i y)<|zO (env0:=[(3,sA a.1)]) (st0:=(sV b c d e f a.2.1 (a.2.2||(!i)) [])) (zy [.old 0,.old 1,.old 2])<|zz ?_;refine A ?_;exact RT3
def zeu(c:List za)(d:T2)(f:T0)(i:zc)(j:T1)(l:T1)(e:Bool)(b:zn):Option (T1×Bool):=
  cond (b.Op == (37:Int)) ((zG c d b.C).bind fun n=>(zI c d f i j l (e||(!(n.2&&(!n.1.Interface)))) b.C).bind fun q=>some (q,(e||(!(n.2&&(!n.1.Interface)))))) ((zfy c d b.C b.M).bind fun a=>cond (b.Op == (38:Int)) ((zP c d f i j l (e||(!(a.2.2&&(a.2.1.Static == ((b.Op == (40:Int))||(b.Op == (41:Int))))))) [b.C]).bind fun m=>(zI c d f i j m.1 m.2 a.2.1.Type_).bind fun s=>some (s,m.2)) (cond (b.Op == (39:Int)) ((zP c d f i j l (e||(!(a.2.2&&(a.2.1.Static == ((b.Op == (40:Int))||(b.Op == (41:Int))))))) [b.C,a.2.1.Type_]).bind fun o=>some (o.1,o.2)) (cond (b.Op == (40:Int)) ((zI c d f i j l (e||(!(a.2.2&&(a.2.1.Static == ((b.Op == (40:Int))||(b.Op == (41:Int))))))) a.2.1.Type_).bind fun v=>some (v,(e||(!(a.2.2&&(a.2.1.Static == ((b.Op == (40:Int))||(b.Op == (41:Int))))))))) ((zP c d f i j l (e||(!(a.2.2&&(a.2.1.Static == ((b.Op == (40:Int))||(b.Op == (41:Int))))))) [a.2.1.Type_]).bind fun p=>some (p.1,p.2)))))
theorem zl0(c:List za)(d:T2)(e:T0)(f:zc)(i:T1)(l:T1)(j:Bool)(b:zn){r:T1×Bool}(h:zeu c d e f i l j b=some r):SC Tryz.prog 283 [.mpt 0 0 0,.agg (zv b)] (tV c d e f i l j []) (.tup []) (tU c d e f i r.1 r.2 []):=by
 refine ⟨⟨t,zdq (sz:=1) (fun _=>y),t,zdq (sz:=1) (fun _=>y),t⟩,zZ Tryz.func283 y kz y ?_⟩;refine A ?_;refine zi<|A ?_;refine zeh h y (fun v h=>?_) fun v h=>?_
 ·obtain ⟨m,L,h⟩:=bs h;refine rdA [(0,_),(3,_),(4,_),(5,_)] (sV c d e f i l j [some (4,[(zv b)]),some (6,[(zb m.1)])]) [10,11] [0,1,2,3,4,5,6,7,8,9] [(21,_),(20,_),(12,_),(19,_),(18,_),(17,_),(16,_),(15,_),(14,_),(13,_)] 2 (ze7 (z:=by exact ⟨(fun _ _=>⟨_,y,y,al 4 ti y<|⟨(.mpt 4 0 0),[],[(4,_)],y,y,y,y,ze7 (z:=by exact ⟨nv,(fun _ _=>⟨_,y,y,sto ti y y y<|⟨.any,[12],[(5,_)],y,y,y,t,zgE (z:=zbZ [.old 0,.old 1,.old 2,.old 3,.old 4])⟩⟩),t⟩)⟩⟩),nw,t⟩)) ?_;refine A ?_;refine u<|sx [0,1,2] (zx c d e f i l j (m.2&&(!m.1.Interface)) y)<|zO (env0:=[(0,.mpt 0 0 0),(3,.mpt 3 0 0)]) (st0:=(sV c d e f i l (j||(!(m.2&&(!m.1.Interface)))) [some (4,[(zv b)])])) (zy [.old 0,.old 1,.old 2,.old 3])<|zz ?_;obtain ⟨x,J,h⟩:=bs h;refine A ?_;refine u<|sx [0,1,2] (zH c d e f i l (j||(!(m.2&&(!m.1.Interface)))) b.C J)<|zO (env0:=[]) (st0:=(sU c d e f i x (j||(!(m.2&&(!m.1.Interface)))) [])) (zy [.old 0,.old 1,.dead,.old 4])<|zz ?_;refine zL ?_;obtain rfl:=sm h;exact ⟨_,y,zx1 [.old 0,.old 1,.dead,.old 3]⟩
 ·refine zg ?_;obtain ⟨a,M,h⟩:=bs h;refine rdA [(0,_),(3,_),(7,_),(8,_)] (sV c d e f i l j [some (4,[(zv b)]),some (3,[(zD a.2.1)])]) [13,15] [0,1,2,3,4,5,6,7,8,9,10,11,12] [(46,_),(45,_),(44,_),(34,_),(43,_),(42,_),(41,_),(40,_),(39,_),(38,_),(37,_),(36,_),(35,_)] 2 (ze7 (z:=by exact ⟨(fun _ _=>⟨_,y,y,al 4 ti y<|⟨(.mpt 4 0 0),[14],[(6,_),(7,_)],y,y,y,y,ze7 (z:=by exact ⟨nv,(fun _ _=>⟨_,y,y,sto ti y y y<|⟨.any,[16],[(8,_)],y,y,y,t,zgE (z:=zbZ [.old 0,.old 1,.old 2,.old 3,.old 4])⟩⟩),t⟩)⟩⟩),nw,t⟩)) ?_;refine A ?_;refine u<|sx [0,1,2] (zx c d e f i l j (a.2.2&&(a.2.1.Static == ((b.Op == (40:Int))||(b.Op == (41:Int))))) y)<|zO (env0:=[(0,.mpt 0 0 0),(3,.mpt 3 0 0),(7,.mpt 4 0 0)]) (st0:=(sV c d e f i l (j||(!(a.2.2&&(a.2.1.Static == ((b.Op == (40:Int))||(b.Op == (41:Int))))))) [some (4,[(zv b)]),some (3,[(zD a.2.1)])])) (zy [.old 0,.old 1,.old 2,.old 3,.old 4])<|zz ?_;refine A ?_;refine zs<|A ?_;refine zeh h y (fun B h=>?_) fun B h=>?_
  ·obtain ⟨n,K,h⟩:=bs h;refine A ?_;refine zO (env0:=[(0,.mpt 0 0 0),(7,.mpt 3 0 0),(72,.mpt 0 0 0),(75,.isl 1 (map zm [b.C]))]) (st0:=(sV c d e f i l (j||(!(a.2.2&&(a.2.1.Static == ((b.Op == (40:Int))||(b.Op == (41:Int))))))) [some (3,[(zD a.2.1)])])) (zy [.old 0,.old 1,.old 2,.old 4])<|u<|sx [0,1,2] (zN c d e f i l (j||(!(a.2.2&&(a.2.1.Static == ((b.Op == (40:Int))||(b.Op == (41:Int))))))) [b.C] K)<|zO (env0:=[(0,.mpt 0 0 0),(7,.mpt 3 0 0)]) (st0:=(sV c d e f i n.1 n.2 [some (3,[(zD a.2.1)])])) (zy [.old 0,.old 1,.old 2,.old 3])<|zz ?_;obtain ⟨D,E,h⟩:=bs h;refine A ?_;refine u<|sx [0,1,2] (zH c d e f i n.1 n.2 a.2.1.Type_ E)<|zO (env0:=[]) (st0:=(sU c d e f i D n.2 [])) (zy [.old 0,.old 1,.dead,.old 4])<|zz ?_;obtain rfl:=sm h;exact ⟨_,y,zbc [.old 0,.old 1,.dead,.old 3]⟩
  ·refine A ?_;refine zeh h y (fun q h=>?_) fun q h=>?_
   ·obtain ⟨o,F,h⟩:=bs h;refine A ?_;refine zO (env0:=[(83,.mpt 0 0 0),(88,.isl 1 (map zm [b.C,a.2.1.Type_]))]) (st0:=(sV c d e f i l (j||(!(a.2.2&&(a.2.1.Static == ((b.Op == (40:Int))||(b.Op == (41:Int))))))) [])) (zy [.old 0,.old 1,.old 2])<|u<|sx [0,1,2] (zN c d e f i l (j||(!(a.2.2&&(a.2.1.Static == ((b.Op == (40:Int))||(b.Op == (41:Int))))))) [b.C,a.2.1.Type_] F)<|zO (env0:=[]) (st0:=(sV c d e f i o.1 o.2 [])) (zy [.old 0,.old 1,.old 2])<|zz ?_;obtain rfl:=sm h;exact ⟨_,y,zbc [.old 0,.old 1,.dead,.old 2]⟩
   ·refine A ?_;refine zeh h y (fun s h=>?_) fun s h=>?_
    ·obtain ⟨G,H,h⟩:=bs h;refine A ?_;refine u<|sx [0,1,2] (zH c d e f i l (j||(!(a.2.2&&(a.2.1.Static == ((b.Op == (40:Int))||(b.Op == (41:Int))))))) a.2.1.Type_ H)<|zO (env0:=[]) (st0:=(sU c d e f i G (j||(!(a.2.2&&(a.2.1.Static == ((b.Op == (40:Int))||(b.Op == (41:Int))))))) [])) (zy [.old 0,.old 1,.dead,.old 5])<|zz ?_;obtain rfl:=sm h;exact ⟨_,y,zbc [.old 0,.old 1,.dead,.old 3]⟩
    ·obtain ⟨p,I,h⟩:=bs h;refine A ?_;refine zO (env0:=[(65,.mpt 0 0 0),(68,.isl 1 (map zm [a.2.1.Type_]))]) (st0:=(sV c d e f i l (j||(!(a.2.2&&(a.2.1.Static == ((b.Op == (40:Int))||(b.Op == (41:Int))))))) [])) (zy [.old 0,.old 1,.old 2])<|u<|sx [0,1,2] (zN c d e f i l (j||(!(a.2.2&&(a.2.1.Static == ((b.Op == (40:Int))||(b.Op == (41:Int))))))) [a.2.1.Type_] I)<|zO (env0:=[]) (st0:=(sV c d e f i p.1 p.2 [])) (zy [.old 0,.old 1,.old 2])<|zz ?_;obtain rfl:=sm h;exact ⟨_,y,zbc [.old 0,.old 1,.dead,.old 2]⟩
def zba(e:List za)(f:T2)(i:T0)(j:zc)(l:T1)(b:zc)(c:T1)(a:Bool):Option (T1×Bool):=
  cond (!(b.Ret == [86])) ((zI e f i j l c a b.Ret).bind fun d=>some (d,a)) (some (c,a))
def zbX(b:List za)(c:T2)(e:T0)(i:zc)(j:T1)(m:zn)(n:T0)(f:zc)(d:T1×Bool)(o:Bool):Option (T1×Bool):=
  cond o ((zP b c e i j d.1 d.2 [m.C]).bind fun l=>zba b c e i j f l.1 l.2) (cond (m.Op == (44:Int)) ((zat b c e i j d.1 d.2).bind fun a=>(zfJ b c a.1 m.C).bind fun p=>cond p ((zfJ b c a.1 e).bind fun q=>cond q ((zad b c e).bind fun s=>(zK s n).bind fun v=>zba b c e i j f a.2.1 (a.2.2||(!v))) (zba b c e i j f a.2.1 (a.2.2||(!false)))) (zba b c e i j f a.2.1 (a.2.2||(!false)))) (zba b c e i j f d.1 d.2))
def zcu(e:List za)(f:T2)(i:T0)(j:zc)(l:T1)(n:T1)(o:Bool)(b:zn)(c:T0)(a:zc)(m:Bool):Option (T1×Bool):=
  (zP e f i j l n (o||(!(m&&(a.Static == (b.Op == (42:Int)))))) a.Params).bind fun d=>cond (b.Op == (43:Int)) (zbX e f i j l b c a d (b.Op == (43:Int))) (zbX e f i j l b c a d (b.Op == (45:Int)))
def zdJ(c:List za)(d:T2)(f:T0)(i:zc)(j:T1)(l:T1)(m:Bool)(a:zn):Option (T1×Bool):=
  (zfR c d a.C a.M).bind fun e=>cond (a.Op == (45:Int)) ((zh8 c d a.C a.M).bind fun b=>zcu c d f i j l m a b.1 b.2.1 b.2.2) (zcu c d f i j l m a e.1 e.2.1 (e.2.2&&(!e.2.1.Abstract)))
theorem zmq(c:List za)(d:T2)(e:T0)(f:zc)(i:T1)(p:T1)(q:Bool)(l:zn){r:T1×Bool}(h:zdJ c d e f i p q l=some r):SC Tryz.prog 284 [.mpt 0 0 0,.agg (zv l)] (tV c d e f i p q []) (.tup []) (tU c d e f i r.1 r.2 []):=by
 refine ⟨⟨t,zdq (sz:=1) (fun _=>y),t,zdq (sz:=1) (fun _=>y),t⟩,zZ Tryz.func284 y kz y ?_⟩;refine A ?_;obtain ⟨E,q1,h⟩:=bs h;refine rdA [(0,_),(3,_),(4,_),(5,_),(6,_)] (sV c d e f i p q [some (4,[(zv l)]),some (10,[(zf E.2.1)])]) [13,15] [0,1,2,3,4,5,6,7,8,9,10,11,12] [(20,_),(19,_),(18,_),(8,_),(17,_),(16,_),(15,_),(14,_),(13,_),(12,_),(11,_),(10,_),(9,_)] 2 (ze7 (z:=by exact ⟨(fun _ _=>⟨_,y,y,al 4 ti y<|⟨(.mpt 4 0 0),[14],[(4,_),(5,_)],y,y,y,y,ze7 (z:=by exact ⟨nv,(fun _ _=>⟨_,y,y,sto ti y y y<|⟨.any,[16],[(6,_)],y,y,y,t,zgE (z:=zbZ [.old 0,.old 1,.old 2,.old 3,.old 4])⟩⟩),t⟩)⟩⟩),nw,t⟩)) ?_;refine A ?_;refine zbG (X:=T0×zc×Bool) (fun z=>[(0,.mpt 0 0 0),(3,.mpt 3 0 0),(4,sA z.1),(5,.mpt 4 0 0),(6,bA z.2.2)]) (fun z=>(sV c d e f i p q [some (4,[(zv l)]),some (10,[(zf z.2.1)])])) (fun z=>zcu c d e f i p q l z.1 z.2.1 z.2.2=some r) ?_ ?_
 ·refine A ?_;refine zeh h y (fun N h=>?_) fun N h=>?_
  ·obtain ⟨v,q4,h⟩:=bs h;refine zpG [(0,_),(3,_),(4,_),(5,_),(6,_)] (sV c d e f i p q [some (4,[(zv l)]),some (10,[(zf v.2.1)])]) [14] [0,1,2,3,4,5,6,7,8,9,10,11,12,13] [(4,_),(42,_),(41,_),(40,_),(30,_),(39,_),(38,_),(37,_),(36,_),(35,_),(34,_),(33,_),(32,_),(31,_)] 1 (ze7 (z:=by exact ⟨(fun _ _=>⟨_,y,y,sto ti y y y<|⟨.any,[15],[(6,_)],y,y,y,t,zgE (z:=zbZ [.old 0,.old 1,.old 2,.old 3,.old 4])⟩⟩),t⟩)) ?_;exact ⟨⟨v.1,v.2.1,v.2.2⟩,h,zy [.old 0,.old 1,.old 2,.old 3,.old 4]⟩
  ·refine zg ?_;exact ⟨⟨E.1,E.2.1,(E.2.2&&(!E.2.1.Abstract))⟩,h,zy [.old 0,.old 1,.old 2,.old 3,.old 4]⟩
 ·rintro ⟨o,j,F⟩ h;refine A ?_;refine u<|sx [0,1,2] (zx c d e f i p q (F&&(j.Static == (l.Op == (42:Int)))) y)<|zO (env0:=[(0,.mpt 0 0 0),(3,.mpt 3 0 0),(4,sA o),(5,.mpt 4 0 0)]) (st0:=(sV c d e f i p (q||(!(F&&(j.Static == (l.Op == (42:Int)))))) [some (4,[(zv l)]),some (10,[(zf j)])])) (zy [.old 0,.old 1,.old 2,.old 3,.old 4])<|zz ?_;obtain ⟨m,W,h⟩:=bs h;refine A ?_;refine u<|sx [0,1,2] (zN c d e f i p (q||(!(F&&(j.Static == (l.Op == (42:Int)))))) j.Params W)<|zO (env0:=[(0,.mpt 0 0 0),(3,.mpt 3 0 0),(4,sA o),(5,.mpt 4 0 0)]) (st0:=(sV c d e f i m.1 m.2 [some (4,[(zv l)]),some (10,[(zf j)])])) (zy [.old 0,.old 1,.old 2,.old 3,.old 4])<|zz ?_;refine zbG (X:=T1×Bool) (fun z=>[(0,.mpt 0 0 0),(5,.mpt 3 0 0)]) (fun z=>(sV c d e f i z.1 z.2 [some (10,[(zf j)])])) (fun z=>zba c d e f i j z.1 z.2=some r) ?_ ?_
  ·refine A ?_;refine zs ?_;refine zbG (X:=Bool) (fun z=>[(0,.mpt 0 0 0),(3,.mpt 3 0 0),(4,sA o),(5,.mpt 4 0 0),(59,iA l.Op),(60,bA z)]) (fun z=>(sV c d e f i m.1 m.2 [some (4,[(zv l)]),some (10,[(zf j)])])) (fun z=>zbX c d e f i l o j m z=some r) ?_ ?_
   ·refine A ?_;refine zeh h y (fun O h=>?_) fun O h=>?_
    ·refine zg ?_;exact ⟨(l.Op == (43:Int)),h,zy [.old 0,.old 1,.old 2,.old 3,.old 4]⟩
    ·refine A ?_;exact (⟨(l.Op == (45:Int)),h,zy [.old 0,.old 1,.old 2,.old 3,.old 4]⟩)
   ·rintro Z h;refine zeh h y (fun P h=>?_) fun P h=>?_
    ·obtain ⟨B,Y,h⟩:=bs h;refine A ?_;exact zO (env0:=[(0,.mpt 0 0 0),(5,.mpt 3 0 0),(63,.mpt 0 0 0),(66,.isl 1 (map zm [l.C]))]) (st0:=(sV c d e f i m.1 m.2 [some (10,[(zf j)])])) (zy [.old 0,.old 1,.old 2,.old 4])<|u<|sx [0,1,2] (zN c d e f i m.1 m.2 [l.C] Y)<|zO (env0:=[(0,.mpt 0 0 0),(5,.mpt 3 0 0)]) (st0:=(sV c d e f i B.1 B.2 [some (10,[(zf j)])])) (zy [.old 0,.old 1,.old 2,.old 3])<|zz (⟨⟨B.1,B.2⟩,h,zy [.old 0,.old 1,.old 2,.old 3]⟩)
    ·refine A ?_;refine zeh h y (fun L h=>?_) fun L h=>?_
     ·obtain ⟨a,Q,h⟩:=bs h;refine rg y<|u<|mv y<|u<|sx [0,1,2] (zaL c d e f i m.1 m.2 Q)<|zO (env0:=[(0,.mpt 0 0 0),(3,.mpt 3 0 0),(4,sA o),(5,.mpt 4 0 0),(71,sA a.1)]) (st0:=(sV c d e f i a.2.1 a.2.2 [some (4,[(zv l)]),some (10,[(zf j)])])) (zy [.old 0,.old 1,.old 2,.old 3,.old 4])<|A ?_;obtain ⟨G,I,h⟩:=bs h
      rcases bb G with s |s
      ·replace h:=bT s h;obtain ⟨H,q14,h⟩:=bs h
       rcases bb H with n |n
       ·replace h:=bT n h;obtain ⟨J,R,D,S,h⟩:=bs2 h;refine zpG [(0,.mpt 0 0 0),(5,.mpt 3 0 0)] (sV c d e f i a.2.1 (a.2.2||(!D)) [some (10,[(zf j)])]) [30,34] [0,1,2,3,4,5,6,7,8,9,10,11,12,13,14,15,16,17,18,19,20,21,22,23,24,25,26,27,28,29,31] [(103,_),(101,_),(100,_),(99,_),(98,_),(97,_),(96,_),(95,_),(94,_),(93,_),(92,_),(91,_),(90,_),(89,_),(88,_),(87,_),(86,_),(85,_),(84,_),(83,_),(82,_),(81,_),(80,_),(79,_),(78,_),(77,_),(76,_),(75,_),(74,_),(73,_),(72,_)] 2 (ze7 (z:=by exact ⟨(fun _ _=>⟨_,y,cg (b:=H) y n,sx [] (zaf c d e R)<|⟨(.msl 5 0 (length J)),[32,33],[(105,_),(104,_),(102,_)],y,y,y,y,ze7 ⟨(by exact fun _=>pag (b:=H) y y y y n y (pcs (zac J o S) y y (.cons (ziS y (fun _=>y)) (.cons (si y) .nil)) za9<|w)),peC,peC,peC,peC,peC,peC,peC,peC,peC,peC,peC,peC,peC,peC,peC,peC,peC,peC,peC,peC,peC,peC,peC,peC,peC,peC,peC,peC,peC,peC,peC,peC,t⟩ (by exact ⟨nv,(fun _ _=>⟨_,y,y,sc [0,1,2] (args:=[.mpt 0 0 0,bA D]) (zx c d e f i a.2.1 a.2.2 D y) y y y y ⟨(.mpt y),(rnI y),t⟩ ⟨⟨_,y,(zAD y ⟨(.msl y),(.msl y),(rnI y),t⟩)⟩,⟨y,mkI (fun _=>y)⟩,⟨y,mkI (fun _=>y)⟩,t⟩<|⟨(.tup []),[],[(106,_)],y,y,y,y,zgE (z:=zbZ [.old 0,.old 1,.old 2,.old 4])⟩⟩),t⟩)⟩⟩),nw,t⟩)) ?_;exact ⟨⟨a.2.1,(a.2.2||(!D))⟩,h,zy [.old 0,.old 1,.old 2,.old 3]⟩
       ·replace h:=bF n h;refine zpG [(0,.mpt 0 0 0),(5,.mpt 3 0 0)] (sV c d e f i a.2.1 (a.2.2||(!false)) [some (10,[(zf j)])]) [34] [0,1,2,3,4,5,6,7,8,9,10,11,12,13,14,15,16,17,18,19,20,21,22,23,24,25,26,27,28,29,30,31,32,33] [(105,_),(104,_),(103,_),(102,_),(101,_),(100,_),(99,_),(98,_),(97,_),(96,_),(95,_),(94,_),(93,_),(92,_),(91,_),(90,_),(89,_),(88,_),(87,_),(86,_),(85,_),(84,_),(83,_),(82,_),(81,_),(80,_),(79,_),(78,_),(77,_),(76,_),(75,_),(74,_),(73,_),(72,_)] 1 (ze7 (z:=by exact ⟨(fun _ _=>⟨_,y,y,sc [0,1,2] (args:=[.mpt 0 0 0,bA false]) (zx c d e f i a.2.1 a.2.2 false y) y y y y ⟨(.mpt y),(rnI y),t⟩ ⟨⟨_,y,(zAD y ⟨(.msl y),(.msl y),(rnI y),t⟩)⟩,⟨y,mkI (fun _=>y)⟩,⟨y,mkI (fun _=>y)⟩,t⟩<|⟨(.tup []),[],[(106,_)],y,y,y,y,zgE (z:=zbZ [.old 0,.old 1,.old 2,.old 4])⟩⟩),t⟩)) ?_;exact ⟨⟨a.2.1,(a.2.2||(!false))⟩,h,zy [.old 0,.old 1,.old 2,.old 3]⟩
      ·replace h:=bF s h;refine zpG [(0,.mpt 0 0 0),(5,.mpt 3 0 0)] (sV c d e f i a.2.1 (a.2.2||(!false)) [some (10,[(zf j)])]) [34] [33,32,31,30,29,28,27,26,25,24,23,22,21,20,19,18,17,16,15,14,13,12,11,10,9,8,7,6,5,4,3,2,1,0] [(105,bA false),(104,.lit undef),(103,.lit undef),(102,.lit undef),(101,.lit undef),(100,.lit undef),(99,.lit undef),(98,.lit undef),(97,.lit undef),(96,.lit undef),(95,.lit undef),(94,.lit undef),(93,bA false),(92,bA false),(91,.lit undef),(90,.lit undef),(89,.lit undef),(88,.lit undef),(87,.lit undef),(86,.lit undef),(85,.lit undef),(84,.lit undef),(83,.lit undef),(82,.lit undef),(81,bA G),(80,bA G),(79,sA l.C),(78,.mpt 3 0 2),(77,sA a.1),(76,.ipt 2 [[.isl 6 (map zb c),.imp (map (rKV (fun x=>iA x)) d)]] 0 0),(75,.mpt 0 0 0),(74,.mpt 0 0 0),(73,.mpt 0 0 0),(72,.mpt 0 0 0)] 1 (zj0 ⟨pe,pe,pe,pe,pe,pe,pe,pe,pe,pe,pe,pe,pe,pe,pe,pe,pe,pe,pe,pe,pe,pe,pe,pe,pe,(pb y (pc (zju c d a.1 l.C I) y y y w)),(pb y (ld ti y y w)),(pb y (fa ti y y y w)),pe,(pb y (ld ti y y w)),(pb y (fa ti y y y w)),pe,pe,pe,t⟩ ⟨(fun _ _=>⟨_,y,y,sc [0,1,2] (args:=[.mpt 0 0 0,bA false]) (zx c d e f i a.2.1 a.2.2 false y) y y y y ⟨(.mpt y),(rnI y),t⟩ ⟨⟨_,y,(zAD y ⟨(.msl y),(.msl y),(rnI y),t⟩)⟩,⟨y,mkI (fun _=>y)⟩,⟨y,mkI (fun _=>y)⟩,t⟩<|⟨(.tup []),[],[(106,.tup [])],y,y,kz,y,zvA ⟨pe,pe,pe,pe,pe,pe,pe,pe,pe,pe,pe,pe,pe,pe,pe,pe,pe,pe,pe,pe,pe,pe,pe,pe,pe,(pb y (pc (zju c d a.1 l.C I) y y y w)),(pb y (ld ti y y w)),(pb y (fa ti y y y w)),pe,(pb y (ld ti y y w)),(pb y (fa ti y y y w)),pe,pe,pe,t⟩ (zy [.old 0,.old 1,.old 2,.old 4])⟩⟩),t⟩) ?_;exact ⟨⟨a.2.1,(a.2.2||(!false))⟩,h,zy [.old 0,.old 1,.old 2,.old 3]⟩
     ·refine zg ?_;exact ⟨⟨m.1,m.2⟩,h,zy [.old 0,.old 1,.old 2,.old 4]⟩
  ·rintro ⟨T,K⟩ h;refine A ?_;refine zeh h y (fun M h=>?_) fun M h=>?_
   ·obtain ⟨U,V,h⟩:=bs h;refine A ?_;refine u<|sx [0,1,2] (zH c d e f i T K j.Ret V)<|zO (env0:=[]) (st0:=(sU c d e f i U K [])) (zy [.old 0,.old 1,.dead,.old 4])<|zz ?_;obtain rfl:=sm h;exact ⟨_,y,zbc [.old 0,.old 1,.dead,.old 3]⟩
   ·refine zg ?_;obtain rfl:=sm h;exact ⟨_,y,zbc [.old 0,.old 1,.dead,.old 2]⟩
def zel(e:List za)(f:T2)(i:T0)(a:zc)(j:T1)(c:T1)(d:Bool)(l:Int):Option (T1×Bool):=
  cond (l == (46:Int)) (some (c,(d||(!(a.Ret == [86]))))) (cond (l == (47:Int)) ((zP e f i a j c (d||(!(a.Ret == [73]))) ([[73]])).bind fun m=>some (m.1,m.2)) ((zjE a.Ret).bind fun n=>(zP e f i a j c (d||(!n)) [a.Ret]).bind fun b=>some (b.1,b.2)))
theorem znb(b:List za)(c:T2)(d:T0)(a:zc)(e:T1)(f:T1)(i:Bool)(m:Int){r:T1×Bool}(h:zel b c d a e f i m=some r):SC Tryz.prog 285 [.mpt 0 0 0,iA m] (tV b c d a e f i []) (.tup []) (tV b c d a e r.1 r.2 []):=by
 refine ⟨⟨t,zdq (sz:=1) (fun _=>y),zdq (sz:=1) (fun _=>y),t⟩,zZ Tryz.func285 y kz y ?_⟩;refine zs<|A ?_;refine zeh h y (fun n h=>?_) fun n h=>?_
 ·refine A ?_;refine u<|sx [0,1,2] (zx b c d a e f i (a.Ret == [86]) y)<|zO (env0:=[]) (st0:=(sV b c d a e f (i||(!(a.Ret == [86]))) [])) (zy [.old 0,.old 1,.old 2])<|zz ?_;obtain rfl:=sm h;exact ⟨_,y,zbc [.old 0,.old 1,.old 2]⟩
 ·refine A ?_;refine zeh h y (fun o h=>?_) fun o h=>?_
  ·refine A ?_;refine u<|sx [0,1,2] (zx b c d a e f i (a.Ret == [73]) y)<|zO (env0:=[(0,.mpt 0 0 0)]) (st0:=(sV b c d a e f (i||(!(a.Ret == [73]))) [])) (zy [.old 0,.old 1,.old 2])<|zz ?_;obtain ⟨p,q,h⟩:=bs h;refine A ?_;refine zO (env0:=[(42,.mpt 0 0 0),(43,.isl 1 (map zm ([[73]])))]) (st0:=(sV b c d a e f (i||(!(a.Ret == [73]))) [])) (zy [.old 0,.old 1,.old 2])<|u<|sx [0,1,2] (zN b c d a e f (i||(!(a.Ret == [73]))) ([[73]]) q)<|zO (env0:=[]) (st0:=(sV b c d a e p.1 p.2 [])) (zy [.old 0,.old 1,.old 2])<|zz ?_;obtain rfl:=sm h;exact ⟨_,y,zbc [.old 0,.old 1,.old 2]⟩
  ·obtain ⟨j,v,h⟩:=bs h;refine A ?_;refine u<|sx [0,1,2] (zx b c d a e f i j y)<|zO (env0:=[(0,.mpt 0 0 0)]) (st0:=(sV b c d a e f (i||(!j)) [])) (zy [.old 0,.old 1,.old 2])<|zz ?_;obtain ⟨l,s,h⟩:=bs h;refine A ?_;refine zO (env0:=[(12,.mpt 0 0 0),(18,.isl 1 (map zm [a.Ret]))]) (st0:=(sV b c d a e f (i||(!j)) [])) (zy [.old 0,.old 1,.old 2])<|u<|sx [0,1,2] (zN b c d a e f (i||(!j)) [a.Ret] s)<|zO (env0:=[]) (st0:=(sV b c d a e l.1 l.2 [])) (zy [.old 0,.old 1,.old 2])<|zz ?_;obtain rfl:=sm h;exact ⟨_,y,zbc [.old 0,.old 1,.old 2]⟩
def zjP(a:T0):Option (T0):=
  (zi0 a).bind fun b=>(cond (!b) (some true) ((zrP [91] a).bind fun c=>(zi0 c).bind fun d=>some (!d))).bind fun e=>cond e (some []) ((zrP [91] a).bind fun f=>some f)
instance (a:T0):PF Tryz.prog 221 [sA a] (zjP a) sA:=⟨fun r h=>by
 refine zo Tryz.func221 y kz y y<|A ?_;refine zi ?_;obtain ⟨c,d,e,f,h⟩:=bs2 h;refine A ?_;refine zeh h y (fun b h=>?_) fun b h=>?_
 ·refine A ?_;exact RT0
 ·refine zg ?_;obtain ⟨i,j,h⟩:=bs h;refine A ?_
  exact RT0⟩
def zet(c:List za)(d:T2)(e:T0)(f:zc)(i:T1)(j:T1)(l:Bool):Option (T0×T1×Bool):=
  (zat c d e f i j l).bind fun a=>(zgG a.1).bind fun b=>cond (a.1 == [78]) (some (a.1,a.2.1,(a.2.2||(!((a.1 == [78])||(b.2&&(!(b.1 == [73])))))))) (some (b.1,a.2.1,(a.2.2||(!((a.1 == [78])||(b.2&&(!(b.1 == [73]))))))))
theorem ziu(b:List za)(c:T2)(d:T0)(e:zc)(f:T1)(j:T1)(l:Bool){r:T0×T1×Bool}(h:zet b c d e f j l=some r):SC Tryz.prog 342 [.mpt 0 0 0] (tV b c d e f j l []) (sA r.1) (tV b c d e f r.2.1 r.2.2 []):=by
 refine ⟨⟨t,zdq (sz:=1) (fun _=>y),zdq (sz:=1) (fun _=>y),t⟩,zZ Tryz.func342 y kz y ?_⟩;refine A ?_;obtain ⟨a,n,h⟩:=bs h;refine rg y<|u<|mv y<|u<|sx [0,1,2] (zaL b c d e f j l n)<|zO (env0:=[(0,.mpt 0 0 0),(7,sA a.1)]) (st0:=(sV b c d e f a.2.1 a.2.2 [])) (zy [.old 0,.old 1,.old 2])<|A ?_;obtain ⟨i,o,h⟩:=bs h;refine A ?_;refine A ?_;refine u<|sx [0,1,2] (zx b c d e f a.2.1 a.2.2 ((a.1 == [78])||(i.2&&(!(i.1 == [73])))) y)<|zO (env0:=[(3,sA a.1),(4,sA i.1)]) (st0:=(sV b c d e f a.2.1 (a.2.2||(!((a.1 == [78])||(i.2&&(!(i.1 == [73])))))) [])) (zy [.old 0,.old 1,.old 2])<|zz ?_;refine zi<|A ?_;refine zeh h y (fun m h=>?_) fun m h=>?_
 ·refine A ?_;exact RT3
 ·refine zg<|A ?_;exact RT3
def zaK(a:List za)(b:T2)(c:T0)(d:zc)(e:T1)(i:T1)(j:Bool)(l:zn):Option (T1×Bool):=
  cond (l.Op == (49:Int)) ((zP a b c d e i j ([[73]])).bind fun E=>(zI a b c d e E.1 E.2 [91,73]).bind fun F=>some (F,E.2)) (cond (l.Op == (50:Int)) ((zjP l.C).bind fun n=>(cond (!(n == [])) ((zdQ a b n).bind fun G=>some G) (some false)).bind fun H=>(zP a b c d e i (j||(!H)) ([[73]])).bind fun o=>(zI a b c d e o.1 o.2 n).bind fun I=>some (I,o.2)) (cond (l.Op == (51:Int)) ((zat a b c d e i j).bind fun f=>(zgG f.1).bind fun q=>(zI a b c d e f.2.1 (f.2.2||(!(q.2||(f.1 == [78])))) [73]).bind fun J=>some (J,(f.2.2||(!(q.2||(f.1 == [78])))))) (cond (l.Op == (52:Int)) ((zP a b c d e i j ([[91,73],[73]])).bind fun p=>(zI a b c d e p.1 p.2 [73]).bind fun K=>some (K,p.2)) (cond (l.Op == (53:Int)) ((zP a b c d e i j ([[91,73],[73],[73]])).bind fun s=>some (s.1,s.2)) (cond (l.Op == (54:Int)) ((zP a b c d e i j ([[73]])).bind fun v=>(zet a b c d e v.1 v.2).bind fun m=>(zI a b c d e m.2.1 m.2.2 m.1).bind fun L=>some (L,m.2.2)) ((zcs a b c d e i j).bind fun x=>(zP a b c d e x.2.1 x.2.2 ([[73]])).bind fun B=>(zet a b c d e B.1 B.2).bind fun D=>some (D.2.1,D.2.2)))))))
theorem zll(a:List za)(b:T2)(c:T0)(d:zc)(e:T1)(i:T1)(j:Bool)(I:zn){r:T1×Bool}(h:zaK a b c d e i j I=some r):SC Tryz.prog 286 [.mpt 0 0 0,.agg (zv I)] (tV a b c d e i j []) (.tup []) (tU a b c d e r.1 r.2 []):=by
 refine ⟨⟨t,zdq (sz:=1) (fun _=>y),t,zdq (sz:=1) (fun _=>y),t⟩,zZ Tryz.func286 y kz y ?_⟩;refine A ?_;refine A ?_;refine zs<|A ?_;refine zeh h y (fun J h=>?_) fun J h=>?_
 ·obtain ⟨B,q2,h⟩:=bs h;refine A ?_;refine zO (env0:=[(0,.mpt 0 0 0),(19,.mpt 0 0 0),(20,.isl 1 (map zm ([[73]])))]) (st0:=(sV a b c d e i j [])) (zy [.old 0,.old 1,.old 2])<|u<|sx [0,1,2] (zN a b c d e i j ([[73]]) q2)<|zO (env0:=[(0,.mpt 0 0 0)]) (st0:=(sV a b c d e B.1 B.2 [])) (zy [.old 0,.old 1,.old 2])<|zz ?_;obtain ⟨K,q3,h⟩:=bs h;refine rl y<|u<|mv y<|u<|sx [0,1,2] (zH a b c d e B.1 B.2 [91,73] q3)<|zO (env0:=[]) (st0:=(sU a b c d e K B.2 [])) (zy [.old 0,.old 1,.dead,.old 3])<|zz ?_;obtain rfl:=sm h;exact ⟨_,y,zbc [.old 0,.old 1,.dead,.old 3]⟩
 ·refine A ?_;refine zeh h y (fun L h=>?_) fun L h=>?_
  ·obtain ⟨p,q5,h⟩:=bs h;refine A ?_;obtain ⟨q,q8,h⟩:=bs h;refine A ?_;refine u<|sx [0,1,2] (zx a b c d e i j q y)<|zO (env0:=[(0,.mpt 0 0 0),(4,sA p)]) (st0:=(sV a b c d e i (j||(!q)) [])) (zy [.old 0,.old 1,.old 2])<|zz ?_;obtain ⟨n,q9,h⟩:=bs h;refine A ?_;refine zO (env0:=[(0,.mpt 0 0 0),(4,sA p),(41,.mpt 0 0 0),(42,.isl 1 (map zm ([[73]])))]) (st0:=(sV a b c d e i (j||(!q)) [])) (zy [.old 0,.old 1,.old 2])<|u<|sx [0,1,2] (zN a b c d e i (j||(!q)) ([[73]]) q9)<|zO (env0:=[(0,.mpt 0 0 0),(4,sA p)]) (st0:=(sV a b c d e n.1 n.2 [])) (zy [.old 0,.old 1,.old 2])<|zz ?_;obtain ⟨M,N,h⟩:=bs h;refine A ?_;refine u<|sx [0,1,2] (zH a b c d e n.1 n.2 p N)<|zO (env0:=[]) (st0:=(sU a b c d e M n.2 [])) (zy [.old 0,.old 1,.dead,.old 3])<|zz ?_;obtain rfl:=sm h;exact ⟨_,y,zbc [.old 0,.old 1,.dead,.old 3]⟩
  ·refine A ?_;refine zeh h y (fun E h=>?_) fun E h=>?_
   ·obtain ⟨f,O,h⟩:=bs h;refine rg y<|u<|mv y<|u<|sx [0,1,2] (zaL a b c d e i j O)<|zO (env0:=[(0,.mpt 0 0 0),(50,sA f.1)]) (st0:=(sV a b c d e f.2.1 f.2.2 [])) (zy [.old 0,.old 1,.old 2])<|A ?_;obtain ⟨s,q13,h⟩:=bs h;refine A ?_;refine A ?_;refine u<|sx [0,1,2] (zx a b c d e f.2.1 f.2.2 (s.2||(f.1 == [78])) y)<|zO (env0:=[(0,.mpt 0 0 0)]) (st0:=(sV a b c d e f.2.1 (f.2.2||(!(s.2||(f.1 == [78])))) [])) (zy [.old 0,.old 1,.old 2])<|zz ?_;obtain ⟨P,Q,h⟩:=bs h;refine rl y<|u<|mv y<|u<|sx [0,1,2] (zH a b c d e f.2.1 (f.2.2||(!(s.2||(f.1 == [78])))) [73] Q)<|zO (env0:=[]) (st0:=(sU a b c d e P (f.2.2||(!(s.2||(f.1 == [78])))) [])) (zy [.old 0,.old 1,.dead,.old 3])<|zz ?_;obtain rfl:=sm h;exact ⟨_,y,zbc [.old 0,.old 1,.dead,.old 3]⟩
   ·refine A ?_;refine zeh h y (fun F h=>?_) fun F h=>?_
    ·obtain ⟨o,R,h⟩:=bs h;refine A ?_;refine zO (env0:=[(0,.mpt 0 0 0),(67,.mpt 0 0 0),(68,.isl 1 (map zm ([[91,73],[73]])))]) (st0:=(sV a b c d e i j [])) (zy [.old 0,.old 1,.old 2])<|u<|sx [0,1,2] (zN a b c d e i j ([[91,73],[73]]) R)<|zO (env0:=[(0,.mpt 0 0 0)]) (st0:=(sV a b c d e o.1 o.2 [])) (zy [.old 0,.old 1,.old 2])<|zz ?_;obtain ⟨S,T,h⟩:=bs h;refine rl y<|u<|mv y<|u<|sx [0,1,2] (zH a b c d e o.1 o.2 [73] T)<|zO (env0:=[]) (st0:=(sU a b c d e S o.2 [])) (zy [.old 0,.old 1,.dead,.old 3])<|zz ?_;obtain rfl:=sm h;exact ⟨_,y,zbc [.old 0,.old 1,.dead,.old 3]⟩
    ·refine A ?_;refine zeh h y (fun G h=>?_) fun G h=>?_
     ·obtain ⟨C,U,h⟩:=bs h;refine A ?_;refine zO (env0:=[(74,.mpt 0 0 0),(75,.isl 1 (map zm ([[91,73],[73],[73]])))]) (st0:=(sV a b c d e i j [])) (zy [.old 0,.old 1,.old 2])<|u<|sx [0,1,2] (zN a b c d e i j ([[91,73],[73],[73]]) U)<|zO (env0:=[]) (st0:=(sV a b c d e C.1 C.2 [])) (zy [.old 0,.old 1,.old 2])<|zz ?_;obtain rfl:=sm h;exact ⟨_,y,zbc [.old 0,.old 1,.dead,.old 2]⟩
     ·refine A ?_;refine zeh h y (fun H h=>?_) fun H h=>?_
      ·obtain ⟨v,V,h⟩:=bs h;refine A ?_;refine zO (env0:=[(0,.mpt 0 0 0),(79,.mpt 0 0 0),(80,.isl 1 (map zm ([[73]])))]) (st0:=(sV a b c d e i j [])) (zy [.old 0,.old 1,.old 2])<|u<|sx [0,1,2] (zN a b c d e i j ([[73]]) V)<|zO (env0:=[(0,.mpt 0 0 0)]) (st0:=(sV a b c d e v.1 v.2 [])) (zy [.old 0,.old 1,.old 2])<|zz ?_;obtain ⟨l,W,X,Y,h⟩:=bs2 h;refine rl y<|u<|mv y<|u<|mv y<|u<|sx [0,1,2] (ziu a b c d e v.1 v.2 W)<|zO (env0:=[(82,.mpt 0 0 0),(84,sA l.1)]) (st0:=(sV a b c d e l.2.1 l.2.2 [])) (zy [.old 0,.old 1,.old 2])<|u<|sx [0,1,2] (zH a b c d e l.2.1 l.2.2 l.1 Y)<|zO (env0:=[]) (st0:=(sU a b c d e X l.2.2 [])) (zy [.old 0,.old 1,.dead,.old 3])<|zz ?_;obtain rfl:=sm h;exact ⟨_,y,zbc [.old 0,.old 1,.dead,.old 3]⟩
      ·obtain ⟨m,Z,h⟩:=bs h;refine rg y<|u<|mv y<|u<|sx [0,1,2] (zd9 a b c d e i j Z)<|zO (env0:=[(0,.mpt 0 0 0)]) (st0:=(sV a b c d e m.2.1 m.2.2 [])) (zy [.old 0,.old 1,.old 2])<|zz ?_;obtain ⟨x,q26,h⟩:=bs h;refine A ?_;refine zO (env0:=[(0,.mpt 0 0 0),(12,.mpt 0 0 0),(13,.isl 1 (map zm ([[73]])))]) (st0:=(sV a b c d e m.2.1 m.2.2 [])) (zy [.old 0,.old 1,.old 2])<|u<|sx [0,1,2] (zN a b c d e m.2.1 m.2.2 ([[73]]) q26)<|zO (env0:=[(0,.mpt 0 0 0)]) (st0:=(sV a b c d e x.1 x.2 [])) (zy [.old 0,.old 1,.old 2])<|zz ?_;obtain ⟨D,q27,h⟩:=bs h;refine rl y<|u<|mv y<|u<|sx [0,1,2] (ziu a b c d e x.1 x.2 q27)<|zO (env0:=[]) (st0:=(sV a b c d e D.2.1 D.2.2 [])) (zy [.old 0,.old 1,.old 2])<|zz ?_;obtain rfl:=sm h;exact ⟨_,y,zbc [.old 0,.old 1,.dead,.old 2]⟩
def zbb(b:List za)(c:T2)(e:T0)(f:zc)(i:T1)(m:T1)(j:Bool)(l:zn)(v:Bool):Option (T1×Bool):=
  cond v ((zcs b c e f i m j).bind fun a=>(zdQ b c l.C).bind fun d=>cond (l.Op == (56:Int)) ((zI b c e f i a.2.1 (a.2.2||(!d)) l.C).bind fun p=>some (p,(a.2.2||(!d)))) ((zI b c e f i a.2.1 (a.2.2||(!d)) [73]).bind fun q=>some (q,(a.2.2||(!d))))) (cond (l.Op == (58:Int)) ((zP b c e f i m j ([[84,104,114,111,119,110]])).bind fun n=>some (n.1,n.2)) (cond (l.Op == (59:Int)) ((zI b c e f i m j [73]).bind fun s=>some (s,j)) ((zP b c e f i m j ([[73]])).bind fun o=>some (o.1,o.2))))
def zcf(b:List za)(c:T2)(d:T0)(e:zc)(f:T1)(i:T1)(j:Bool)(a:zn):Option (T1×Bool):=
  cond (a.Op == (56:Int)) (zbb b c d e f i j a (a.Op == (56:Int))) (zbb b c d e f i j a (a.Op == (57:Int)))
theorem zms(a:List za)(b:T2)(c:T0)(d:zc)(e:T1)(j:T1)(i:Bool)(l:zn){r:T1×Bool}(h:zcf a b c d e j i l=some r):SC Tryz.prog 287 [.mpt 0 0 0,.agg (zv l)] (tV a b c d e j i []) (.tup []) (tU a b c d e r.1 r.2 []):=by
 refine ⟨⟨t,zdq (sz:=1) (fun _=>y),t,zdq (sz:=1) (fun _=>y),t⟩,zZ Tryz.func287 y kz y ?_⟩;refine A ?_;refine A ?_;refine zs ?_;refine zbG (X:=Bool) (fun z=>[(0,.mpt 0 0 0),(3,.mpt 3 0 0),(5,iA l.Op),(9,bA z)]) (fun z=>(sV a b c d e j i [some (4,[(zv l)])])) (fun z=>zbb a b c d e j i l z=some r) ?_ ?_
 ·refine A ?_;refine zeh h y (fun q h=>?_) fun q h=>?_
  ·refine zg ?_;exact ⟨(l.Op == (56:Int)),h,zy [.old 0,.old 1,.old 2,.old 3]⟩
  ·refine A ?_;exact (⟨(l.Op == (57:Int)),h,zy [.old 0,.old 1,.old 2,.old 3]⟩)
 ·rintro L h;refine zeh h y (fun s h=>?_) fun s h=>?_
  ·obtain ⟨f,H,h⟩:=bs h;refine rg y<|u<|mv y<|u<|sx [0,1,2] (zd9 a b c d e j i H)<|zO (env0:=[(0,.mpt 0 0 0),(3,.mpt 3 0 0)]) (st0:=(sV a b c d e f.2.1 f.2.2 [some (4,[(zv l)])])) (zy [.old 0,.old 1,.old 2,.old 3])<|zz ?_;obtain ⟨m,M,h⟩:=bs h;refine rdA [(0,_),(3,_)] (sV a b c d e f.2.1 (f.2.2||(!m)) [some (4,[(zv l)])]) [8] [0,1,2,3,4,5,6,7] [(21,_),(20,_),(19,_),(18,_),(17,_),(16,_),(15,_),(14,_)] 1 (ze7 (z:=by exact ⟨(fun _ _=>⟨_,y,y,sx [0,1,2] (zx a b c d e f.2.1 f.2.2 m y)<|⟨(.tup []),[],[(22,_)],y,y,y,y,zgE (z:=zbZ [.old 0,.old 1,.old 2,.old 3])⟩⟩),t⟩)) ?_;refine A ?_;refine zeh h y (fun v h=>?_) fun v h=>?_
   ·obtain ⟨x,I,h⟩:=bs h;refine A ?_;refine u<|sx [0,1,2] (zH a b c d e f.2.1 (f.2.2||(!m)) l.C I)<|zO (env0:=[]) (st0:=(sU a b c d e x (f.2.2||(!m)) [])) (zy [.old 0,.old 1,.dead,.old 4])<|zz ?_;obtain rfl:=sm h;exact ⟨_,y,zbc [.old 0,.old 1,.dead,.old 3]⟩
   ·obtain ⟨B,J,h⟩:=bs h;refine rl y<|u<|mv y<|u<|sx [0,1,2] (zH a b c d e f.2.1 (f.2.2||(!m)) [73] J)<|zO (env0:=[]) (st0:=(sU a b c d e B (f.2.2||(!m)) [])) (zy [.old 0,.old 1,.dead,.old 4])<|zz ?_;obtain rfl:=sm h;exact ⟨_,y,zbc [.old 0,.old 1,.dead,.old 3]⟩
  ·refine A ?_;refine zeh h y (fun D h=>?_) fun D h=>?_
   ·obtain ⟨n,K,h⟩:=bs h;refine A ?_;refine zO (env0:=[(34,.mpt 0 0 0),(35,.isl 1 (map zm ([[84,104,114,111,119,110]])))]) (st0:=(sV a b c d e j i [])) (zy [.old 0,.old 1,.old 2])<|u<|sx [0,1,2] (zN a b c d e j i ([[84,104,114,111,119,110]]) K)<|zO (env0:=[]) (st0:=(sV a b c d e n.1 n.2 [])) (zy [.old 0,.old 1,.old 2])<|zz ?_;obtain rfl:=sm h;exact ⟨_,y,zbc [.old 0,.old 1,.dead,.old 2]⟩
   ·refine A ?_;refine zeh h y (fun p h=>?_) fun p h=>?_
    ·obtain ⟨E,F,h⟩:=bs h;refine rl y<|u<|mv y<|u<|sx [0,1,2] (zH a b c d e j i [73] F)<|zO (env0:=[]) (st0:=(sU a b c d e E i [])) (zy [.old 0,.old 1,.dead,.old 4])<|zz ?_;obtain rfl:=sm h;exact ⟨_,y,zbc [.old 0,.old 1,.dead,.old 3]⟩
    ·obtain ⟨o,G,h⟩:=bs h;refine A ?_;refine zO (env0:=[(6,.mpt 0 0 0),(7,.isl 1 (map zm ([[73]])))]) (st0:=(sV a b c d e j i [])) (zy [.old 0,.old 1,.old 2])<|u<|sx [0,1,2] (zN a b c d e j i ([[73]]) G)<|zO (env0:=[]) (st0:=(sV a b c d e o.1 o.2 [])) (zy [.old 0,.old 1,.old 2])<|zz ?_;obtain rfl:=sm h;exact ⟨_,y,zbc [.old 0,.old 1,.dead,.old 2]⟩
def zk(c:List za)(d:T2)(e:T0)(f:zc)(a:T1)(i:T1)(j:Bool)(b:zn):Option (T1×T1×Bool):=
  cond (zaJ b.Op 1 7) ((za6 c d e f a i j b).bind fun E=>some (E.1,E.2.1,E.2.2)) (cond (b.Op == (13:Int)) ((zP c d e f a i j ([[73]])).bind fun l=>(zI c d e f a l.1 l.2 [73]).bind fun F=>some (a,F,l.2)) (cond (zaJ b.Op 8 19) ((zP c d e f a i j ([[73],[73]])).bind fun m=>(zI c d e f a m.1 m.2 [73]).bind fun G=>some (a,G,m.2)) (cond (b.Op == (20:Int)) (some (a,i,j)) (cond (zaJ b.Op 21 26) ((zP c d e f a i j ([[73]])).bind fun n=>some (a,n.1,n.2)) (cond (zaJ b.Op 27 32) ((zP c d e f a i j ([[73],[73]])).bind fun o=>some (a,o.1,o.2)) (cond (zaJ b.Op 33 34) ((zcs c d e f a i j).bind fun p=>some (a,p.2.1,p.2.2)) (cond (zaJ b.Op 35 36) ((zcs c d e f a i j).bind fun q=>(zcs c d e f a q.2.1 q.2.2).bind fun s=>some (a,s.2.1,s.2.2)) (cond ((b.Op == (37:Int))||(zaJ b.Op 38 41)) ((zeu c d e f a i j b).bind fun v=>some (a,v.1,v.2)) (cond (zaJ b.Op 42 45) ((zdJ c d e f a i j b).bind fun x=>some (a,x.1,x.2)) (cond (zaJ b.Op 46 48) ((zel c d e f a i j b.Op).bind fun B=>some (a,B.1,B.2)) (cond (zaJ b.Op 49 55) ((zaK c d e f a i j b).bind fun C=>some (a,C.1,C.2)) ((zcf c d e f a i j b).bind fun D=>some (a,D.1,D.2)))))))))))))
theorem zna(a:List za)(b:T2)(c:T0)(d:zc)(e:T1)(f:T1)(i:Bool)(j:zn){r:T1×T1×Bool}(h:zk a b c d e f i j=some r):SC Tryz.prog 200 [.mpt 0 0 0,.agg (zv j)] (tV a b c d e f i []) (.tup []) [.one 15 (vK a b c d (.msl 3 0 (length r.1)) (.msl 4 0 (length r.2.1)) (bA r.2.2)),.no,.no,.many 1 (map zm r.1),.many 1 (map zm r.2.1)]:=by
 refine ⟨⟨t,t,t,zdq (sz:=1) (fun _=>y),zdq (sz:=1) (fun _=>y),t⟩,zZ Tryz.func200 y kz y ?_⟩;refine A ?_;refine A ?_;refine zs<|A ?_;refine zeh h y (fun N h=>?_) fun N h=>?_
 ·obtain ⟨o,q2,h⟩:=bs h;refine A ?_;refine u<|sx [0,1,2] (zmr a b c d e f i j q2)<|zO (env0:=[]) (st0:=[some (15,[(vK a b c d (.msl 3 0 (length o.1)) (.msl 4 0 (length o.2.1)) (bA o.2.2))]),none,none,some (1,map zm o.1),some (1,map zm o.2.1)]) (zy [.old 0,.dead,.dead,.old 4,.old 5])<|zz ?_;obtain rfl:=sm h;exact ⟨_,y,zbc [.old 0,.dead,.dead,.old 3,.old 4]⟩
 ·refine A ?_;refine zeh h y (fun O h=>?_) fun O h=>?_
  ·obtain ⟨l,q4,h⟩:=bs h;refine A ?_;refine zO (env0:=[(0,.mpt 0 0 0),(19,.mpt 0 0 0),(20,.isl 1 (map zm ([[73]])))]) (st0:=(sV a b c d e f i [])) (zy [.old 0,.old 1,.old 2])<|u<|sx [0,1,2] (zN a b c d e f i ([[73]]) q4)<|zO (env0:=[(0,.mpt 0 0 0)]) (st0:=(sV a b c d e l.1 l.2 [])) (zy [.old 0,.old 1,.old 2])<|zz ?_;obtain ⟨P,q5,h⟩:=bs h;refine rl y<|u<|mv y<|u<|sx [0,1,2] (zH a b c d e l.1 l.2 [73] q5)<|zO (env0:=[]) (st0:=(sU a b c d e P l.2 [])) (zy [.old 0,.old 1,.dead,.old 3])<|zz ?_;obtain rfl:=sm h;exact ⟨_,y,zbc [.old 0,.dead,.dead,.old 1,.old 3]⟩
  ·refine A ?_;refine zeh h y (fun Q h=>?_) fun Q h=>?_
   ·obtain ⟨m,q7,h⟩:=bs h;refine A ?_;refine zO (env0:=[(0,.mpt 0 0 0),(27,.mpt 0 0 0),(28,.isl 1 (map zm ([[73],[73]])))]) (st0:=(sV a b c d e f i [])) (zy [.old 0,.old 1,.old 2])<|u<|sx [0,1,2] (zN a b c d e f i ([[73],[73]]) q7)<|zO (env0:=[(0,.mpt 0 0 0)]) (st0:=(sV a b c d e m.1 m.2 [])) (zy [.old 0,.old 1,.old 2])<|zz ?_;obtain ⟨R,q8,h⟩:=bs h;refine rl y<|u<|mv y<|u<|sx [0,1,2] (zH a b c d e m.1 m.2 [73] q8)<|zO (env0:=[]) (st0:=(sU a b c d e R m.2 [])) (zy [.old 0,.old 1,.dead,.old 3])<|zz ?_;obtain rfl:=sm h;exact ⟨_,y,zbc [.old 0,.dead,.dead,.old 1,.old 3]⟩
   ·refine A ?_;refine zeh h y (fun S h=>?_) fun S h=>?_
    ·refine zg ?_;obtain rfl:=sm h;exact ⟨_,y,zbc [.old 0,.dead,.dead,.old 1,.old 2]⟩
    ·refine A ?_;refine zeh h y (fun F h=>?_) fun F h=>?_
     ·obtain ⟨p,T,h⟩:=bs h;refine A ?_;refine zO (env0:=[(38,.mpt 0 0 0),(39,.isl 1 (map zm ([[73]])))]) (st0:=(sV a b c d e f i [])) (zy [.old 0,.old 1,.old 2])<|u<|sx [0,1,2] (zN a b c d e f i ([[73]]) T)<|zO (env0:=[]) (st0:=(sV a b c d e p.1 p.2 [])) (zy [.old 0,.old 1,.old 2])<|zz ?_;obtain rfl:=sm h;exact ⟨_,y,zbc [.old 0,.dead,.dead,.old 1,.old 2]⟩
     ·refine A ?_;refine zeh h y (fun G h=>?_) fun G h=>?_
      ·obtain ⟨q,U,h⟩:=bs h;refine A ?_;refine zO (env0:=[(44,.mpt 0 0 0),(45,.isl 1 (map zm ([[73],[73]])))]) (st0:=(sV a b c d e f i [])) (zy [.old 0,.old 1,.old 2])<|u<|sx [0,1,2] (zN a b c d e f i ([[73],[73]]) U)<|zO (env0:=[]) (st0:=(sV a b c d e q.1 q.2 [])) (zy [.old 0,.old 1,.old 2])<|zz ?_;obtain rfl:=sm h;exact ⟨_,y,zbc [.old 0,.dead,.dead,.old 1,.old 2]⟩
      ·refine A ?_;refine zeh h y (fun H h=>?_) fun H h=>?_
       ·obtain ⟨s,V,h⟩:=bs h;refine rl y<|u<|mv y<|u<|sx [0,1,2] (zd9 a b c d e f i V)<|zO (env0:=[]) (st0:=(sV a b c d e s.2.1 s.2.2 [])) (zy [.old 0,.old 1,.old 2])<|zz ?_;obtain rfl:=sm h;exact ⟨_,y,zbc [.old 0,.dead,.dead,.old 1,.old 2]⟩
       ·refine A ?_;refine zeh h y (fun I h=>?_) fun I h=>?_
        ·obtain ⟨n,W,h⟩:=bs h;refine rg y<|u<|mv y<|u<|sx [0,1,2] (zd9 a b c d e f i W)<|zO (env0:=[(0,.mpt 0 0 0)]) (st0:=(sV a b c d e n.2.1 n.2.2 [])) (zy [.old 0,.old 1,.old 2])<|zz ?_;obtain ⟨v,X,h⟩:=bs h;refine rl y<|u<|mv y<|u<|sx [0,1,2] (zd9 a b c d e n.2.1 n.2.2 X)<|zO (env0:=[]) (st0:=(sV a b c d e v.2.1 v.2.2 [])) (zy [.old 0,.old 1,.old 2])<|zz ?_;obtain rfl:=sm h;exact ⟨_,y,zbc [.old 0,.dead,.dead,.old 1,.old 2]⟩
        ·refine A ?_;refine zeh h y (fun J h=>?_) fun J h=>?_
         ·obtain ⟨x,Y,h⟩:=bs h;refine A ?_;refine u<|sx [0,1,2] (zl0 a b c d e f i j Y)<|zO (env0:=[]) (st0:=(sU a b c d e x.1 x.2 [])) (zy [.old 0,.old 1,.dead,.old 4])<|zz ?_;obtain rfl:=sm h;exact ⟨_,y,zbc [.old 0,.dead,.dead,.old 1,.old 3]⟩
         ·refine A ?_;refine zeh h y (fun K h=>?_) fun K h=>?_
          ·obtain ⟨B,Z,h⟩:=bs h;refine A ?_;refine u<|sx [0,1,2] (zmq a b c d e f i j Z)<|zO (env0:=[]) (st0:=(sU a b c d e B.1 B.2 [])) (zy [.old 0,.old 1,.dead,.old 4])<|zz ?_;obtain rfl:=sm h;exact ⟨_,y,zbc [.old 0,.dead,.dead,.old 1,.old 3]⟩
          ·refine A ?_;refine zeh h y (fun L h=>?_) fun L h=>?_
           ·obtain ⟨C,q25,h⟩:=bs h;refine rl y<|u<|mv y<|u<|mv y<|u<|sx [0,1,2] (znb a b c d e f i j.Op q25)<|zO (env0:=[]) (st0:=(sV a b c d e C.1 C.2 [])) (zy [.old 0,.old 1,.old 2])<|zz ?_;obtain rfl:=sm h;exact ⟨_,y,zbc [.old 0,.dead,.dead,.old 1,.old 2]⟩
           ·refine A ?_;refine zeh h y (fun M h=>?_) fun M h=>?_
            ·obtain ⟨D,q27,h⟩:=bs h;refine A ?_;refine u<|sx [0,1,2] (zll a b c d e f i j q27)<|zO (env0:=[]) (st0:=(sU a b c d e D.1 D.2 [])) (zy [.old 0,.old 1,.dead,.old 4])<|zz ?_;obtain rfl:=sm h;exact ⟨_,y,zbc [.old 0,.dead,.dead,.old 1,.old 3]⟩
            ·obtain ⟨E,q28,h⟩:=bs h;refine A ?_;refine u<|sx [0,1,2] (zms a b c d e f i j q28)<|zO (env0:=[]) (st0:=(sU a b c d e E.1 E.2 [])) (zy [.old 0,.old 1,.dead,.old 4])<|zz ?_;obtain rfl:=sm h;exact ⟨_,y,zbc [.old 0,.dead,.dead,.old 1,.old 3]⟩
def zlk(b:T1)(c:T1)(a:Bool):Option (Bool):=
  some (!a)
def zfn(e:zc)(b:Int)(c:zn)(a:T1×T1×Bool)(d:Bool):Option (Sum (T1×T1×Bool×Bool×Int) (Sum (T1×T1×Bool) (Bool))):=
  some (.inl (a.1,a.2.1,(d||(!(decide (((length a.2.1):Int)≤e.Stack)))),(!(zlP c.Op)),(IntKind.i64.wrap (b+1))))
def zaR(i:T0)(d:zq)(e:zc)(j:T1)(m:T1)(n:Bool)(o:Bool)(a:Int):Option (Sum (T1×T1×Bool×Bool×Int) (Sum (T1×T1×Bool) (Bool))):=
  cond (decide (a<(length e.Code:Int))) ((idx e.Code a).bind fun f=>(zf0 d.l d.at_ i e j m n a o).bind fun b=>cond b.2.2 (some (.inr (.inr false))) ((zev d.l d.at_ i e b.1 b.2.1 b.2.2 a).bind fun p=>(zk d.l d.at_ i e b.1 b.2.1 p f).bind fun c=>cond (zgY f.Op) ((zdL d.l d.at_ i e c.1 c.2.1 c.2.2 f.A).bind fun q=>zfn e a f c q) (zfn e a f c c.2.2))) (some (.inr (.inl (j,m,n))))
def zqx(e:T0)(f:zq)(i:zc)(a:Bool)(c:Bool)(d:T1):Option (Bool):=
  (zr (fun z=>zaR e f i z.1 z.2.1 z.2.2.1 z.2.2.2.1 z.2.2.2.2) (d,[],(a||(!c)),true,0)).bind fun o=>zQ o (fun b=>zlk b.1 b.2.1 b.2.2) some
def zjx(c:zc)(a:T1):Option (Sum (T1) (Sum (T1) (Bool))):=
  cond (decide (((length a):Int)<c.Locals)) ((zhj 16 a ([[84]])).bind fun b=>some (.inl b)) (some (.inr (.inl a)))
def zgK(i:T0)(j:zq)(a:zc)(c:Bool)(d:Bool)(e:T1):Option (Bool):=
  (zhj 16 e a.Params).bind fun f=>(zr (fun z=>zjx a z) f).bind fun o=>zQ o (fun b=>zqx i j a c d b) some
def zgJ(e:T0)(a:zq)(b:zc)(c:Bool):Option (Bool):=
  (zit b.Params a.l a.at_).bind fun d=>cond (!b.Static) ((zhj 16 ([]:T1) [e]).bind fun f=>zgK e a b c d f) (zgK e a b c d [])
def zjw(d:T0)(b:zq)(a:zc)(c:Bool):Option (Bool):=
  cond (a.Ret == [86]) (zgJ d b a (c||(!true))) ((zcB b.l b.at_ a.Ret a.Ret).bind fun e=>zgJ d b a (c||(!e)))
def zeo(b:zq)(e:zc)(c:Bool)(a:Int):Option (Sum (Bool×Int) (Sum (Bool) (Bool))):=
  cond (decide (a<(length e.Maps:Int))) ((idx e.Maps a).bind fun d=>(zjR d.Locals b.l b.at_).bind fun f=>(cond f ((zjR d.Stack b.l b.at_).bind fun i=>some i) (some false)).bind fun j=>some (.inl ((c||(!j)),(IntKind.i64.wrap (a+1))))) (some (.inr (.inl c)))
def zcj(i:Option zq)(e:T0)(a:Int):Option (Bool):=
  zt1 i (none) (fun c=>(zG c.l c.at_ e).bind fun d=>(cond (((!d.2)||(decide (a<0)))||(decide ((length d.1.Methods:Int)≤a))) (some true) ((idx d.1.Methods a).bind fun j=>some j.Abstract)).bind fun m=>cond m (some false) ((idx d.1.Methods a).bind fun f=>(zr (fun z=>zeo c f z.1 z.2) (false,0)).bind fun o=>zQ o (fun b=>zjw e c f b) some))
theorem zdp(M:Option zq)(d:T0)(T:Int){r:Bool}(h:zcj M d T=some r):zan Tryz.prog 118 [zht 2 zS M,sA d,iA T] (bA r):=by
 refine zo Tryz.func118 y kz y y ?_;unfold zcj at h
 rcases M with _ |a
 ·replace h:=oeN h;cases h
 ·replace h:=oeS h;refine A ?_;obtain ⟨v5,q1,h⟩:=bs h;refine rg y<|u<|ld ti y y<|u<|mv y<|u<|pc (zha a.l a.at_ d q1) y y y<|u<|mv y<|u<|ex y y<|u<|ex y y<|u<|al 1 ti y<|u<|sto ti y y y<|u<|asg y<|zz ?_;refine zi ?_;obtain ⟨v7,q6,h⟩:=bs h;refine A ?_;refine zeh h y (fun U h=>?_) fun U h=>?_
  ·refine A ?_;exact RT0
  ·refine zg ?_;obtain ⟨c,q8,h⟩:=bs h;refine rdA [(1,sA d),(3,.mpt 0 0 0),(9,.mpt 1 0 0)] [some (1,[[.ipt 2 [[.isl 6 (map zb a.l),.imp (map (rKV (fun x=>iA x)) a.at_)]] 0 0]]),some (15,[(vK a.l a.at_ d c (.lit (.slice none 0 0)) (.lit (.slice none 0 0)) (bA false))])] [8] [0,1,2,3,4,5,6,7] [(50,_),(49,_),(48,_),(47,_),(46,_),(45,_),(44,_),(43,_)] 1 (ze7 (z:=by exact ⟨(fun _ _=>⟨_,y,y,bx 2 15 y y y y<|⟨(.mpt 2 0 0),[9],[(9,_),(51,_)],y,y,y,y,zgE (z:=zbZ [.old 0,.old 2])⟩⟩),t⟩)) ?_;refine zi<|A ?_;obtain ⟨o,ho,h⟩:=bs h;refine lpB ho (fun z=>[(1,sA d),(3,.mpt 0 0 0),(9,.mpt 1 0 0),(56,.isl 3 (map zae c.Maps)),(57,iA (length c.Maps:Int)),(58,iA z.2)]) (fun z=>[some (1,[[.ipt 2 [[.isl 6 (map zb a.l),.imp (map (rKV (fun x=>iA x)) a.at_)]] 0 0]]),some (15,[(vK a.l a.at_ d c (.msl 2 0 0) (.msl 3 0 0) (bA z.1))]),some (1,map zm []),some (1,map zm [])]) (fun b=>[(1,sA d),(3,.mpt 0 0 0),(9,.mpt 1 0 0)]) (fun b=>[some (1,[[.ipt 2 [[.isl 6 (map zb a.l),.imp (map (rKV (fun x=>iA x)) a.at_)]] 0 0]]),some (15,[(vK a.l a.at_ d c (.msl 2 0 0) (.msl 3 0 0) (bA b))]),some (1,map zm []),some (1,map zm [])]) (pG Tryz.f118 bA) ⟨[.old 0,.old 1,.fresh 1,.fresh 1],ce y y<|cv y (.mpt y)<|cv y (.mpt y)<|ce y y<|ce y y<|ce y y<|cn,y,⟨⟨_,y,zfU ⟨ci y,t⟩⟩,⟨_,y,zfU (zBl y (by exact ⟨.nilown y,.nilown y,ci y,t⟩))⟩,w,w,t⟩,y,k⟩ ?_ ?_
   ·rintro ⟨G,V⟩ r h;refine A ?_;refine zi ?_;refine zeh h y (fun N h=>?_) fun N h=>?_
    ·refine zg<|zi<|zs ?_;obtain ⟨H,q16,h⟩:=bs h;refine A ?_;refine A ?_;obtain ⟨v18,W,E,B,h⟩:=bs2 h;refine A ?_;refine u<|pcs (zlY H.Locals a.l a.at_ W) y y (.cons (si y) (.cons (zfW t ⟨(zay y ⟨(si y),t⟩),t⟩) .nil)) za9<|u<|mv y<|zgn (x:=E) (j:=5) 4 y y y y y gpn (fun v=>by replace B:=bT v B;obtain ⟨v19,Y,B⟩:=bs B;obtain rfl:=sm B;exact g y v<|fa ti y y y<|g y v<|ld ti y y<|g y v<|mv y<|g y v<|pcs (zlY H.Stack a.l a.at_ Y) y y (.cons (si y) (.cons (zfW t ⟨(zay y ⟨(si y),t⟩),t⟩) .nil)) za9<|zz (eg [69,70,71,72] 4 y y y y)) (fun hb=>(sm (bF hb B)).symm)<|u<|sx [1,2,3] (zx a.l a.at_ d c [] [] G E y)<|zO (env0:=[(1,sA d),(3,.mpt 0 0 0),(9,.mpt 1 0 0),(56,.isl 3 (map zae c.Maps)),(57,iA (length c.Maps:Int)),(58,iA V)]) (st0:=[some (1,[[.ipt 2 [[.isl 6 (map zb a.l),.imp (map (rKV (fun x=>iA x)) a.at_)]] 0 0]]),some (15,[(vK a.l a.at_ d c (.msl 2 0 0) (.msl 3 0 0) (bA (G||(!E))))]),some (1,map zm []),some (1,map zm [])]) (zy [.old 0,.old 1,.old 2,.old 3])<|zz ?_;refine A ?_;obtain rfl:=sm h;exact ⟨_,y,zy [.old 0,.old 1,.old 2,.old 3]⟩
    ·refine zJ ?_;obtain rfl:=sm h;exact ⟨y,_,y,zy [.old 0,.old 1,.old 2,.old 3]⟩
   ·rintro D rfl;refine zA ?_;refine zbG (X:=Bool) (fun z=>[(1,sA d),(3,.mpt 0 0 0),(9,.mpt 1 0 0)]) (fun z=>[some (1,[[.ipt 2 [[.isl 6 (map zb a.l),.imp (map (rKV (fun x=>iA x)) a.at_)]] 0 0]]),some (15,[(vK a.l a.at_ d c (.msl 2 0 0) (.msl 3 0 0) (bA z))]),some (1,map zm []),some (1,map zm [])]) (fun z=>zgJ d a c z=some r) ?_ ?_
    ·rcases bb (c.Ret == [86]) with e |e
     ·replace h:=bT e h;exact rdQ [21] [0,1,2,3,4,5,6,7,8,9,10,11,12,13,14,15,16,17,18,19,20] [(96,_),(95,_),(94,_),(93,_),(92,_),(91,_),(90,_),(89,_),(88,_),(87,_),(86,_),(85,_),(84,_),(83,_),(82,_),(81,_),(80,_),(79,_),(78,_),(77,_),(76,_)] 1 (ze7 (z:=by exact ⟨(fun _ _=>⟨_,y,y,sc [1,2,3] (args:=[.mpt 1 0 0,bA true]) (zx a.l a.at_ d c [] [] D true y) y y y y ⟨(.mpt y),(rnI y),t⟩ ⟨⟨_,y,(zAD y ⟨(.msl y),(.msl y),(rnI y),t⟩)⟩,⟨y,mkI (fun _=>y)⟩,⟨y,mkI (fun _=>y)⟩,t⟩<|⟨(.tup []),[],[(97,_)],y,y,y,y,zgE (z:=by exact ⟨(D||(!true)),h,zbZ [.old 0,.old 1,.old 2,.old 3]⟩)⟩⟩),t⟩))
     ·replace h:=bF e h;obtain ⟨C,Z,h⟩:=bs h;exact zbx [21] [20,19,18,17,16,15,14,13,12,11,10,9,8,7,6,5,4,3,2,1,0] [(96,bA C),(95,bA C),(94,sA c.Ret),(93,.mpt 1 0 4),(92,.mpt 1 0 2),(91,.mpt 1 0 0),(90,.mpt 1 0 0),(89,sA c.Ret),(88,.mpt 1 0 4),(87,.mpt 1 0 2),(86,.mpt 1 0 0),(85,.mpt 1 0 0),(84,.ipt 2 [[.isl 6 (map zb a.l),.imp (map (rKV (fun x=>iA x)) a.at_)]] 0 0),(83,bA (c.Ret == [86])),(82,bA (c.Ret == [86])),(81,sA c.Ret),(80,.mpt 1 0 4),(79,.mpt 1 0 2),(78,.mpt 1 0 0),(77,.mpt 1 0 0),(76,.mpt 1 0 0)] 1 kz kz y kz (zj0 ⟨pe,(fun _=>pag (b:=(c.Ret == [86])) y y y y e y (pc (zdz a.l a.at_ c.Ret c.Ret Z) y y y<|w)),(fun _=>pag (b:=(c.Ret == [86])) y y y y e y (ld ti y y<|w)),(fun _=>pag (b:=(c.Ret == [86])) y y y y e y (fa ti y y y<|w)),(fun _=>pag (b:=(c.Ret == [86])) y y y y e y (fa ti y y y<|w)),pe,pe,(fun _=>pag (b:=(c.Ret == [86])) y y y y e y (ld ti y y<|w)),(fun _=>pag (b:=(c.Ret == [86])) y y y y e y (fa ti y y y<|w)),(fun _=>pag (b:=(c.Ret == [86])) y y y y e y (fa ti y y y<|w)),pe,pe,(fun _=>pag (b:=(c.Ret == [86])) y y y y e y (ld ti y y<|w)),pe,(pb y (seq ti y y w)),(pb y (ld ti y y w)),(pb y (fa ti y y y w)),(pb y (fa ti y y y w)),pe,pe,pe,t⟩ ⟨(fun _ _=>⟨_,y,y,sc [1,2,3] (args:=[.mpt 1 0 0,bA C]) (zx a.l a.at_ d c [] [] D C y) y y y y ⟨(.mpt y),(rnI y),t⟩ ⟨⟨_,y,(zAD y ⟨(.msl y),(.msl y),(rnI y),t⟩)⟩,⟨y,mkI (fun _=>y)⟩,⟨y,mkI (fun _=>y)⟩,t⟩<|⟨(.tup []),[],[(97,.tup [])],y,y,kz,y,zvA ⟨pe,pe,(fun _=>pag (b:=(c.Ret == [86])) y y y y e y (ld ti y y<|w)),(fun _=>pag (b:=(c.Ret == [86])) y y y y e y (fa ti y y y<|w)),(fun _=>pag (b:=(c.Ret == [86])) y y y y e y (fa ti y y y<|w)),pe,pe,(fun _=>pag (b:=(c.Ret == [86])) y y y y e y (ld ti y y<|w)),(fun _=>pag (b:=(c.Ret == [86])) y y y y e y (fa ti y y y<|w)),(fun _=>pag (b:=(c.Ret == [86])) y y y y e y (fa ti y y y<|w)),pe,pe,(fun _=>pag (b:=(c.Ret == [86])) y y y y e y (ld ti y y<|w)),pe,(pb y (seq ti y y w)),(pb y (ld ti y y w)),(pb y (fa ti y y y w)),(pb y (fa ti y y y w)),pe,pe,pe,t⟩ ⟨(D||(!C)),h,zy [.old 0,.old 1,.old 2,.old 3]⟩⟩⟩),t⟩)
    ·rintro p h;obtain ⟨q,q23,h⟩:=bs h;refine A ?_;refine u<|pcs (zl9 c.Params a.l a.at_ q23) y y (.cons (si y) (.cons (zfW t ⟨(zay y ⟨(si y),t⟩),t⟩) .nil)) za9<|u<|sx [1,2,3] (zx a.l a.at_ d c [] [] p q y)<|zO (env0:=[(1,sA d),(9,.mpt 0 0 0)]) (st0:=[some (15,[(vK a.l a.at_ d c (.msl 1 0 0) (.msl 2 0 0) (bA (p||(!q))))]),some (1,map zm []),some (1,map zm [])]) (zy [.old 1,.old 2,.old 3])<|zz ?_;refine zbG (X:=T1) (fun z=>[(9,.mpt 0 0 0)]) (fun z=>[some (15,[(vK a.l a.at_ d c (.msl 1 0 (length z)) (.msl 2 0 0) (bA (p||(!q))))]),some (1,map zm z),some (1,map zm [])]) (fun z=>zgK d a c p q z=some r) ?_ ?_
     ·refine A ?_;refine zeh h y (fun O h=>?_) fun O h=>?_
      ·obtain ⟨v25,q25,h⟩:=bs h;refine A ?_;refine u<|apM 4 ti y ti y y (by decide) ti y y y y (roX (f:=zm) (z:=[d]) y y) (fun _=>y) y q25<|A ?_;exact (⟨v25,h,zy [.old 0,.old 4,.old 2]⟩)
      ·refine zg ?_;exact ⟨[],h,zy [.old 0,.old 1,.old 2]⟩
     ·rintro v26 h;obtain ⟨F,q26,h⟩:=bs h;refine rdA [(9,_)] [some (15,[(vK a.l a.at_ d c (.msl 1 0 (length F)) (.msl 2 0 0) (bA (p||(!q))))]),some (1,map zm F),some (1,map zm [])] [10,13] [0,1,2,3,4,5,6,7,8,9] [(132,_),(131,_),(130,_),(129,_),(128,_),(127,_),(126,_),(125,_),(124,_),(123,_)] 2 (ze7 (z:=by exact ⟨(fun _ _=>⟨_,y,y,apM 3 ti y ti y y (by decide) ti y y y y roI (fun _=>y) y q26<|⟨(.msl 3 0 (length F)),[11,12],[(135,_),(134,_),(133,_)],y,y,y,y,ze7 (z:=by exact ⟨nv,(fun _ _=>⟨_,y,y,sto ti y y y<|⟨.any,[],[],y,y,y,t,zgE (z:=zbZ [.old 0,.old 3,.old 2])⟩⟩),t⟩)⟩⟩),nw,t⟩)) ?_;obtain ⟨o,ho,h⟩:=bs h;refine lpA ho (fun z=>[(9,.mpt 0 0 0)]) (fun z=>[some (15,[(vK a.l a.at_ d c (.msl 1 0 (length z)) (.msl 2 0 0) (bA (p||(!q))))]),some (1,map zm z),some (1,map zm [])]) (fun b=>[(9,.mpt 0 0 0)]) (fun b=>[some (15,[(vK a.l a.at_ d c (.msl 1 0 (length b)) (.msl 2 0 0) (bA (p||(!q))))]),some (1,map zm b),some (1,map zm [])]) (pG Tryz.f118 bA) (zbZ [.old 0,.old 1,.old 2]) ?_ ?_
      ·rintro I r h;refine zi ?_;refine rdA [(9,_),(146,_)] [some (15,[(vK a.l a.at_ d c (.msl 1 0 (length I)) (.msl 2 0 0) (bA (p||(!q))))]),some (1,map zm I),some (1,map zm [])] [] [0,1,2,3,4,5,6,7,8,9,10] [(146,_),(145,_),(144,_),(143,_),(142,_),(141,_),(140,_),(139,_),(138,_),(137,_),(136,_)] 0 (zgE (z:=zbZ [.old 0,.old 1,.old 2])) ?_;refine zeh h y (fun P h=>?_) fun P h=>?_
       ·refine zg<|zs ?_;obtain ⟨v31,q30,h⟩:=bs h;refine A ?_;refine u<|apM 4 ti y ti y y (by decide) ti y y y y (roX (f:=zm) (z:=[[84]]) y y) (fun _=>y) y q30<|A ?_;obtain rfl:=sm h;exact ⟨_,y,zy [.old 0,.old 4,.old 2]⟩
       ·refine zJ ?_;obtain rfl:=sm h;exact ⟨y,_,y,zy [.old 0,.old 1,.old 2]⟩
      ·rintro v32 rfl;refine A ?_;refine zi<|A ?_;obtain ⟨o,ho,h⟩:=bs h;refine lpB ho (fun z=>[(9,.mpt 0 0 0),(13,bA z.2.2.2.1),(160,.isl 4 (map zv c.Code)),(161,iA (length c.Code:Int)),(162,iA z.2.2.2.2)]) (fun z=>(sV a.l a.at_ d c z.1 z.2.1 z.2.2.1 [])) (fun b=>[(9,.mpt 0 0 0)]) (fun b=>(sV a.l a.at_ d c b.1 b.2.1 b.2.2 [])) (pG Tryz.f118 bA) (zbZ [.old 0,.old 1,.old 2]) ?_ ?_
       ·rintro ⟨v44,v45,v46,v47,s⟩ r h;refine A ?_;refine zi ?_;refine zeh h y (fun Q h=>?_) fun Q h=>?_
        ·refine zg<|zi<|zs ?_;obtain ⟨n,q40,h⟩:=bs h;refine A ?_;obtain ⟨m,q41,h⟩:=bs h;refine A ?_;refine u<|sx [0,1,2] (zlZ a.l a.at_ d c v44 v45 v46 s v47 q41)<|zO (env0:=[(9,.mpt 0 0 0),(14,iA s),(15,.mpt 3 0 0),(160,.isl 4 (map zv c.Code)),(161,iA (length c.Code:Int)),(162,iA s)]) (st0:=(sV a.l a.at_ d c m.1 m.2.1 m.2.2 [some (4,[(zv n)])])) (zy [.old 0,.old 4,.old 5,.old 3])<|zz ?_;refine zi<|A ?_;refine zeh h y (fun R h=>?_) fun R h=>?_
         ·refine A ?_;refine zL ?_;obtain rfl:=sm h;exact ⟨_,y,_,y,zbc []⟩
         ·refine zg ?_;obtain ⟨J,q43,h⟩:=bs h;refine rg y<|u<|mv y<|u<|mv y<|u<|sx [0,1,2] (zl2 a.l a.at_ d c m.1 m.2.1 m.2.2 s q43)<|zO (env0:=[(9,.mpt 0 0 0),(15,.mpt 3 0 0),(160,.isl 4 (map zv c.Code)),(161,iA (length c.Code:Int)),(162,iA s)]) (st0:=(sV a.l a.at_ d c m.1 m.2.1 J [some (4,[(zv n)])])) (zy [.old 0,.old 1,.old 2,.old 3])<|zz ?_;obtain ⟨i,q44,h⟩:=bs h;refine A ?_;refine u<|sx [0,1,2] (zna a.l a.at_ d c m.1 m.2.1 J n q44)<|zO (env0:=[(9,.mpt 0 0 0),(15,.mpt 3 0 0),(160,.isl 4 (map zv c.Code)),(161,iA (length c.Code:Int)),(162,iA s)]) (st0:=(sV a.l a.at_ d c i.1 i.2.1 i.2.2 [some (4,[(zv n)])])) (zy [.old 0,.old 4,.old 5,.old 3])<|zz ?_;refine zbG (X:=Bool) (fun z=>[(9,.mpt 0 0 0),(15,.mpt 3 0 0),(160,.isl 4 (map zv c.Code)),(161,iA (length c.Code:Int)),(162,iA s)]) (fun z=>(sV a.l a.at_ d c i.1 i.2.1 z [some (4,[(zv n)])])) (fun z=>zfn c s n i z=some r) ?_ ?_
          ·refine A ?_;refine zeh h y (fun S h=>?_) fun S h=>?_
           ·obtain ⟨K,q46,h⟩:=bs h;refine zpG [(9,_),(15,_),(160,_),(161,_),(162,_)] (sV a.l a.at_ d c i.1 i.2.1 K [some (4,[(zv n)])]) [7] [0,1,2,3,4,5,6] [(190,_),(189,_),(188,_),(187,_),(186,_),(185,_),(184,_)] 1 (ze7 (z:=by exact ⟨(fun _ _=>⟨_,y,y,sx [0,1,2] (ziA a.l a.at_ d c i.1 i.2.1 i.2.2 n.A q46)<|⟨(.tup []),[],[(191,_)],y,y,y,y,zgE (z:=zbZ [.old 0,.old 1,.old 2,.old 3])⟩⟩),t⟩)) ?_;exact ⟨K,h,zy [.old 0,.old 1,.old 2,.old 3]⟩
           ·refine zg ?_;exact ⟨i.2.2,h,zy [.old 0,.old 1,.old 2,.old 3]⟩
          ·rintro L h;refine rdA [(9,_),(15,_),(160,_),(161,_),(162,_)] (sV a.l a.at_ d c i.1 i.2.1 (L||(!(decide (((length i.2.1):Int)≤c.Stack)))) [some (4,[(zv n)])]) [12] [0,1,2,3,4,5,6,7,8,9,10,11] [(203,_),(202,_),(201,_),(200,_),(199,_),(198,_),(197,_),(196,_),(195,_),(194,_),(193,_),(192,_)] 1 (ze7 (z:=by exact ⟨(fun _ _=>⟨_,y,y,sx [0,1,2] (zx a.l a.at_ d c i.1 i.2.1 L (decide (((length i.2.1):Int)≤c.Stack)) y)<|⟨(.tup []),[],[(204,_)],y,y,y,y,zgE (z:=zbZ [.old 0,.old 1,.old 2,.old 3])⟩⟩),t⟩)) ?_;refine A ?_;refine A ?_;obtain rfl:=sm h;exact ⟨_,y,zy [.old 0,.old 1,.old 2]⟩
        ·refine zJ ?_;obtain rfl:=sm h;exact ⟨y,_,y,zy [.old 0,.old 1,.old 2]⟩
       ·rintro ⟨v55,v56,v57⟩ rfl;refine zA<|A ?_;exact RT0
instance (a:Option zq)(b:T0)(c:Int):PF Tryz.prog 118 [zht 2 zS a,sA b,iA c] (zcj a b c) bA:=⟨fun _=>zdp a b c⟩
def zqX(a:(Option zq)×Int):Option ((Option zq)×Int):=
  some (a.1,0)
def zmy(a:Int):Option (Sum (Int) (Sum (Unit) ((Option zq)×Int))):=
  some (.inl (IntKind.i64.wrap (a+1)))
def zf4(f:(Option zq)×Int)(b:za)(a:Int):Option (Sum (Int) (Sum (Unit) ((Option zq)×Int))):=
  cond (decide (a<(length b.Methods:Int))) ((idx b.Methods a).bind fun c=>(cond (!c.Abstract) ((zcj f.1 b.Name a).bind fun d=>some (!d)) (some false)).bind fun e=>cond e (some (.inr (.inr (none,5)))) (some (.inl (IntKind.i64.wrap (a+1))))) (some (.inr (.inl ())))
def zf5(c:List za)(e:(Option zq)×Int)(a:Int):Option (Sum (Int) (Sum (Unit) ((Option zq)×Int))):=
  cond (decide (a<(length c:Int))) ((idx c a).bind fun d=>(zr (fun z=>zf4 e d z) 0).bind fun o=>zQ o (fun b=>zmy a) (fun r=>some (.inr (.inr r)))) (some (.inr (.inl ())))
def zdR(d:List za)(e:z8):Option ((Option zq)×Int):=
  (zkE d).bind fun a=>cond (!(a.2 == (0:Int))) (some (none,a.2)) ((zgt a.1).bind fun f=>cond (!(f == (0:Int))) (some (none,f)) ((zj8 a.1 e.C e.M).bind fun c=>cond ((((!c.2.2)||(!c.2.1.Static))||(decide (0<(length c.2.1.Params:Int))))||(!(c.2.1.Ret == [86]))) (some (none,4)) ((zr (fun z=>zf5 d a z) 0).bind fun o=>zQ o (fun b=>zqX a) some)))
theorem zdS(d:List za)(i:z8){r:(Option zq)×Int}(h:zdR d i=some r):zan Tryz.prog 42 [.isl 6 (map zb d),.agg (zfA i)] (.tup [zht 2 zS r.1,iA r.2]):=by
 refine zo Tryz.func42 y kz y (zDh (zyK (zlE (fun _=>y)) (y))) ?_;refine A ?_;obtain ⟨e,L,h⟩:=bs h;refine A ?_;refine zi<|A ?_;refine zeh h y (fun q h=>?_) fun q h=>?_
 ·refine A ?_;exact RT0
 ·refine zg<|zi ?_;obtain ⟨N,F,h⟩:=bs h;refine rg y<|u<|mv y<|u<|pc (zjk e.1 F) y y (zyK (zlE (fun _=>y)) (y))<|A ?_;refine A ?_;refine zeh h y (fun s h=>?_) fun s h=>?_
  ·refine A ?_;exact RT0
  ·refine zg<|zi ?_;obtain ⟨O,G,h⟩:=bs h;refine A ?_;refine u<|pc (zn2 e.1 i.C i.M G) y y (zyK (zlE (fun _=>y)) (y))<|A ?_;refine A ?_;refine zeh h y (fun v h=>?_) fun v h=>?_
   ·refine A ?_;exact RT0
   ·refine zg<|zi<|A ?_;obtain ⟨o,ho,h⟩:=bs h;refine lpB ho (fun z=>[(6,zht 2 zS e.1),(57,.isl 6 (map zb d)),(58,iA (length d:Int)),(59,iA z)]) (fun z=>[]) (fun b=>[(6,zht 2 zS e.1)]) (fun b=>[]) (pG Tryz.f42 (fun r=>.tup [zht 2 zS r.1,iA r.2])) (zbZ []) ?_ ?_
    ·rintro l r h;refine A ?_;refine zi ?_;refine zeh h y (fun m h=>?_) fun m h=>?_
     ·refine zg<|zi<|zs ?_;obtain ⟨f,H,h⟩:=bs h;refine A ?_;refine A ?_;obtain ⟨o,ho,h⟩:=bs h;refine lpS ho (fun z=>[(6,zht 2 zS e.1),(13,.mpt 0 0 0),(57,.isl 6 (map zb d)),(58,iA (length d:Int)),(59,iA l),(64,.isl 10 (map zf f.Methods)),(65,iA (length f.Methods:Int)),(66,iA z)]) (fun z=>[some (6,[(zb f)])]) (fun b=>[(6,zht 2 zS e.1),(57,.isl 6 (map zb d)),(58,iA (length d:Int)),(59,iA l)]) (fun b=>[]) (pG Tryz.f42 (fun r=>.tup [zht 2 zS r.1,iA r.2])) (zbZ [.old 0]) ?_ ?_ ?_
      ·rintro B r h;refine A ?_;refine zi ?_;refine zeh h y (fun n h=>?_) fun n h=>?_
       ·refine zg<|zi<|zs ?_;obtain ⟨I,J,h⟩:=bs h;refine A ?_;obtain ⟨D,c,h⟩:=bs h;refine A ?_;refine zgn (x:=D) (j:=3) 6 y y y y y gpn (fun a=>by replace c:=bT a c;obtain ⟨K,E,c⟩:=bs c;obtain rfl:=sm c;exact g y a<|mv y<|g y a<|fa ti y y y<|g y a<|ld ti y y<|g y a<|mv y<|g y a<|pc (zdp e.1 f.Name B E) y y (zyK (zlE (fun _=>y)) (y))<|g y a<|nt y<|zz (eg [75,76,77,78,79,80] 6 y y y y)) (fun hb=>(sm (bF hb c)).symm)<|zz ?_;refine zeh h y (fun p h=>?_) fun p h=>?_
        ·refine A ?_;refine zL ?_;obtain rfl:=sm h;exact ⟨_,y,_,y,zbc []⟩
        ·refine zg<|A ?_;obtain rfl:=sm h;exact ⟨_,y,zy [.old 0]⟩
       ·refine zJ ?_;obtain rfl:=sm h;exact ⟨y,_,y,zy []⟩
      ·rintro ⟨⟩ rfl;refine zA<|A ?_;obtain rfl:=sm h;exact ⟨_,y,zy []⟩
      ·rintro r' rfl env st hp;obtain rfl:=sm h;exact ⟨_,y,hp⟩
     ·refine zJ ?_;obtain rfl:=sm h;exact ⟨y,_,y,zy []⟩
    ·rintro ⟨⟩ rfl;refine zA<|A ?_;exact RT0
instance (a:List za)(b:z8):PF Tryz.prog 42 [.isl 6 (map zb a),.agg (zfA b)] (zdR a b) (fun r=>(.tup [zht 2 zS r.1,iA r.2])):=⟨fun _=>zdS a b⟩
def znn:Bool:=
  true
theorem zpl{r:Bool}(h:znn=r):zan Tryz.prog 117 [] (bA r):=by
 refine zo Tryz.func117 y kz y y ?_;unfold znn at h;refine A ?_;refine rg y<|u<|pc (ztn y) y y y<|u<|asg y<|zz ?_;refine zL ?_;obtain rfl:=h;exact ⟨_,y,zbc []⟩
instance:PF Tryz.prog 117 [] (some (znn)) bA:=.of fun _=>zpl 
def zow:Option (Bool):=
  (zkE ([(za.mk [70,97,99,101] [79,98,106,101,99,116] true [] [] ([(zc.mk [102] [] [73] false true 0 0 [] [] [])])),(za.mk [65,97] [79,98,106,101,99,116] false ([[70,97,99,101]]) ([(zj.mk [120] [73] false),(zj.mk [115] [73] true)]) ([(zc.mk [102] [] [73] false false 1 1 ([(zn.mk 1 5 [] []),(zn.mk 47 0 [] [])]) [] [])])),(za.mk [66,98] [65,97] false [] ([(zj.mk [121] [91,65,97] false)]) ([(zc.mk [109,97,105,110] [] [86] true false 0 0 ([(zn.mk 46 0 [] [])]) [] [])]))])).bind fun a=>(zkE ([(za.mk [70,97,99,101] [79,98,106,101,99,116] true [] [] ([(zc.mk [102] [] [73] false true 0 0 [] [] [])])),(za.mk [65,97] [79,98,106,101,99,116] false ([[70,97,99,101]]) ([(zj.mk [120] [73] false),(zj.mk [115] [73] true)]) ([(zc.mk [102] [] [73] false false 1 1 ([(zn.mk 2 0 [] []),(zn.mk 47 0 [] [])]) [] [])])),(za.mk [66,98] [65,97] false [] ([(zj.mk [121] [91,65,97] false)]) ([(zc.mk [109,97,105,110] [] [86] true false 0 0 ([(zn.mk 46 0 [] [])]) [] [])]))])).bind fun b=>cond ((!(a.2 == (0:Int)))||(!(b.2 == (0:Int)))) (some false) ((cond (znn) ((zcj a.1 [65,97] 0).bind fun j=>some j) (some false)).bind fun l=>(cond l ((zcj a.1 [66,98] 0).bind fun m=>some m) (some false)).bind fun n=>(cond n ((zcj b.1 [65,97] 0).bind fun o=>some (!o)) (some false)).bind fun p=>(cond p ((zcj a.1 [70,97,99,101] 0).bind fun q=>some (!q)) (some false)).bind fun c=>(cond c ((zcj a.1 [65,97] 1).bind fun d=>some (!d)) (some false)).bind fun e=>(cond e ((zcj a.1 [90,122] 0).bind fun f=>some (!f)) (some false)).bind fun i=>some i)
theorem zrY{r:Bool}(h:zow=some r):zan Tryz.prog 34 [] (bA r):=by
 refine zo Tryz.func34 y kz y y<|A ?_;obtain ⟨f,H,h⟩:=bs h;refine rg y<|u<|sx [] (zhc y)<|zO (env0:=[(7,.msl 0 0 3)]) (st0:=[some (6,[[sA [70,97,99,101],sA [79,98,106,101,99,116],bA true,.lit (.slice none 0 0),.lit (.slice none 0 0),.msl 1 0 1],[sA [65,97],sA [79,98,106,101,99,116],bA false,.msl 2 0 1,.msl 3 0 2,.msl 4 0 1],[sA [66,98],sA [65,97],bA false,.lit (.slice none 0 0),.msl 6 0 1,.msl 7 0 1]]),some (10,[[sA [102],.lit (.slice none 0 0),sA [73],bA false,bA true,iA 0,iA 0,.lit (.slice none 0 0),.lit (.slice none 0 0),.lit (.slice none 0 0)]]),some (1,[[sA [70,97,99,101]]]),some (3,[[sA [120],sA [73],bA false],[sA [115],sA [73],bA true]]),some (10,[[sA [102],.lit (.slice none 0 0),sA [73],bA false,bA false,iA 1,iA 1,.msl 5 0 2,.lit (.slice none 0 0),.lit (.slice none 0 0)]]),some (4,[[iA 1,iA 5,sA [],sA []],[iA 47,iA 0,sA [],sA []]]),some (3,[[sA [121],sA [91,65,97],bA false]]),some (10,[[sA [109,97,105,110],.lit (.slice none 0 0),sA [86],bA true,bA false,iA 0,iA 0,.msl 8 0 1,.lit (.slice none 0 0),.lit (.slice none 0 0)]]),some (4,[[iA 46,iA 0,sA [],sA []]])]) (zy [.old 0,.old 1,.old 2,.old 3,.old 4,.old 5,.old 6,.old 7,.old 8])<|zO (env0:=[(7,.isl 6 (map zb ([(za.mk [70,97,99,101] [79,98,106,101,99,116] true [] [] ([(zc.mk [102] [] [73] false true 0 0 [] [] [])])),(za.mk [65,97] [79,98,106,101,99,116] false ([[70,97,99,101]]) ([(zj.mk [120] [73] false),(zj.mk [115] [73] true)]) ([(zc.mk [102] [] [73] false false 1 1 ([(zn.mk 1 5 [] []),(zn.mk 47 0 [] [])]) [] [])])),(za.mk [66,98] [65,97] false [] ([(zj.mk [121] [91,65,97] false)]) ([(zc.mk [109,97,105,110] [] [86] true false 0 0 ([(zn.mk 46 0 [] [])]) [] [])]))])))]) (st0:=[]) (zy [])<|u<|pc (zlA ([(za.mk [70,97,99,101] [79,98,106,101,99,116] true [] [] ([(zc.mk [102] [] [73] false true 0 0 [] [] [])])),(za.mk [65,97] [79,98,106,101,99,116] false ([[70,97,99,101]]) ([(zj.mk [120] [73] false),(zj.mk [115] [73] true)]) ([(zc.mk [102] [] [73] false false 1 1 ([(zn.mk 1 5 [] []),(zn.mk 47 0 [] [])]) [] [])])),(za.mk [66,98] [65,97] false [] ([(zj.mk [121] [91,65,97] false)]) ([(zc.mk [109,97,105,110] [] [86] true false 0 0 ([(zn.mk 46 0 [] [])]) [] [])]))]) H) y y y<|A ?_;refine rg y<|u<|sx [] (zhc y)<|zO (env0:=[(1,zht 2 zS f.1),(2,iA f.2),(11,.msl 0 0 3)]) (st0:=[some (6,[[sA [70,97,99,101],sA [79,98,106,101,99,116],bA true,.lit (.slice none 0 0),.lit (.slice none 0 0),.msl 1 0 1],[sA [65,97],sA [79,98,106,101,99,116],bA false,.msl 2 0 1,.msl 3 0 2,.msl 4 0 1],[sA [66,98],sA [65,97],bA false,.lit (.slice none 0 0),.msl 6 0 1,.msl 7 0 1]]),some (10,[[sA [102],.lit (.slice none 0 0),sA [73],bA false,bA true,iA 0,iA 0,.lit (.slice none 0 0),.lit (.slice none 0 0),.lit (.slice none 0 0)]]),some (1,[[sA [70,97,99,101]]]),some (3,[[sA [120],sA [73],bA false],[sA [115],sA [73],bA true]]),some (10,[[sA [102],.lit (.slice none 0 0),sA [73],bA false,bA false,iA 1,iA 1,.msl 5 0 2,.lit (.slice none 0 0),.lit (.slice none 0 0)]]),some (4,[[iA 1,iA 5,sA [],sA []],[iA 47,iA 0,sA [],sA []]]),some (3,[[sA [121],sA [91,65,97],bA false]]),some (10,[[sA [109,97,105,110],.lit (.slice none 0 0),sA [86],bA true,bA false,iA 0,iA 0,.msl 8 0 1,.lit (.slice none 0 0),.lit (.slice none 0 0)]]),some (4,[[iA 46,iA 0,sA [],sA []]])]) (zy [.old 0,.old 1,.old 2,.old 3,.old 4,.old 5,.old 6,.old 7,.old 8])<|A ?_;refine rg y<|u<|mv y<|u<|ixX ti y ti y y y<|A ?_;refine u<|ixX ti y ti y y y<|A ?_;refine u<|ixX ti y ti y y y<|A ?_;obtain ⟨I,J,h⟩:=bs h;refine rg y<|u<|mv y<|zO (env0:=[(1,zht 2 zS f.1),(2,iA f.2),(22,.isl 6 (map zb ([(za.mk [70,97,99,101] [79,98,106,101,99,116] true [] [] ([(zc.mk [102] [] [73] false true 0 0 [] [] [])])),(za.mk [65,97] [79,98,106,101,99,116] false ([[70,97,99,101]]) ([(zj.mk [120] [73] false),(zj.mk [115] [73] true)]) ([(zc.mk [102] [] [73] false false 1 1 ([(zn.mk 2 0 [] []),(zn.mk 47 0 [] [])]) [] [])])),(za.mk [66,98] [65,97] false [] ([(zj.mk [121] [91,65,97] false)]) ([(zc.mk [109,97,105,110] [] [86] true false 0 0 ([(zn.mk 46 0 [] [])]) [] [])]))])))]) (st0:=[]) (zy [])<|u<|pc (zlA ([(za.mk [70,97,99,101] [79,98,106,101,99,116] true [] [] ([(zc.mk [102] [] [73] false true 0 0 [] [] [])])),(za.mk [65,97] [79,98,106,101,99,116] false ([[70,97,99,101]]) ([(zj.mk [120] [73] false),(zj.mk [115] [73] true)]) ([(zc.mk [102] [] [73] false false 1 1 ([(zn.mk 2 0 [] []),(zn.mk 47 0 [] [])]) [] [])])),(za.mk [66,98] [65,97] false [] ([(zj.mk [121] [91,65,97] false)]) ([(zc.mk [109,97,105,110] [] [86] true false 0 0 ([(zn.mk 46 0 [] [])]) [] [])]))]) J) y y y<|A ?_;refine zi<|A ?_;refine zeh h y (fun s h=>?_) fun s h=>?_
 ·refine A ?_;exact RT0
 ·refine zg ?_;obtain ⟨K,o,L,a,M,b,v,c,h⟩:=bs4 h;obtain ⟨B,d,C,e,h⟩:=bs2 h;refine rg y<|u<|pc (zpl y) y y y<|u<|mv y<|zgn (x:=K) (j:=1) 2 y y y y y gpn (fun p=>by replace o:=bT p o;obtain ⟨R,N,o⟩:=bs o;obtain rfl:=sm o;exact g y p<|mv y<|g y p<|pc (zdp f.1 [65,97] 0 N) y y (zyK (zlE (fun _=>y)) (y))<|zz (eg [34,35] 2 y y y y)) (fun hb=>(sm (bF hb o)).symm)<|u<|mv y<|zgn (x:=L) (j:=5) 2 y y y y y gpn (fun q=>by replace a:=bT q a;obtain ⟨S,O,a⟩:=bs a;obtain rfl:=sm a;exact g y q<|mv y<|g y q<|pc (zdp f.1 [66,98] 0 O) y y (zyK (zlE (fun _=>y)) (y))<|zz (eg [38,39] 2 y y y y)) (fun hb=>(sm (bF hb a)).symm)<|u<|mv y<|zgn (x:=M) (j:=9) 3 y y y y y gpn (fun i=>by replace b:=bT i b;obtain ⟨T,D,b⟩:=bs b;obtain rfl:=sm b;exact g y i<|mv y<|g y i<|pc (zdp I.1 [65,97] 0 D) y y (zyK (zlE (fun _=>y)) (y))<|g y i<|nt y<|zz (eg [42,43,44] 3 y y y y)) (fun hb=>(sm (bF hb b)).symm)<|u<|mv y<|zgn (x:=v) (j:=14) 3 y y y y y gpn (fun l=>by replace c:=bT l c;obtain ⟨U,E,c⟩:=bs c;obtain rfl:=sm c;exact g y l<|mv y<|g y l<|pc (zdp f.1 [70,97,99,101] 0 E) y y (zyK (zlE (fun _=>y)) (y))<|g y l<|nt y<|zz (eg [47,48,49] 3 y y y y)) (fun hb=>(sm (bF hb c)).symm)<|u<|mv y<|zgn (x:=B) (j:=19) 3 y y y y y gpn (fun m=>by replace d:=bT m d;obtain ⟨P,F,d⟩:=bs d;obtain rfl:=sm d;exact g y m<|mv y<|g y m<|pc (zdp f.1 [65,97] 1 F) y y (zyK (zlE (fun _=>y)) (y))<|g y m<|nt y<|zz (eg [52,53,54] 3 y y y y)) (fun hb=>(sm (bF hb d)).symm)<|u<|mv y<|zgn (x:=C) (j:=24) 3 y y y y y gpn (fun n=>by replace e:=bT n e;obtain ⟨Q,G,e⟩:=bs e;obtain rfl:=sm e;exact g y n<|mv y<|g y n<|pc (zdp f.1 [90,122] 0 G) y y (zyK (zlE (fun _=>y)) (y))<|g y n<|nt y<|zz (eg [57,58,59] 3 y y y y)) (fun hb=>(sm (bF hb e)).symm)<|u<|asg y<|zz ?_;exact RT0
instance:PF Tryz.prog 34 [] (zow) bA:=⟨fun _=>zrY ⟩
def zov:Option (Bool):=
  (zow).bind fun a=>some a
theorem zrX{r:Bool}(h:zov=some r):zan Tryz.prog 120 [] (bA r):=by
 refine zo Tryz.func120 y kz y y<|A ?_;obtain ⟨a,b,h⟩:=bs h;refine A ?_;exact RT0
instance:PF Tryz.prog 120 [] (zov) bA:=⟨fun _=>zrX ⟩
def zoy:Option (Bool):=
  (zdR ([(za.mk [70,97,99,101] [79,98,106,101,99,116] true [] [] ([(zc.mk [102] [] [73] false true 0 0 [] [] [])])),(za.mk [65,97] [79,98,106,101,99,116] false ([[70,97,99,101]]) ([(zj.mk [120] [73] false),(zj.mk [115] [73] true)]) ([(zc.mk [102] [] [73] false false 1 1 ([(zn.mk 1 5 [] []),(zn.mk 47 0 [] [])]) [] [])])),(za.mk [66,98] [65,97] false [] ([(zj.mk [121] [91,65,97] false)]) ([(zc.mk [109,97,105,110] [] [86] true false 0 0 ([(zn.mk 46 0 [] [])]) [] [])]))]) (z8.mk [66,98] [109,97,105,110])).bind fun a=>(zdR ([(za.mk [70,97,99,101] [79,98,106,101,99,116] true [] [] ([(zc.mk [102] [] [73] false true 0 0 [] [] [])])),(za.mk [65,97] [79,98,106,101,99,116] false ([[70,97,99,101]]) ([(zj.mk [120] [73] false),(zj.mk [115] [73] true)]) ([(zc.mk [102] [] [73] false false 1 1 ([(zn.mk 1 5 [] []),(zn.mk 47 0 [] [])]) [] [])])),(za.mk [66,98] [65,97] false [] ([(zj.mk [121] [91,65,97] false)]) ([(zc.mk [109,97,105,110] [] [86] true false 0 0 ([(zn.mk 46 0 [] [])]) [] [])]))]) (z8.mk [66,98] [102])).bind fun b=>(zdR ([(za.mk [70,97,99,101] [79,98,106,101,99,116] true [] [] ([(zc.mk [102] [] [73] false true 0 0 [] [] [])])),(za.mk [65,97] [79,98,106,101,99,116] false ([[70,97,99,101]]) ([(zj.mk [120] [73] false),(zj.mk [115] [73] true)]) []),(za.mk [66,98] [65,97] false [] ([(zj.mk [121] [91,65,97] false)]) ([(zc.mk [109,97,105,110] [] [86] true false 0 0 ([(zn.mk 46 0 [] [])]) [] [])]))]) (z8.mk [66,98] [109,97,105,110])).bind fun c=>(zov).bind fun d=>(cond ((((d&&(a.2 == (0:Int)))&&(!Option.isNone a.1))&&(b.2 == (4:Int)))&&(c.2 == (1:Int))) ((zgt a.1).bind fun e=>some (e == (0:Int))) (some false)).bind fun f=>some f
theorem zrZ{r:Bool}(h:zoy=some r):zan Tryz.prog 36 [] (bA r):=by
 refine zo Tryz.func36 y kz y y<|A ?_;obtain ⟨b,i,h⟩:=bs h;refine rg y<|u<|sx [] (zhc y)<|zO (env0:=[(9,.msl 0 0 3)]) (st0:=[some (6,[[sA [70,97,99,101],sA [79,98,106,101,99,116],bA true,.lit (.slice none 0 0),.lit (.slice none 0 0),.msl 1 0 1],[sA [65,97],sA [79,98,106,101,99,116],bA false,.msl 2 0 1,.msl 3 0 2,.msl 4 0 1],[sA [66,98],sA [65,97],bA false,.lit (.slice none 0 0),.msl 6 0 1,.msl 7 0 1]]),some (10,[[sA [102],.lit (.slice none 0 0),sA [73],bA false,bA true,iA 0,iA 0,.lit (.slice none 0 0),.lit (.slice none 0 0),.lit (.slice none 0 0)]]),some (1,[[sA [70,97,99,101]]]),some (3,[[sA [120],sA [73],bA false],[sA [115],sA [73],bA true]]),some (10,[[sA [102],.lit (.slice none 0 0),sA [73],bA false,bA false,iA 1,iA 1,.msl 5 0 2,.lit (.slice none 0 0),.lit (.slice none 0 0)]]),some (4,[[iA 1,iA 5,sA [],sA []],[iA 47,iA 0,sA [],sA []]]),some (3,[[sA [121],sA [91,65,97],bA false]]),some (10,[[sA [109,97,105,110],.lit (.slice none 0 0),sA [86],bA true,bA false,iA 0,iA 0,.msl 8 0 1,.lit (.slice none 0 0),.lit (.slice none 0 0)]]),some (4,[[iA 46,iA 0,sA [],sA []]])]) (zy [.old 0,.old 1,.old 2,.old 3,.old 4,.old 5,.old 6,.old 7,.old 8])<|u<|bd ti y y y<|zO (env0:=[(9,.isl 6 (map zb ([(za.mk [70,97,99,101] [79,98,106,101,99,116] true [] [] ([(zc.mk [102] [] [73] false true 0 0 [] [] [])])),(za.mk [65,97] [79,98,106,101,99,116] false ([[70,97,99,101]]) ([(zj.mk [120] [73] false),(zj.mk [115] [73] true)]) ([(zc.mk [102] [] [73] false false 1 1 ([(zn.mk 1 5 [] []),(zn.mk 47 0 [] [])]) [] [])])),(za.mk [66,98] [65,97] false [] ([(zj.mk [121] [91,65,97] false)]) ([(zc.mk [109,97,105,110] [] [86] true false 0 0 ([(zn.mk 46 0 [] [])]) [] [])]))]))),(10,.agg [sA [66,98],sA [109,97,105,110]])]) (st0:=[]) (zy [])<|u<|pc (zdS ([(za.mk [70,97,99,101] [79,98,106,101,99,116] true [] [] ([(zc.mk [102] [] [73] false true 0 0 [] [] [])])),(za.mk [65,97] [79,98,106,101,99,116] false ([[70,97,99,101]]) ([(zj.mk [120] [73] false),(zj.mk [115] [73] true)]) ([(zc.mk [102] [] [73] false false 1 1 ([(zn.mk 1 5 [] []),(zn.mk 47 0 [] [])]) [] [])])),(za.mk [66,98] [65,97] false [] ([(zj.mk [121] [91,65,97] false)]) ([(zc.mk [109,97,105,110] [] [86] true false 0 0 ([(zn.mk 46 0 [] [])]) [] [])]))]) (z8.mk [66,98] [109,97,105,110]) i) y y y<|A ?_;obtain ⟨e,l,h⟩:=bs h;refine rg y<|u<|sx [] (zhc y)<|zO (env0:=[(1,zht 2 zS b.1),(2,iA b.2),(15,.msl 0 0 3)]) (st0:=[some (6,[[sA [70,97,99,101],sA [79,98,106,101,99,116],bA true,.lit (.slice none 0 0),.lit (.slice none 0 0),.msl 1 0 1],[sA [65,97],sA [79,98,106,101,99,116],bA false,.msl 2 0 1,.msl 3 0 2,.msl 4 0 1],[sA [66,98],sA [65,97],bA false,.lit (.slice none 0 0),.msl 6 0 1,.msl 7 0 1]]),some (10,[[sA [102],.lit (.slice none 0 0),sA [73],bA false,bA true,iA 0,iA 0,.lit (.slice none 0 0),.lit (.slice none 0 0),.lit (.slice none 0 0)]]),some (1,[[sA [70,97,99,101]]]),some (3,[[sA [120],sA [73],bA false],[sA [115],sA [73],bA true]]),some (10,[[sA [102],.lit (.slice none 0 0),sA [73],bA false,bA false,iA 1,iA 1,.msl 5 0 2,.lit (.slice none 0 0),.lit (.slice none 0 0)]]),some (4,[[iA 1,iA 5,sA [],sA []],[iA 47,iA 0,sA [],sA []]]),some (3,[[sA [121],sA [91,65,97],bA false]]),some (10,[[sA [109,97,105,110],.lit (.slice none 0 0),sA [86],bA true,bA false,iA 0,iA 0,.msl 8 0 1,.lit (.slice none 0 0),.lit (.slice none 0 0)]]),some (4,[[iA 46,iA 0,sA [],sA []]])]) (zy [.old 0,.old 1,.old 2,.old 3,.old 4,.old 5,.old 6,.old 7,.old 8])<|u<|bd ti y y y<|zO (env0:=[(1,zht 2 zS b.1),(2,iA b.2),(15,.isl 6 (map zb ([(za.mk [70,97,99,101] [79,98,106,101,99,116] true [] [] ([(zc.mk [102] [] [73] false true 0 0 [] [] [])])),(za.mk [65,97] [79,98,106,101,99,116] false ([[70,97,99,101]]) ([(zj.mk [120] [73] false),(zj.mk [115] [73] true)]) ([(zc.mk [102] [] [73] false false 1 1 ([(zn.mk 1 5 [] []),(zn.mk 47 0 [] [])]) [] [])])),(za.mk [66,98] [65,97] false [] ([(zj.mk [121] [91,65,97] false)]) ([(zc.mk [109,97,105,110] [] [86] true false 0 0 ([(zn.mk 46 0 [] [])]) [] [])]))]))),(16,.agg [sA [66,98],sA [102]])]) (st0:=[]) (zy [])<|u<|pc (zdS ([(za.mk [70,97,99,101] [79,98,106,101,99,116] true [] [] ([(zc.mk [102] [] [73] false true 0 0 [] [] [])])),(za.mk [65,97] [79,98,106,101,99,116] false ([[70,97,99,101]]) ([(zj.mk [120] [73] false),(zj.mk [115] [73] true)]) ([(zc.mk [102] [] [73] false false 1 1 ([(zn.mk 1 5 [] []),(zn.mk 47 0 [] [])]) [] [])])),(za.mk [66,98] [65,97] false [] ([(zj.mk [121] [91,65,97] false)]) ([(zc.mk [109,97,105,110] [] [86] true false 0 0 ([(zn.mk 46 0 [] [])]) [] [])]))]) (z8.mk [66,98] [102]) l) y y y<|A ?_;refine rg y<|u<|sx [] (zhc y)<|zO (env0:=[(1,zht 2 zS b.1),(2,iA b.2),(4,iA e.2),(20,.msl 0 0 3)]) (st0:=[some (6,[[sA [70,97,99,101],sA [79,98,106,101,99,116],bA true,.lit (.slice none 0 0),.lit (.slice none 0 0),.msl 1 0 1],[sA [65,97],sA [79,98,106,101,99,116],bA false,.msl 2 0 1,.msl 3 0 2,.msl 4 0 1],[sA [66,98],sA [65,97],bA false,.lit (.slice none 0 0),.msl 6 0 1,.msl 7 0 1]]),some (10,[[sA [102],.lit (.slice none 0 0),sA [73],bA false,bA true,iA 0,iA 0,.lit (.slice none 0 0),.lit (.slice none 0 0),.lit (.slice none 0 0)]]),some (1,[[sA [70,97,99,101]]]),some (3,[[sA [120],sA [73],bA false],[sA [115],sA [73],bA true]]),some (10,[[sA [102],.lit (.slice none 0 0),sA [73],bA false,bA false,iA 1,iA 1,.msl 5 0 2,.lit (.slice none 0 0),.lit (.slice none 0 0)]]),some (4,[[iA 1,iA 5,sA [],sA []],[iA 47,iA 0,sA [],sA []]]),some (3,[[sA [121],sA [91,65,97],bA false]]),some (10,[[sA [109,97,105,110],.lit (.slice none 0 0),sA [86],bA true,bA false,iA 0,iA 0,.msl 8 0 1,.lit (.slice none 0 0),.lit (.slice none 0 0)]]),some (4,[[iA 46,iA 0,sA [],sA []]])]) (zy [.old 0,.old 1,.old 2,.old 3,.old 4,.old 5,.old 6,.old 7,.old 8])<|A ?_;refine rg y<|u<|mv y<|u<|ixX ti y ti y y y<|A ?_;obtain ⟨o,m,h⟩:=bs h;refine A ?_;refine zO (env0:=[(1,zht 2 zS b.1),(2,iA b.2),(4,iA e.2),(25,.isl 6 (map zb ([(za.mk [70,97,99,101] [79,98,106,101,99,116] true [] [] ([(zc.mk [102] [] [73] false true 0 0 [] [] [])])),(za.mk [65,97] [79,98,106,101,99,116] false ([[70,97,99,101]]) ([(zj.mk [120] [73] false),(zj.mk [115] [73] true)]) []),(za.mk [66,98] [65,97] false [] ([(zj.mk [121] [91,65,97] false)]) ([(zc.mk [109,97,105,110] [] [86] true false 0 0 ([(zn.mk 46 0 [] [])]) [] [])]))]))),(26,.agg [sA [66,98],sA [109,97,105,110]])]) (st0:=[]) (zy [])<|u<|pc (zdS ([(za.mk [70,97,99,101] [79,98,106,101,99,116] true [] [] ([(zc.mk [102] [] [73] false true 0 0 [] [] [])])),(za.mk [65,97] [79,98,106,101,99,116] false ([[70,97,99,101]]) ([(zj.mk [120] [73] false),(zj.mk [115] [73] true)]) []),(za.mk [66,98] [65,97] false [] ([(zj.mk [121] [91,65,97] false)]) ([(zc.mk [109,97,105,110] [] [86] true false 0 0 ([(zn.mk 46 0 [] [])]) [] [])]))]) (z8.mk [66,98] [109,97,105,110]) m) y y y<|A ?_;obtain ⟨p,q,n,a,h⟩:=bs2 h;refine A ?_;refine zgn (j:=5) 2 y y y y y gpn (fun d=>g y d<|mv y<|g y d<|zHc ti y y y<|zz (egA [36,37] 2 d y y y y)) zue<|A ?_;refine zgn (x:=n) (j:=17) 3 y y y y y gpn (fun c=>by replace a:=bT c a;obtain ⟨s,f,a⟩:=bs a;obtain rfl:=sm a;exact g y c<|mv y<|g y c<|pc (zjk b.1 f) y y (zyK (zlE (fun _=>y)) (y))<|g y c<|eql ti y y<|zz (eg [48,49,50] 3 y y y y)) (fun hb=>(sm (bF hb a)).symm)<|A ?_;exact RT0
instance:PF Tryz.prog 36 [] (zoy) bA:=⟨fun _=>zrZ ⟩
structure zkY where
  locals:T1
  stack:T1
def zu4(a:T0)(b:Int):Option (T0×Int):=
  some (a,b)
def zh9(a:T0)(b:Int):Option (Sum (T0×Int) (Sum (T0×Int) (T0×Int))):=
  (cond (decide (0<(length a:Int))) ((idx a 0).bind fun e=>some ((e.toNat:Int) == (91:Int))) (some false)).bind fun c=>cond c ((zkS a 1 (length a:Int)).bind fun d=>some (.inl (d,(IntKind.i64.wrap (b+1))))) (some (.inr (.inl (a,b))))
def zlg(a:T0):Option (T0×Int):=
  (zr (fun z=>zh9 z.1 z.2) (a,0)).bind fun o=>zQ o (fun b=>zu4 b.1 b.2) some
def zY(c:List za)(a:T0):Option (Bool):=
  (zns a).bind fun d=>cond (!d) (some false) ((zlg a).bind fun b=>(cond (b.1 == [73]) (some true) ((zcc c b.1).bind fun e=>some (decide (0≤e)))).bind fun f=>some f)
def zm0(a:T1):Option (T1):=
  some a
def zhg(c:zc)(a:T1):Option (Sum (T1) (Sum (T1) (T1))):=
  cond (decide (((length a):Int)<c.Locals)) ((zhj 16 a ([[84]])).bind fun b=>some (.inl b)) (some (.inr (.inl a)))
def zfB(a:zc)(c:T1):Option (T1):=
  (zhj 16 c a.Params).bind fun d=>(zr (fun z=>zhg a z) d).bind fun o=>zQ o (fun b=>zm0 b) some
def zg1(e:List za)(c:T0)(a:zc)(b:T1)(f:T1)(i:Bool):Option (T1):=
  cond (!a.Static) ((zhj 16 b [c]).bind fun d=>zfB a d) (zfB a b)
def zm1:Option (zX×Bool):=
  some ((zX.mk 0 [] []),false)
def zcO(b:zc)(e:Int)(a:Int):Option (Sum (Int) (Sum (Unit) (zX×Bool))):=
  cond (decide (a<(length b.Maps:Int))) ((idx b.Maps a).bind fun c=>cond (c.At == e) ((idx b.Maps a).bind fun d=>some (.inr (.inr (d,true)))) (some (.inl (IntKind.i64.wrap (a+1))))) (some (.inr (.inl ())))
def zei(d:List za)(e:T0)(a:zc)(f:T1)(i:T1)(j:Bool)(c:Int):Option (zX×Bool):=
  (zr (fun z=>zcO a c z) 0).bind fun o=>zQ o (fun b=>zm1) some
def zmi(a:T1):Option (T1):=
  some a
def zbR(c:List za)(b:T1)(a:Int):Option (Sum (T1×Int) (Sum (T1) (T1))):=
  cond (decide (0≤a)) ((idx c a).bind fun d=>(zhj 16 b [d.Name]).bind fun e=>(idx c a).bind fun f=>(zcc c f.Super).bind fun i=>some (.inl (e,i))) (some (.inr (.inl b)))
def zcH(a:List za)(c:T0):Option (T1):=
  (zcc a c).bind fun d=>(zr (fun z=>zbR a z.1 z.2) ([],d)).bind fun o=>zQ o (fun b=>zmi b) some
def zwb:Option (Bool):=
  some false
def ziR(b:T1)(c:T0)(a:Int):Option (Sum (Int) (Sum (Unit) (Bool))):=
  cond (decide (a<(length b:Int))) ((idx b a).bind fun d=>cond (d == c) (some (.inr (.inr true))) (some (.inl (IntKind.i64.wrap (a+1))))) (some (.inr (.inl ())))
def znv(a:T1)(c:T0):Option (Bool):=
  (zr (fun z=>ziR a c z) 0).bind fun o=>zQ o (fun b=>zwb) some
def zn8(a:T1)(j:T0)(b:Int):Option (T1):=
  (zkS a 0 b).bind fun c=>(zhj 16 ([]:T1) c).bind fun d=>(zkS a b (length a:Int)).bind fun e=>(zhj 16 d [j]).bind fun f=>(zhj 16 f e).bind fun i=>some i
def zeJ(b:T1)(c:T0)(a:Int):Option (Sum (Int) (Sum (Int) (T1))):=
  (cond (decide (a<(length b:Int))) ((idx b a).bind fun d=>some (Op.bytesLess d c)) (some false)).bind fun e=>cond e (some (.inl (IntKind.i64.wrap (a+1)))) (some (.inr (.inl a)))
def zoQ(a:T1)(c:T0):Option (T1):=
  (zr (fun z=>zeJ a c z) 0).bind fun o=>zQ o (fun b=>zn8 a c b) some
def zoM(a:T1):Option (T1):=
  some a
def zh1(a:Int)(b:T1):Option (Sum (T1×Int) (Sum (T1) (T1))):=
  some (.inl (b,(IntKind.i64.wrap (a+1))))
def zbB(i:List za)(c:List Bool)(b:T1)(a:Int):Option (Sum (T1×Int) (Sum (T1) (T1))):=
  cond (decide (a<(length i:Int))) ((idx c a).bind fun d=>cond d ((idx i a).bind fun e=>(zoQ b e.Name).bind fun f=>zh1 a f) (zh1 a b)) (some (.inr (.inl b)))
def zkc(c:List za)(a:List Bool):Option (T1):=
  (zr (fun z=>zbB c a z.1 z.2) ([],0)).bind fun o=>zQ o (fun b=>zoM b) some
def zoL(a:List Bool)(b:Bool):Option (Sum ((List Bool)×Bool) (Sum ((List Bool)) (T1))):=
  some (.inl (a,b))
def zh0(a:Int)(b:List Bool)(c:Bool):Option (Sum ((List Bool)×Bool×Int) (Sum ((List Bool)×Bool) (T1))):=
  some (.inl (b,c,(IntKind.i64.wrap (a+1))))
def zkb(a:Int)(b:List Bool)(c:Bool):Option (Sum ((List Bool)×Bool×Int) (Sum ((List Bool)×Bool) (T1))):=
  zh0 a b c
def zhZ(a:Int)(b:List Bool)(c:Bool):Option (Sum ((List Bool)×Bool×Int) (Sum ((List Bool)×Bool) (T1))):=
  some (.inl (b,c,(IntKind.i64.wrap (a+1))))
def zdE(j:List za)(d:za)(a:List Bool)(e:Bool)(b:Int):Option (Sum ((List Bool)×Bool×Int) (Sum ((List Bool)×Bool) (T1))):=
  cond (decide (b<(length d.Impl:Int))) ((idx d.Impl b).bind fun f=>(zcc j f).bind fun c=>(idx a c).bind fun i=>cond (!i) ((idx a c).bind fun l=>zhZ b (List.set a (Int.toNat c) true) true) (zhZ b a e)) (some (.inr (.inl (a,e))))
def zdF(f:List za)(m:T1)(c:List Bool)(d:Bool)(a:Int):Option (Sum ((List Bool)×Bool×Int) (Sum ((List Bool)×Bool) (T1))):=
  cond (decide (a<(length f:Int))) ((idx f a).bind fun e=>(idx c a).bind fun i=>(cond (!i) ((znv m e.Name).bind fun j=>some (!j)) (some false)).bind fun l=>cond l (zh0 a c d) ((zr (fun z=>zdE f e z.1 z.2.1 z.2.2) (c,d,0)).bind fun o=>zQ o (fun b=>zkb a b.1 b.2) (fun r=>some (.inr (.inr r))))) (some (.inr (.inl (c,d))))
def zgy(d:List za)(e:T1)(a:List Bool)(c:Bool):Option (Sum ((List Bool)×Bool) (Sum ((List Bool)) (T1))):=
  cond c ((zr (fun z=>zdF d e z.1 z.2.1 z.2.2) (a,false,0)).bind fun o=>zQ o (fun b=>zoL b.1 b.2) (fun r=>some (.inr (.inr r)))) (some (.inr (.inl a)))
def zgZ(a:List za)(c:T0)(d:List Bool):Option (T1):=
  (zcH a c).bind fun e=>(zr (fun z=>zgy a e z.1 z.2) (d,true)).bind fun o=>zQ o (fun b=>zkc a b) some
def zim(a:List za)(c:T0):Option (T1):=
  (mkP 1 (length a:Int)).bind fun d=>(zcc a c).bind fun b=>cond (decide (b<0)) (some []) ((idx a b).bind fun e=>cond e.Interface ((idx (List.replicate d false) b).bind fun f=>zgZ a c (List.set (List.replicate d false) (Int.toNat b) true)) (zgZ a c (List.replicate d false)))
def zef(s:((List za)×T0×T0→Option Bool))(b:List za)(c:T0)(d:T0):Option (Bool):=
  (zY b c).bind fun v=>(cond (!v) (some true) ((zY b d).bind fun x=>some (!x))).bind fun B=>cond B (some false) (cond (c == d) (some true) ((zlg c).bind fun e=>(zlg d).bind fun a=>cond ((e.2 == (0:Int))&&(a.2 == (0:Int))) ((cond ((!(e.1 == [73]))&&(!(a.1 == [73]))) ((zcH b e.1).bind fun C=>(znv C a.1).bind fun j=>(cond j (some true) ((zim b e.1).bind fun l=>(znv l a.1).bind fun m=>some m)).bind fun n=>some n) (some false)).bind fun o=>some o) (cond (a.2 == (0:Int)) (some (a.1 == [79,98,106,101,99,116])) (cond (e.2 == (0:Int)) (some false) ((zkS c 1 (length c:Int)).bind fun f=>(zkS d 1 (length d:Int)).bind fun i=>(cond ((!(f == [73]))&&(!(i == [73]))) ((s (b,f,i)).bind fun p=>some p) (some false)).bind fun q=>some q)))))
def zhP(a:List za)(b:T0)(c:T0):Option Bool:=
  zEz (fun d z=>zef d z.1 z.2.1 z.2.2) (a,b,c)
def zcM(c:List za)(a:T0)(b:T0):Option (Bool):=
  cond (b == [84]) ((cond ((a == [84])||(a == [78])) (some true) ((zY c a).bind fun o=>some o)).bind fun p=>some p) (cond (a == [78]) ((cond (b == [78]) (some true) ((cond (!(b == [73])) ((zY c b).bind fun q=>some q) (some false)).bind fun s=>some s)).bind fun v=>some v) (cond (a == b) ((zY c a).bind fun x=>some x) ((cond ((a == [73])||(b == [73])) (some true) ((zY c a).bind fun e=>some (!e))).bind fun f=>(cond f (some true) ((zY c b).bind fun i=>some (!i))).bind fun j=>cond j (some false) ((zcc c b).bind fun d=>(cond (decide (0≤d)) ((idx c d).bind fun l=>some l.Interface) (some false)).bind fun m=>cond m (some true) ((zhP c a b).bind fun n=>some n)))))
def zoK:Option (Bool):=
  some true
def zdD(e:List za)(b:T1)(f:T1)(a:Int):Option (Sum (Int) (Sum (Unit) (Bool))):=
  cond (decide (a<(length b:Int))) ((idx b a).bind fun i=>(idx f a).bind fun c=>(zcM e i c).bind fun d=>cond (!d) (some (.inr (.inr false))) (some (.inl (IntKind.i64.wrap (a+1))))) (some (.inr (.inl ())))
def zfm(d:List za)(a:T1)(c:T1):Option (Bool):=
  cond (!((length a:Int) == (length c:Int))) (some false) ((zr (fun z=>zdD d a c z) 0).bind fun o=>zQ o (fun b=>zoK) some)
def zeY(c:List za)(f:T0)(i:zc)(j:T1)(l:T1)(b:Bool)(m:Int)(n:T1)(o:T1):Option (Bool):=
  (zei c f i j l b m).bind fun a=>cond a.2 ((zfm c n a.1.Locals).bind fun d=>cond d ((zfm c o a.1.Stack).bind fun e=>some (b||(!e))) (some (b||(!false)))) (some (b||(!false)))
def zgh(a:zkY):Option (T1×T1):=
  (zhj 16 ([]:T1) a.locals).bind fun b=>(zhj 16 ([]:T1) a.stack).bind fun c=>some (b,c)
def zhC(c:List za)(f:T0)(i:zc)(j:T1)(l:T1)(b:Bool)(m:Int)(n:T1)(o:T1):Option (Bool):=
  (zei c f i j l b m).bind fun a=>cond a.2 ((zfm c n a.1.Locals).bind fun d=>cond d ((zfm c o a.1.Stack).bind fun e=>some (b||(!e))) (some (b||(!false)))) (some (b||(!false)))
def zm2(a:Bool):Option (Bool):=
  some a
def zhh(a:Int)(b:Bool):Option (Sum (Bool×Int) (Sum (Bool) (Bool))):=
  some (.inl (b,(IntKind.i64.wrap (a+1))))
def zfE(f:List za)(m:T0)(n:zc)(i:T1)(o:T1)(j:Int)(b:Bool)(c:Int)(a:zT)(d:T0):Option (Sum (Bool×Int) (Sum (Bool) (Bool))):=
  (zhP f d [84,104,114,111,119,110]).bind fun e=>cond ((decide (a.From≤j))&&(decide (j<a.To))) ((zhC f m n i o (b||(!e)) a.At i [d]).bind fun l=>zhh c l) (zhh c (b||(!e)))
def zcQ(e:List za)(f:T0)(d:zc)(i:T1)(j:T1)(l:Int)(c:Bool)(a:Int):Option (Sum (Bool×Int) (Sum (Bool) (Bool))):=
  cond (decide (a<(length d.Traps:Int))) ((idx d.Traps a).bind fun b=>cond (b.C == []) (zfE e f d i j l c a b [84,104,114,111,119,110]) (zfE e f d i j l c a b b.C)) (some (.inr (.inl c)))
def zc6(a:List za)(c:T0)(d:zc)(e:T1)(f:T1)(i:Bool)(j:Int):Option (Bool):=
  (zr (fun z=>zcQ a c d e f j z.1 z.2) (i,0)).bind fun o=>zQ o (fun b=>zm2 b) some
def zaO(e:List za)(f:T0)(i:zc)(j:T1)(a:T1)(b:Bool):Option (T0×T1×Bool):=
  cond ((length a:Int) == (0:Int)) (some ([78],a,true)) ((idx a (IntKind.i64.wrap ((length a:Int)-1))).bind fun c=>(zkS a 0 (IntKind.i64.wrap ((length a:Int)-1))).bind fun d=>some (c,d,b))
def znF(a:T1)(b:Bool):Option (T1×Bool):=
  some (a,b)
def zbd(e:List za)(j:T0)(l:zc)(m:T1)(n:T1)(c:T1)(d:Bool)(a:Int):Option (Sum (T1×Bool×Int) (Sum (T1×Bool) (T1×Bool))):=
  cond (decide (0≤a)) ((idx n a).bind fun f=>(zaO e j l m c d).bind fun b=>(zcM e b.1 f).bind fun i=>some (.inl (b.2.1,(b.2.2||(!i)),(IntKind.i64.wrap (a-1))))) (some (.inr (.inl (c,d))))
def zab(c:List za)(d:T0)(e:zc)(f:T1)(i:T1)(j:Bool)(a:T1):Option (T1×Bool):=
  (zr (fun z=>zbd c d e f a z.1 z.2.1 z.2.2) (i,j,(IntKind.i64.wrap ((length a:Int)-1)))).bind fun o=>zQ o (fun b=>znF b.1 b.2) some
def zW(i:List za)(j:T0)(b:zc)(l:T1)(c:T1)(d:Bool)(e:T0):Option (T1×Bool):=
  (zhj 16 ([]:T1) c).bind fun f=>(zhj 16 f [e]).bind fun a=>some (a,(d||(!(decide ((length a:Int)≤b.Stack)))))
def zcD(b:List za)(c:T0)(d:zc)(e:T1)(f:T1)(i:Bool):Option (T0×T1×Bool):=
  (zaO b c d e f i).bind fun a=>some (a.1,a.2.1,(a.2.2||(!(!(a.1 == [73])))))
def zco(e:List za)(f:T0)(i:zc)(b:T1)(j:zn)(a:T1)(c:Bool):Option (T1×Bool):=
  (zeY e f i b a c j.A b a).bind fun d=>some (a,d)
def zeZ(a:List za)(b:T0)(c:zc)(d:T1)(f:T1)(i:Bool)(e:zn):Option (T1×Bool):=
  cond (decide (e.Op≤26)) ((zab a b c d f i ([[73]])).bind fun n=>zco a b c d e n.1 n.2) (cond (decide (e.Op≤32)) ((zab a b c d f i ([[73],[73]])).bind fun o=>zco a b c d e o.1 o.2) (cond (decide (e.Op≤34)) ((zcD a b c d f i).bind fun j=>zco a b c d e j.2.1 j.2.2) ((zcD a b c d f i).bind fun l=>(zcD a b c d l.2.1 l.2.2).bind fun m=>zco a b c d e m.2.1 m.2.2)))
def zpv:Option (T0×zj×Bool):=
  some ([],(zj.mk [] [] false),false)
def zee(e:List za)(m:T0)(d:T1)(a:Int):Option (Sum (Int) (Sum (Unit) (T0×zj×Bool))):=
  cond (decide (a<((length d):Int))) ((idx d a).bind fun f=>(zcc e f).bind fun i=>(idx e i).bind fun b=>(zp2 b m).bind fun c=>cond (decide (0≤c)) ((idx d a).bind fun j=>(idx b.Fields c).bind fun l=>some (.inr (.inr (j,l,true)))) (some (.inl (IntKind.i64.wrap (a+1))))) (some (.inr (.inl ())))
def zkd(a:List za)(c:T0)(d:T0):Option (T0×zj×Bool):=
  (zcH a c).bind fun e=>(zr (fun z=>zee a d e z) 0).bind fun o=>zQ o (fun b=>zpv) some
def zcN(f:List za)(i:T0)(j:zc)(l:T1)(d:zn)(e:T0×zj×Bool)(a:T1)(b:Bool):Option (T1×Bool):=
  cond ((d.Op == (38:Int))||(d.Op == (40:Int))) ((zW f i j l a b e.2.1.Type_).bind fun c=>some (c.1,c.2)) (some (a,b))
def zbw(f:List za)(i:T0)(j:zc)(l:T1)(a:zn)(b:T0×zj×Bool)(c:T1)(d:Bool):Option (T1×Bool):=
  cond ((a.Op == (38:Int))||(a.Op == (39:Int))) ((zab f i j l c d [a.C]).bind fun e=>zcN f i j l a b e.1 e.2) (zcN f i j l a b c d)
def zeg(c:List za)(f:T0)(i:zc)(j:T1)(d:T1)(e:Bool)(a:zn):Option (T1×Bool):=
  (zcc c a.C).bind fun n=>cond (decide (n<0)) (some (d,true)) (cond (a.Op == (37:Int)) ((idx c n).bind fun o=>(zW c f i j d (e||(!(!o.Interface))) a.C).bind fun l=>some (l.1,l.2)) ((zkd c a.C a.M).bind fun b=>cond (e||(!(b.2.2&&(b.2.1.Static == ((a.Op == (40:Int))||(a.Op == (41:Int))))))) (some (d,(e||(!(b.2.2&&(b.2.1.Static == ((a.Op == (40:Int))||(a.Op == (41:Int))))))))) (cond ((a.Op == (39:Int))||(a.Op == (41:Int))) ((zab c f i j d (e||(!(b.2.2&&(b.2.1.Static == ((a.Op == (40:Int))||(a.Op == (41:Int))))))) [b.2.1.Type_]).bind fun m=>zbw c f i j a b m.1 m.2) (zbw c f i j a b d (e||(!(b.2.2&&(b.2.1.Static == ((a.Op == (40:Int))||(a.Op == (41:Int)))))))))))
def zp3:Option (T0×zc×Bool):=
  some ([],(zc.mk [] [] [] false false 0 0 [] [] []),false)
def zeX(e:List za)(m:T0)(d:T1)(a:Int):Option (Sum (Int) (Sum (Unit) (T0×zc×Bool))):=
  cond (decide (a<((length d):Int))) ((idx d a).bind fun f=>(zcc e f).bind fun i=>(idx e i).bind fun b=>(zlR b m).bind fun c=>cond (decide (0≤c)) ((idx d a).bind fun j=>(idx b.Methods c).bind fun l=>some (.inr (.inr (j,l,true)))) (some (.inl (IntKind.i64.wrap (a+1))))) (some (.inr (.inl ())))
def zkW(a:List za)(c:T0)(e:T0):Option (T0×zc×Bool):=
  (zcc a c).bind fun d=>(cond (decide (d<0)) (some true) ((idx a d).bind fun f=>some (!f.Interface))).bind fun i=>cond i (some ([],(zc.mk [] [] [] false false 0 0 [] [] []),false)) ((zim a c).bind fun j=>(zhj 16 [c] j).bind fun l=>(zr (fun z=>zeX a e l z) 0).bind fun o=>zQ o (fun b=>zp3) some)
def zoN:Option (T0×zc×Bool):=
  some ([],(zc.mk [] [] [] false false 0 0 [] [] []),false)
def zdG(e:List za)(f:T0)(d:T1)(a:Int):Option (Sum (Int) (Sum (Unit) (T0×zc×Bool))):=
  cond (decide (a<((length d):Int))) ((idx d a).bind fun i=>(zcc e i).bind fun j=>(idx e j).bind fun b=>(zlR b f).bind fun c=>cond ((decide (0≤c))&&(!(f == [36,105,110,105,116]))) ((idx d a).bind fun l=>(idx b.Methods c).bind fun m=>some (.inr (.inr (l,m,true)))) (some (.inl (IntKind.i64.wrap (a+1))))) (some (.inr (.inl ())))
def zjq(a:List za)(c:T0)(d:T0):Option (T0×zc×Bool):=
  (zcH a c).bind fun e=>(zr (fun z=>zdG a d e z) 0).bind fun o=>zQ o (fun b=>zoN) some
def zcn(e:List za)(f:T0)(i:zc)(j:T1)(a:zc)(b:T1)(c:Bool):Option (T1×Bool):=
  cond (!(a.Ret == [86])) ((zW e f i j b c a.Ret).bind fun d=>some (d.1,d.2)) (some (b,c))
def zbJ(b:List za)(c:T0)(f:zc)(i:T1)(o:T1)(m:Bool)(n:zn)(d:zc)(p:T0)(j:Bool):Option (T1×Bool):=
  cond (m||(!j)) (some (o,(m||(!j)))) ((zab b c f i o (m||(!j)) d.Params).bind fun e=>cond (!(n.Op == (42:Int))) ((zaO b c f i e.1 e.2).bind fun a=>(zcM b a.1 n.C).bind fun l=>cond (n.Op == (44:Int)) ((zcH b c).bind fun q=>(znv q p).bind fun s=>cond s ((zcM b a.1 c).bind fun v=>zcn b c f i d a.2.1 ((a.2.2||(!l))||(!v))) (zcn b c f i d a.2.1 ((a.2.2||(!l))||(!false)))) (zcn b c f i d a.2.1 (a.2.2||(!l)))) (zcn b c f i d e.1 e.2))
def zgg(c:List za)(e:T0)(f:zc)(i:T1)(j:T1)(l:Bool)(a:zn):Option (T1×Bool):=
  cond (a.Op == (45:Int)) ((zkW c a.C a.M).bind fun d=>zbJ c e f i j l a d.2.1 d.1 d.2.2) ((zjq c a.C a.M).bind fun b=>zbJ c e f i j l a b.2.1 b.1 ((b.2.2&&(b.2.1.Static == (a.Op == (42:Int))))&&(!b.2.1.Abstract)))
def zp1(a:T0):Option (T0):=
  (zrP [91] a).bind fun b=>(zns b).bind fun c=>cond (!c) (some []) ((zrP [91] a).bind fun d=>some d)
def zrw(a:T0):Option (T0×Bool):=
  (zns a).bind fun b=>(cond (!b) (some true) ((idx a 0).bind fun c=>some (!((c.toNat:Int) == (91:Int))))).bind fun d=>cond d (some ([],false)) ((zkS a 1 (length a:Int)).bind fun e=>some (e,true))
def zg0(c:List za)(d:T0)(e:zc)(f:T1)(i:T1)(j:Bool):Option (T0×T1×Bool):=
  (zaO c d e f i j).bind fun a=>cond (a.1 == [78]) (some ([78],a.2.1,a.2.2)) ((zrw a.1).bind fun b=>some (b.1,a.2.1,(a.2.2||(!(b.2&&(!(b.1 == [73])))))))
def zbC(a:List za)(b:T0)(c:zc)(d:T1)(e:T1)(f:Bool)(i:zn):Option (T1×Bool):=
  cond (i.Op == (49:Int)) ((zab a b c d e f ([[73]])).bind fun G=>(zW a b c d G.1 G.2 [91,73]).bind fun H=>some (H.1,H.2)) (cond (i.Op == (50:Int)) ((zp1 i.C).bind fun l=>(cond (!(l == [])) ((zY a l).bind fun I=>some I) (some false)).bind fun J=>(zab a b c d e (f||(!J)) ([[73]])).bind fun n=>(zW a b c d n.1 n.2 l).bind fun o=>some (o.1,o.2)) (cond (i.Op == (51:Int)) ((zaO a b c d e f).bind fun j=>(cond (j.1 == [78]) (some true) ((cond (decide (1<(length j.1:Int))) ((idx j.1 0).bind fun K=>some ((K.toNat:Int) == (91:Int))) (some false)).bind fun L=>some L)).bind fun M=>(zW a b c d j.2.1 (j.2.2||(!M)) [73]).bind fun p=>some (p.1,p.2)) (cond (i.Op == (52:Int)) ((zab a b c d e f ([[91,73],[73]])).bind fun q=>(zW a b c d q.1 q.2 [73]).bind fun s=>some (s.1,s.2)) (cond (i.Op == (53:Int)) ((zab a b c d e f ([[91,73],[73],[73]])).bind fun v=>some (v.1,v.2)) (cond (i.Op == (54:Int)) ((zab a b c d e f ([[73]])).bind fun x=>(zg0 a b c d x.1 x.2).bind fun m=>(zW a b c d m.2.1 m.2.2 m.1).bind fun B=>some (B.1,B.2)) (cond (i.Op == (55:Int)) ((zcD a b c d e f).bind fun D=>(zab a b c d D.2.1 D.2.2 ([[73]])).bind fun E=>(zg0 a b c d E.1 E.2).bind fun F=>some (F.2.1,F.2.2)) (some (e,f))))))))
def zcP(f:List za)(i:T0)(j:zc)(b:T1)(d:T1)(l:zn)(a:Bool):Option (T1×T1×Bool):=
  cond (!a) ((idx b l.A).bind fun e=>(zW f i j b d a e).bind fun c=>some (b,c.1,c.2)) (some (b,d,a))
def zfD(f:List za)(i:T0)(j:zc)(b:T1)(c:T1)(d:Bool)(e:Bool):Option (T1×T1×Bool):=
  cond e ((zab f i j b c d ([[73]])).bind fun a=>some (b,a.1,a.2)) (some (b,c,d))
def zaa(d:List za)(e:T0)(c:zc)(a:T1)(f:T1)(i:Bool)(b:zn):Option (T1×T1×Bool):=
  cond (b.Op == (1:Int)) ((zW d e c a f i [73]).bind fun K=>some (a,K.1,K.2)) (cond (b.Op == (2:Int)) ((zW d e c a f i [78]).bind fun L=>some (a,L.1,L.2)) (cond (b.Op == (3:Int)) (cond (decide (b.A<(length a:Int))) ((idx a (if (IntKind.i64.wrap ((length a:Int)-1))<b.A then (IntKind.i64.wrap ((length a:Int)-1)) else b.A)).bind fun M=>zcP d e c a f b (i||(!(!(M == [84]))))) (zcP d e c a f b (i||(!false)))) (cond (b.Op == (4:Int)) ((zaO d e c a f i).bind fun l=>cond (!(l.2.2||(!(decide (b.A<(length a:Int)))))) ((zgh (zkY.mk a l.2.1)).bind fun n=>(idx n.1 b.A).bind fun R=>some ((List.set n.1 (Int.toNat b.A) l.1),n.2,(l.2.2||(!(decide (b.A<(length a:Int))))))) (some (a,l.2.1,(l.2.2||(!(decide (b.A<(length a:Int)))))))) (cond (b.Op == (5:Int)) ((zaO d e c a f i).bind fun s=>some (a,s.2.1,s.2.2)) (cond (b.Op == (6:Int)) ((zaO d e c a f i).bind fun m=>(zW d e c a m.2.1 m.2.2 m.1).bind fun v=>(zW d e c a v.1 v.2 m.1).bind fun x=>some (a,x.1,x.2)) (cond (b.Op == (7:Int)) ((zaO d e c a f i).bind fun o=>(zaO d e c a o.2.1 o.2.2).bind fun p=>(zW d e c a p.2.1 p.2.2 o.1).bind fun B=>(zW d e c a B.1 B.2 p.1).bind fun D=>some (a,D.1,D.2)) (cond (b.Op == (46:Int)) (some (a,f,(i||(!(c.Ret == [86]))))) (cond (b.Op == (47:Int)) ((zab d e c a f i ([[73]])).bind fun E=>some (a,E.1,(E.2||(!(c.Ret == [73]))))) (cond (b.Op == (48:Int)) ((zcD d e c a f i).bind fun j=>cond (!(c.Ret == [86])) (cond (!(c.Ret == [73])) ((zcM d j.1 c.Ret).bind fun N=>some (a,j.2.1,(j.2.2||(!N)))) (some (a,j.2.1,(j.2.2||(!false))))) (some (a,j.2.1,(j.2.2||(!false))))) (cond (b.Op == (56:Int)) ((zcD d e c a f i).bind fun F=>(zY d b.C).bind fun O=>(zW d e c a F.2.1 (F.2.2||(!O)) b.C).bind fun G=>some (a,G.1,G.2)) (cond (b.Op == (57:Int)) ((zcD d e c a f i).bind fun H=>(zY d b.C).bind fun P=>(zW d e c a H.2.1 (H.2.2||(!P)) [73]).bind fun I=>some (a,I.1,I.2)) (cond (b.Op == (58:Int)) ((zaO d e c a f i).bind fun q=>(zcM d q.1 [84,104,114,111,119,110]).bind fun Q=>some (a,q.2.1,(q.2.2||(!Q)))) (cond (b.Op == (59:Int)) ((zW d e c a f i [73]).bind fun J=>some (a,J.1,J.2)) (cond (b.Op == (60:Int)) (zfD d e c a f i (b.Op == (60:Int))) (zfD d e c a f i (b.Op == (61:Int)))))))))))))))))
def zfC(e:List za)(f:T0)(i:zc)(b:T1)(c:T1)(d:Bool):Option (T1×T1×Bool):=
  (zW e f i b c d [73]).bind fun a=>some (b,a.1,a.2)
def zp(c:List za)(d:T0)(e:zc)(b:T1)(f:T1)(i:Bool)(a:zn):Option (T1×T1×Bool):=
  cond ((decide (8≤a.Op))&&(decide (a.Op≤19))) ((zab c d e b f i ([[73]])).bind fun l=>cond (!(a.Op == (13:Int))) ((zab c d e b l.1 l.2 ([[73]])).bind fun q=>zfC c d e b q.1 q.2) (zfC c d e b l.1 l.2)) (cond ((decide (21≤a.Op))&&(decide (a.Op≤36))) ((zeZ c d e b f i a).bind fun m=>some (b,m.1,m.2)) (cond (a.Op == (20:Int)) ((zeY c d e b f i a.A b f).bind fun s=>some (b,f,s)) (cond ((decide (37≤a.Op))&&(decide (a.Op≤41))) ((zeg c d e b f i a).bind fun n=>some (b,n.1,n.2)) (cond ((decide (42≤a.Op))&&(decide (a.Op≤45))) ((zgg c d e b f i a).bind fun o=>some (b,o.1,o.2)) (cond ((decide (49≤a.Op))&&(decide (a.Op≤55))) ((zbC c d e b f i a).bind fun p=>some (b,p.1,p.2)) ((zaa c d e b f i a).bind fun j=>some (j.1,j.2.1,j.2.2)))))))
def zjA(c:T1)(d:T1)(a:Bool)(b:Bool):Option (Bool):=
  some ((!a)&&(!b))
def zfZ(i:T0)(j:zbI)(b:zc)(l:Bool)(c:Int)(m:zX×Bool)(n:Bool)(d:T1)(e:T1):Option (Sum (T1×T1×Bool×Bool×Int) (Sum (T1×T1×Bool×Bool) (Bool))):=
  (zc6 j.L i b d e (n||(!(m.2||l))) c).bind fun o=>(idx b.Code c).bind fun p=>(zp j.L i b d e o p).bind fun a=>(idx b.Code c).bind fun f=>some (.inl (a.1,a.2.1,a.2.2,(!(zka f.Op)),(IntKind.i64.wrap (c+1))))
def zer(i:T0)(j:zbI)(b:zc)(l:T1)(m:T1)(c:Bool)(d:Int)(a:zX×Bool)(e:Bool):Option (Sum (T1×T1×Bool×Bool×Int) (Sum (T1×T1×Bool×Bool) (Bool))):=
  cond a.2 ((zgh (zkY.mk a.1.Locals a.1.Stack)).bind fun f=>zfZ i j b c d a e f.1 f.2) (zfZ i j b c d a e l m)
def zaX(j:T0)(l:zbI)(c:zc)(a:T1)(b:T1)(d:Bool)(f:Bool)(e:Int):Option (Sum (T1×T1×Bool×Bool×Int) (Sum (T1×T1×Bool×Bool) (Bool))):=
  cond ((decide (e<(length c.Code:Int)))&&(!d)) ((zei l.L j c a b d e).bind fun i=>cond (i.2&&f) ((zeY l.L j c a b d e a b).bind fun m=>zer j l c a b f e i m) (zer j l c a b f e i d)) (some (.inr (.inl (a,b,d,f))))
def zke(f:T0)(e:zbI)(a:zc)(c:Bool):Option (Bool):=
  (cond (a.Ret == [86]) (some true) ((zY e.L a.Ret).bind fun i=>some i)).bind fun d=>(zg1 e.L f a [] [] (c||(!d))).bind fun j=>(zr (fun z=>zaX f e a z.1 z.2.1 z.2.2.1 z.2.2.2.1 z.2.2.2.2) (j,[],(c||(!d)),true,0)).bind fun o=>zQ o (fun b=>zjA b.1 b.2.1 b.2.2.1 b.2.2.2) some
def zdI(f:zbI)(b:zc)(c:Bool)(a:Int):Option (Sum (Bool×Int) (Sum (Bool) (Bool))):=
  cond (decide (a<(length b.Params:Int))) ((idx b.Params a).bind fun d=>(zY f.L d).bind fun e=>some (.inl ((c||(!e)),(IntKind.i64.wrap (a+1))))) (some (.inr (.inl c)))
def zh2(e:T0)(c:zbI)(a:zc)(d:Bool):Option (Bool):=
  (zr (fun z=>zdI c a z.1 z.2) (d,0)).bind fun o=>zQ o (fun b=>zke e c a b) some
def zoO(a:Int)(b:Bool):Option (Sum (Bool×Int) (Sum (Bool) (Bool))):=
  some (.inl (b,(IntKind.i64.wrap (a+1))))
def zdH(m:zbI)(b:T1)(c:Bool)(a:Int):Option (Sum (Bool×Int) (Sum (Bool) (Bool))):=
  cond (decide (a<((length b):Int))) ((idx b a).bind fun d=>(cond (d == [84]) (some true) ((idx b a).bind fun e=>some (e == [78]))).bind fun f=>(cond f (some true) ((idx b a).bind fun i=>(zY m.L i).bind fun j=>some j)).bind fun l=>some (.inl ((c||(!l)),(IntKind.i64.wrap (a+1))))) (some (.inr (.inl c)))
def zcI(l:zbI)(c:zc)(d:Bool)(a:Int):Option (Sum (Bool×Int) (Sum (Bool) (Bool))):=
  cond (decide (a<(length c.Maps:Int))) ((idx c.Maps a).bind fun e=>(idx c.Maps a).bind fun f=>(zhj 16 ([]:T1) e.Locals).bind fun i=>(zhj 16 i f.Stack).bind fun j=>(zr (fun z=>zdH l j z.1 z.2) (d,0)).bind fun o=>zQ o (fun b=>zoO a b) (fun r=>some (.inr (.inr r)))) (some (.inr (.inl d)))
def zjr(l:Option zbI)(f:T0)(c:Int):Option (Bool):=
  zt1 l (none) (fun a=>(zcc a.L f).bind fun d=>(cond ((decide (d<0))||(decide (c<0))) (some true) ((idx a.L d).bind fun m=>some (decide ((length m.Methods:Int)≤c)))).bind fun n=>(cond n (some true) ((idx a.L d).bind fun p=>(idx p.Methods c).bind fun q=>some q.Abstract)).bind fun i=>cond i (some false) ((idx a.L d).bind fun j=>(idx j.Methods c).bind fun e=>(zr (fun z=>zcI a e z.1 z.2) (false,0)).bind fun o=>zQ o (fun b=>zh2 f a e b) some))
def zlT(c:T1)(d:T1)(a:Bool)(b:Bool):Option (Bool):=
  some ((!a)&&(!b))
def zio(i:List za)(j:T0)(a:zc)(l:Bool)(b:Int)(m:zX×Bool)(n:Bool)(d:T1)(e:T1):Option (Sum (T1×T1×Bool×Bool×Int) (Sum (T1×T1×Bool×Bool) (Bool))):=
  (zc6 i j a d e (n||(!(m.2||l))) b).bind fun o=>(idx a.Code b).bind fun p=>(zp i j a d e o p).bind fun c=>(idx a.Code b).bind fun f=>some (.inl (c.1,c.2.1,c.2.2,(!(zka f.Op)),(IntKind.i64.wrap (b+1))))
def zin(i:List za)(j:T0)(b:zc)(l:T1)(m:T1)(c:Bool)(d:Int)(a:zX×Bool)(e:Bool):Option (Sum (T1×T1×Bool×Bool×Int) (Sum (T1×T1×Bool×Bool) (Bool))):=
  cond a.2 ((zgh (zkY.mk a.1.Locals a.1.Stack)).bind fun f=>zio i j b c d a e f.1 f.2) (zio i j b c d a e l m)
def zlU(j:List za)(l:T0)(c:zc)(a:T1)(b:T1)(d:Bool)(f:Bool)(e:Int):Option (Sum (T1×T1×Bool×Bool×Int) (Sum (T1×T1×Bool×Bool) (Bool))):=
  cond ((decide (e<(length c.Code:Int)))&&(!d)) ((zei j l c a b d e).bind fun i=>cond (i.2&&f) ((zeY j l c a b d e a b).bind fun m=>zin j l c a b f e i m) (zin j l c a b f e i d)) (some (.inr (.inl (a,b,d,f))))
def zml(e:List za)(f:T0)(a:zc)(c:Bool):Option (Bool):=
  (cond (a.Ret == [86]) (some true) ((zY e a.Ret).bind fun i=>some i)).bind fun d=>(zg1 e f a [] [] (c||(!d))).bind fun j=>(zr (fun z=>zlU e f a z.1 z.2.1 z.2.2.1 z.2.2.2.1 z.2.2.2.2) (j,[],(c||(!d)),true,0)).bind fun o=>zQ o (fun b=>zlT b.1 b.2.1 b.2.2.1 b.2.2.2) some
def zmo(f:List za)(b:zc)(c:Bool)(a:Int):Option (Sum (Bool×Int) (Sum (Bool) (Bool))):=
  cond (decide (a<(length b.Params:Int))) ((idx b.Params a).bind fun d=>(zY f d).bind fun e=>some (.inl ((c||(!e)),(IntKind.i64.wrap (a+1))))) (some (.inr (.inl c)))
def zmk(c:List za)(e:T0)(a:zc)(d:Bool):Option (Bool):=
  (zr (fun z=>zmo c a z.1 z.2) (d,0)).bind fun o=>zQ o (fun b=>zml c e a b) some
def zmj(a:Int)(b:Bool):Option (Sum (Bool×Int) (Sum (Bool) (Bool))):=
  some (.inl (b,(IntKind.i64.wrap (a+1))))
def zmm(m:List za)(b:T1)(c:Bool)(a:Int):Option (Sum (Bool×Int) (Sum (Bool) (Bool))):=
  cond (decide (a<((length b):Int))) ((idx b a).bind fun d=>(cond (d == [84]) (some true) ((idx b a).bind fun e=>some (e == [78]))).bind fun f=>(cond f (some true) ((idx b a).bind fun i=>(zY m i).bind fun j=>some j)).bind fun l=>some (.inl ((c||(!l)),(IntKind.i64.wrap (a+1))))) (some (.inr (.inl c)))
def zmn(l:List za)(c:zc)(d:Bool)(a:Int):Option (Sum (Bool×Int) (Sum (Bool) (Bool))):=
  cond (decide (a<(length c.Maps:Int))) ((idx c.Maps a).bind fun e=>(idx c.Maps a).bind fun f=>(zhj 16 ([]:T1) e.Locals).bind fun i=>(zhj 16 i f.Stack).bind fun j=>(zr (fun z=>zmm l j z.1 z.2) (d,0)).bind fun o=>zQ o (fun b=>zmj a b) (fun r=>some (.inr (.inr r)))) (some (.inr (.inl d)))
def zoP(a:List za)(f:T0)(c:Int):Option (Bool):=
  (zcc a f).bind fun d=>(cond ((decide (d<0))||(decide (c<0))) (some true) ((idx a d).bind fun j=>some (decide ((length j.Methods:Int)≤c)))).bind fun l=>(cond l (some true) ((idx a d).bind fun m=>(idx m.Methods c).bind fun n=>some n.Abstract)).bind fun p=>cond p (some false) ((idx a d).bind fun i=>(idx i.Methods c).bind fun e=>(zr (fun z=>zmn a e z.1 z.2) (false,0)).bind fun o=>zQ o (fun b=>zmk a f e b) some)
def zrN(x:z8):Prop:=(wS) x.C∧(wS) x.M
theorem zEU{n:Nat}{avs:List AV}(h:zpH Tryz.prog (n+2) 84 avs):∃x:z8,avs=zfA x∧zrN x:=by
 obtain ⟨parts,rfl,hl,hg⟩:=gdF Tryz.underlying84 h
 match parts,hl with
 | [p0,p1],_ =>
  obtain ⟨x0,rfl,w0⟩:=gdS Tryz.underlying9 (hg 0 _ p0 rfl rfl);obtain ⟨x1,rfl,w1⟩:=gdS Tryz.underlying9 (hg 1 _ p1 rfl rfl);exact ⟨⟨x0,x1⟩,rfl,w0,w1⟩

end
end Go.Proofs.YthmnlfenkhmmhaaGreat
