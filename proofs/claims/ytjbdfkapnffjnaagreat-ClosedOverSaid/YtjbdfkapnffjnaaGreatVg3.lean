/- What the proofs of this seat's laws rest on: how the program's functions compute, each for every input. No further condition. Part 3 of 6. -/
import Derived.Test.YtjbdfkapnffjnaaGreatVg2
namespace Go.Proofs.YtjbdfkapnffjnaaGreat
noncomputable section
open List (length map)
set_option linter.unusedSimpArgs false
set_option linter.unusedVariables false
set_option maxRecDepth 100000
set_option maxHeartbeats 4000000
set_option linter.unusedSectionVars false
structure zh where
  Name:T0
  Type_:T0
  Static:Bool
def zN(x:zh):List AV:=[sA x.Name,sA x.Type_,bA x.Static]
structure zaA where
  At:Int
  Locals:T1
  Stack:T1
def zaG(x:zaA):List AV:=[iA x.At,.isl 1 (map zm x.Locals),.isl 1 (map zm x.Stack)]
structure zV where
  From:Int
  To:Int
  At:Int
  C:T0
def zap(x:zV):List AV:=[iA x.From,iA x.To,iA x.At,sA x.C]
structure zc where
  Name:T0
  Params:T1
  Ret:T0
  Static:Bool
  Abstract:Bool
  Locals:Int
  Stack:Int
  Code:List zn
  Maps:List zaA
  Traps:List zV
def ze(x:zc):List AV:=[sA x.Name,.isl 1 (map zm x.Params),sA x.Ret,bA x.Static,bA x.Abstract,iA x.Locals,iA x.Stack,.isl 4 (map zx x.Code),.isl 3 (map zaG x.Maps),.isl 4 (map zap x.Traps)]
structure za where
  Name:T0
  Super:T0
  Interface:Bool
  Impl:T1
  Fields:List zh
  Methods:List zc
def zd(x:za):List AV:=[sA x.Name,sA x.Super,bA x.Interface,.isl 1 (map zm x.Impl),.isl 3 (map zN x.Fields),.isl 10 (map ze x.Methods)]
def zgT(a:zh):Option (Bool):=
  (zg4 a.Name).bind fun b=>(cond (b&&(!(a.Name == [36,105,110,105,116]))) ((zfW a.Type_).bind fun c=>some c) (some false)).bind fun d=>some d
theorem zmn(d:zh){r:Bool}(h:zgT d=some r):zu Tryz.prog 100 [.agg (zN d)] (bA r):=by
 refine zl Tryz.func100 y kz y y ?_
 unfold zgT at h
 refine rg y<|u<|bx 0 3 y y y y<|u<|asg y<|zb ?_
 obtain ⟨l,e,h⟩:=bs h
 obtain ⟨f,c,h⟩:=bs h
 refine rg y<|u<|fa ti y y y<|u<|ld ti y y<|u<|pc (ziW d.Name e) y y y<|u<|mv y<|zbq (j:=3) 3 y y y y y gpn (fun a=>g y a<|fa ti y y y<|g y a<|ld ti y y<|g y a<|sne ti y y<|zb (egA [7,8,9] 3 a y y y y)) zhn<|u<|mv y<|zbq (x:=f) (j:=8) 3 y y y y y gpn (fun b=>by replace c:=bT b c;obtain ⟨m,i,c⟩:=bs c;obtain rfl:=sm c;exact g y b<|fa ti y y y<|g y b<|ld ti y y<|g y b<|pc (zfz d.Type_ i) y y y<|zb (eg [12,13,14] 3 y y y y)) (fun hb=>(sm (bF hb c)).symm)<|u<|asg y<|zb ?_
 refine zg ?_
 obtain rfl:=sm h
 exact ⟨_,y,zB []⟩
def zc1(a:zh):T0:=
  a.Name
theorem zjr(a:zh){r:T0}(h:zc1 a=r):zu Tryz.prog 99 [.agg (zN a)] (sA r):=by
 refine zl Tryz.func99 y kz y y ?_
 unfold zc1 at h
 refine rg y<|u<|bx 0 3 y y y y<|u<|asg y<|zb ?_
 refine rg y<|u<|fa ti y y y<|u<|ld ti y y<|u<|asg y<|zb ?_
 refine zg ?_
 obtain rfl:=h
 exact ⟨_,y,zB []⟩
def zey(a:zh)(b:T0)(c:T0)(d:Bool):Bool:=
  ((zc1 (zh.mk b c d)) == (zc1 a))
theorem zhF(a:zh)(b:T0)(c:T0)(d:Bool){r:Bool}(h:zey a b c d=r):zu Tryz.prog 177 [.agg (zN a),.ipt 1 [[.fn (.func 99) [] []]] 0 0,.ipt 3 [[sA b,sA c,bA d]] 0 0] (bA r):=by
 refine zl Tryz.func177 y kz y y ?_
 unfold zey at h
 refine rg y<|u<|bx 0 3 y y y y<|u<|asg y<|zb ?_
 refine rdA [(4,bA ((zc1 (zh.mk b c d)) == (zc1 a)))] [] [] [7,6,5,4,3,2,1,0] [(4,bA ((zc1 (zh.mk b c d)) == (zc1 a))),(11,bA ((zc1 (zh.mk b c d)) == (zc1 a))),(10,sA (zc1 a)),(9,.agg (zN a)),(8,.fn (.func 99) [] []),(7,sA (zc1 (zh.mk b c d))),(6,.agg [sA b,sA c,bA d]),(5,.fn (.func 99) [] [])] 0 (zjh ⟨pe,pe,(pb y (pc (zjr a y) y y y w)),pe,pe,(pb y (pc (zjr (zh.mk b c d) y) y y y w)),pe,pe,t⟩ (zq [])) ?_
 refine zg ?_
 obtain rfl:=h
 exact ⟨_,y,zB []⟩
def za0:Option (Int):=
  some (-1)
def zW(b:List zh)(c:T0)(d:T0)(e:Bool)(a:Int):Option (Sum (Int) (Sum (Unit) (Int))):=
  cond (decide (a<(length b:Int))) ((idx b a).bind fun f=>cond (zey f c d e) (some (.inr (.inr a))) (some (.inl (IntKind.i64.wrap (a+1))))) (some (.inr (.inl ())))
def zbi(a:List zh)(c:T0)(d:T0)(e:Bool):Option (Int):=
  (zz (fun z=>zW a c d e z) 0).bind fun o=>zaq o (fun b=>za0) some
theorem zeP(a:List zh)(c:T0)(d:T0)(e:Bool){r:Int}(h:zbi a c d e=some r):zu Tryz.prog 241 [.isl 3 (map zN a),.fn (.func 177) [] [.ipt 1 [[.fn (.func 99) [] []]] 0 0,.ipt 3 [[sA c,sA d,bA e]] 0 0]] (iA r):=by
 refine zl Tryz.func241 y kz y y ?_
 unfold zbi at h
 refine rg y<|u<|asg y<|zb ?_
 refine zj ?_
 refine rg y<|u<|mv y<|u<|lnI ti y y<|u<|mv y<|zb ?_
 obtain ⟨o,ho,h⟩:=bs h
 refine zaN (X:=Int) (B:=Unit) (R:=Int) (fun z=>[(0,.isl 3 (map zN a)),(1,.fn (.func 177) [] [.ipt 1 [[.fn (.func 99) [] []]] 0 0,.ipt 3 [[sA c,sA d,bA e]] 0 0]),(7,iA (length a:Int)),(8,iA z)]) (fun z=>[]) (fun b=>[]) (fun b=>[]) (fun r env st=>zb6 Tryz.prog Tryz.f241 0 (iA r) [] env st) ho (zq []) ?_ ?_ ?_
 ·
  rintro j r h
  replace h:zW a c d e j=some r:=h
  unfold zW at h
  refine rg y<|u<|lss ti y y<|zb ?_
  refine zj ?_
  refine zf y (fun f=>?_) (fun f=>?_)
  ·
   replace h:=bT f h
   refine zi ?_
   refine zj ?_
   refine zr ?_
   refine rg y<|u<|mv y<|u<|asg y<|zb ?_
   obtain ⟨l,i,h⟩:=bs h
   refine rg y<|u<|mv y<|u<|mv y<|u<|mv y<|u<|ixI ti y ti y y y i<|u<|ldI ti y (zp i).2.2 y<|u<|pc (zhF l c d e y) y y y<|zb ?_
   refine zf y (fun g=>?_) (fun g=>?_)
   ·
    replace h:=bT g h
    refine rg y<|u<|mv y<|u<|asg y<|zb ?_
    refine zg ?_
    obtain rfl:=sm h
    exact ⟨_,y,_,y,zB []⟩
   ·
    replace h:=bF g h
    refine zi ?_
    refine rl y<|u<|add ti y y<|u<|mv y<|zb ?_
    obtain rfl:=sm h
    exact ⟨_,y,zq []⟩
  ·
   replace h:=bF f h
   refine zQ ?_
   obtain rfl:=sm h
   exact ⟨y,_,y,zq []⟩
 ·
  rintro ⟨⟩ rfl
  replace h:za0=some r:=h
  unfold za0 at h
  refine zD ?_
  refine rg y<|u<|asg y<|zb ?_
  refine zg ?_
  obtain rfl:=sm h
  exact ⟨_,y,zB []⟩
 ·
  rintro r' rfl env st hp
  obtain rfl:=sm h
  exact hp
def zar(a:List zh)(b:T0)(c:T0)(d:Bool):Option (Bool):=
  (zbi a b c d).bind fun e=>some (decide (0≤e))
theorem zea(a:List zh)(b:T0)(c:T0)(d:Bool){r:Bool}(h:zar a b c d=some r):zu Tryz.prog 176 [.isl 3 (map zN a),.fn (.func 177) [] [.ipt 1 [[.fn (.func 99) [] []]] 0 0,.ipt 3 [[sA b,sA c,bA d]] 0 0]] (bA r):=by
 refine zl Tryz.func176 y kz y y ?_
 unfold zar at h
 refine rg y<|u<|asg y<|zb ?_
 obtain ⟨f,e,h⟩:=bs h
 refine rg y<|u<|mv y<|u<|mv y<|u<|pc (zeP a b c d e) y y y<|u<|geq ti y y<|u<|asg y<|zb ?_
 refine zg ?_
 obtain rfl:=sm h
 exact ⟨_,y,zB []⟩
def zek(a:List zh)(b:Int):Option (Bool):=
  some (decide ((length a:Int)≤b))
def zcB(c:List zh)(b:Int):Option (Sum (Int) (Sum (Unit) (Bool))):=
  cond (decide (b<(length c:Int))) ((idx c b).bind fun a=>(zgT a).bind fun d=>(cond (!d) (some true) ((zj3 c 0 b).bind fun e=>(zar e a.Name a.Type_ a.Static).bind fun f=>some f)).bind fun g=>cond g (some (.inr (.inr false))) (some (.inl (IntKind.i64.wrap (b+1))))) (some (.inr (.inl ())))
def zde(a:List zh)(c:Int):Option (Bool):=
  (zz (fun z=>zcB a z) 0).bind fun o=>zaq o (fun b=>zek a c) some
theorem ziB(e:List zh)(l:Int){r:Bool}(h:zde e l=some r):zu Tryz.prog 98 [.isl 3 (map zN e),iA l,.fn (.func 99) [] [],.fn (.func 100) [] []] (bA r):=by
 refine zl Tryz.func98 y kz y y ?_
 unfold zde at h
 refine rg y<|u<|bx 0 1 y y y y<|u<|asg y<|zb ?_
 refine zj ?_
 refine rg y<|u<|mv y<|u<|lnI ti y y<|u<|mv y<|zb ?_
 obtain ⟨o,ho,h⟩:=bs h
 refine zaN (X:=Int) (B:=Unit) (R:=Bool) (fun z=>[(0,.isl 3 (map zN e)),(1,iA l),(3,.fn (.func 100) [] []),(6,.mpt 0 0 0),(11,.isl 3 (map zN e)),(12,iA (length e:Int)),(13,iA z)]) (fun z=>[some (1,[[.fn (.func 99) [] []]])]) (fun b=>[(0,.isl 3 (map zN e)),(1,iA l)]) (fun b=>[]) (fun r env st=>zb6 Tryz.prog Tryz.f98 0 (bA r) [] env st) ho (zq [.old 0]) ?_ ?_ ?_
 ·
  rintro q r h
  replace h:zcB e q=some r:=h
  unfold zcB at h
  refine rg y<|u<|lss ti y y<|zb ?_
  refine zj ?_
  refine zf y (fun m=>?_) (fun m=>?_)
  ·
   replace h:=bT m h
   refine zi ?_
   refine zj ?_
   refine zr ?_
   obtain ⟨i,n,h⟩:=bs h
   refine rg y<|u<|mv y<|u<|ixI ti y ti y y y n<|u<|ldI ti y (zp n).2.2 y<|u<|al 1 ti y<|u<|asg y<|u<|sto ti y y y<|zb ?_
   obtain ⟨D,s,h⟩:=bs h
   obtain ⟨v,d,h⟩:=bs h
   refine rg y<|u<|mv y<|u<|ld ti y y<|u<|pc (zmn i s) y y y<|u<|nt y<|u<|mv y<|ze6 (x:=v) (j:=4) 5 y y y y y gpn (fun c=>by replace d:=bF c d;obtain ⟨A,p,d⟩:=bs d;obtain ⟨E,C,d⟩:=bs d;obtain rfl:=sm d;exact g y c<|mv y<|g y c<|mv y<|g y c<|slI (a:=0) (b:=q) ti y ti y y y (zob y p) p<|g y c<|mf y y<|g y c<|pcs (zea A i.Name i.Type_ i.Static C) y y (.cons (si y) (.cons (zd0 t ⟨(zcb y ⟨(si y),t⟩),(zcb y ⟨(si y),(si y),(si y),t⟩),t⟩) .nil)) zdb<|zb (eg [23,24,25,26,27] 5 y y y y)) (fun hb=>(sm (bT hb d)).symm)<|zb ?_
   refine zf y (fun f=>?_) (fun f=>?_)
   ·
    replace h:=bT f h
    refine rg y<|u<|asg y<|zb ?_
    refine zg ?_
    obtain rfl:=sm h
    exact ⟨_,y,_,y,zB []⟩
   ·
    replace h:=bF f h
    refine zi ?_
    refine rl y<|u<|add ti y y<|u<|mv y<|zb ?_
    obtain rfl:=sm h
    exact ⟨_,y,zq [.old 0]⟩
  ·
   replace h:=bF m h
   refine zQ ?_
   obtain rfl:=sm h
   exact ⟨y,_,y,zq []⟩
 ·
  rintro ⟨⟩ rfl
  replace h:zek e l=some r:=h
  unfold zek at h
  refine zD ?_
  refine rg y<|u<|mv y<|u<|lnI ti y y<|u<|mv y<|u<|leq ti y y<|u<|asg y<|zb ?_
  refine zg ?_
  obtain rfl:=sm h
  exact ⟨_,y,zB []⟩
 ·
  rintro r' rfl env st hp
  obtain rfl:=sm h
  exact hp
def zgH(a:T0):Option (Bool):=
  (zfW a).bind fun b=>some (!b)
theorem zla(a:T0){r:Bool}(h:zgH a=some r):zu Tryz.prog 245 [sA a,.ipt 1 [[.fn (.func 102) [] []]] 0 0] (bA r):=by
 refine zl Tryz.func245 y kz y y ?_
 unfold zgH at h
 refine rg y<|u<|asg y<|zb ?_
 obtain ⟨c,b,h⟩:=bs h
 refine rg y<|u<|ld ti y y<|u<|mv y<|u<|pc (zfz a b) y y y<|u<|nt y<|u<|asg y<|zb ?_
 refine zg ?_
 obtain rfl:=sm h
 exact ⟨_,y,zB []⟩
def zbN:Option (Int):=
  some (-1)
def zat(b:T1)(a:Int):Option (Sum (Int) (Sum (Unit) (Int))):=
  cond (decide (a<(length b:Int))) ((idx b a).bind fun c=>(zgH c).bind fun d=>cond d (some (.inr (.inr a))) (some (.inl (IntKind.i64.wrap (a+1))))) (some (.inr (.inl ())))
def zcd(a:T1):Option (Int):=
  (zz (fun z=>zat a z) 0).bind fun o=>zaq o (fun b=>zbN) some
theorem zfZ(a:T1){r:Int}(h:zcd a=some r):zu Tryz.prog 110 [.isl 1 (map zm a),.fn (.func 245) [] [.ipt 1 [[.fn (.func 102) [] []]] 0 0]] (iA r):=by
 refine zl Tryz.func110 y kz y y ?_
 unfold zcd at h
 refine rg y<|u<|asg y<|zb ?_
 refine zj ?_
 refine rg y<|u<|mv y<|u<|lnI ti y y<|u<|mv y<|zb ?_
 obtain ⟨o,ho,h⟩:=bs h
 refine zaN (X:=Int) (B:=Unit) (R:=Int) (fun z=>[(0,.isl 1 (map zm a)),(1,.fn (.func 245) [] [.ipt 1 [[.fn (.func 102) [] []]] 0 0]),(7,iA (length a:Int)),(8,iA z)]) (fun z=>[]) (fun b=>[]) (fun b=>[]) (fun r env st=>zb6 Tryz.prog Tryz.f110 0 (iA r) [] env st) ho (zq []) ?_ ?_ ?_
 ·
  rintro f r h
  replace h:zat a f=some r:=h
  unfold zat at h
  refine rg y<|u<|lss ti y y<|zb ?_
  refine zj ?_
  refine zf y (fun c=>?_) (fun c=>?_)
  ·
   replace h:=bT c h
   refine zi ?_
   refine zj ?_
   refine zr ?_
   refine rg y<|u<|mv y<|u<|asg y<|zb ?_
   obtain ⟨g,e,h⟩:=bs h
   obtain ⟨j,i,h⟩:=bs h
   refine rg y<|u<|mv y<|u<|mv y<|u<|mv y<|u<|ixI ti y ti y y y e<|u<|ldI ti y (zp e).2.2 y<|u<|pc (zla g i) y y y<|zb ?_
   refine zf y (fun d=>?_) (fun d=>?_)
   ·
    replace h:=bT d h
    refine rg y<|u<|mv y<|u<|asg y<|zb ?_
    refine zg ?_
    obtain rfl:=sm h
    exact ⟨_,y,_,y,zB []⟩
   ·
    replace h:=bF d h
    refine zi ?_
    refine rl y<|u<|add ti y y<|u<|mv y<|zb ?_
    obtain rfl:=sm h
    exact ⟨_,y,zq []⟩
  ·
   replace h:=bF c h
   refine zQ ?_
   obtain rfl:=sm h
   exact ⟨y,_,y,zq []⟩
 ·
  rintro ⟨⟩ rfl
  replace h:zbN=some r:=h
  unfold zbN at h
  refine zD ?_
  refine rg y<|u<|asg y<|zb ?_
  refine zg ?_
  obtain rfl:=sm h
  exact ⟨_,y,zB []⟩
 ·
  rintro r' rfl env st hp
  obtain rfl:=sm h
  exact hp
def zbM(a:T1):Option (Bool):=
  (zcd a).bind fun b=>some (decide (0≤b))
theorem zfg(a:T1){r:Bool}(h:zbM a=some r):zu Tryz.prog 56 [.isl 1 (map zm a),.fn (.func 245) [] [.ipt 1 [[.fn (.func 102) [] []]] 0 0]] (bA r):=by
 refine zl Tryz.func56 y kz y y ?_
 unfold zbM at h
 refine rg y<|u<|asg y<|zb ?_
 obtain ⟨c,b,h⟩:=bs h
 refine rg y<|u<|mv y<|u<|mv y<|u<|pc (zfZ a b) y y y<|u<|geq ti y y<|u<|asg y<|zb ?_
 refine zg ?_
 obtain rfl:=sm h
 exact ⟨_,y,zB []⟩
def zgV(a:T1):Option (Bool):=
  (zbM a).bind fun b=>some (!b)
theorem zmt(a:T1){r:Bool}(h:zgV a=some r):zu Tryz.prog 183 [.isl 1 (map zm a),.fn (.func 102) [] []] (bA r):=by
 refine zl Tryz.func183 y kz y y ?_
 unfold zgV at h
 refine rg y<|u<|bx 0 1 y y y y<|u<|asg y<|zb ?_
 obtain ⟨c,b,h⟩:=bs h
 refine rg y<|u<|mv y<|u<|mf y y<|u<|pcs (zfg a b) y y (.cons (si y) (.cons (zd0 t ⟨(zcb y ⟨(si y),t⟩),t⟩) .nil)) zdb<|u<|nt y<|u<|asg y<|zb ?_
 refine zg ?_
 obtain rfl:=sm h
 exact ⟨_,y,zB []⟩
def zj6(a:T0):Option (Bool):=
  (cond (a == [86]) (some true) ((zfW a).bind fun b=>some b)).bind fun c=>some c
theorem zpd(c:T0){r:Bool}(h:zj6 c=some r):zu Tryz.prog 184 [sA c] (bA r):=by
 refine zl Tryz.func184 y kz y y ?_
 unfold zj6 at h
 refine rg y<|u<|asg y<|zb ?_
 obtain ⟨d,a,h⟩:=bs h
 refine rg y<|u<|mv y<|u<|seq ti y y<|u<|mv y<|ze6 (x:=d) (j:=2) 2 y y y y y gpn (fun b=>by replace a:=bF b a;obtain ⟨f,e,a⟩:=bs a;obtain rfl:=sm a;exact g y b<|mv y<|g y b<|pc (zfz c e) y y y<|zb (eg [6,7] 2 y y y y)) (fun hb=>(sm (bT hb a)).symm)<|u<|asg y<|zb ?_
 refine zg ?_
 obtain rfl:=sm h
 exact ⟨_,y,zB []⟩
def zh2(a:zc):Bool:=
  (((((!a.Static)&&(!(a.Name == [36,105,110,105,116])))&&(a.Locals == (0:Int)))&&(a.Stack == (0:Int)))&&((IntKind.i64.wrap ((IntKind.i64.wrap ((length a.Code:Int)+(length a.Maps:Int)))+(length a.Traps:Int))) == (0:Int)))
theorem zmp(e:zc){r:Bool}(h:zh2 e=r):zu Tryz.prog 185 [.agg (ze e)] (bA r):=by
 refine zl Tryz.func185 y kz y y ?_
 unfold zh2 at h
 refine rg y<|u<|bx 0 10 y y y y<|u<|asg y<|zb ?_
 refine rg y<|u<|fa ti y y y<|u<|ld ti y y<|u<|nt y<|u<|mv y<|zbq (j:=3) 3 y y y y y gpn (fun b=>g y b<|fa ti y y y<|g y b<|ld ti y y<|g y b<|sne ti y y<|zb (egA [7,8,9] 3 b y y y y)) zhn<|u<|mv y<|zbq (j:=8) 3 y y y y y gpn (fun c=>g y c<|fa ti y y y<|g y c<|ld ti y y<|g y c<|eql ti y y<|zb (egA [12,13,14] 3 c y y y y)) zhn<|u<|mv y<|zbq (j:=13) 3 y y y y y gpn (fun d=>g y d<|fa ti y y y<|g y d<|ld ti y y<|g y d<|eql ti y y<|zb (egA [17,18,19] 3 d y y y y)) zhn<|u<|mv y<|zbq (j:=18) 12 y y y y y gpn (fun a=>g y a<|fa ti y y y<|g y a<|ld ti y y<|g y a<|lnI ti y y<|g y a<|fa ti y y y<|g y a<|ld ti y y<|g y a<|lnI ti y y<|g y a<|add ti y y<|g y a<|fa ti y y y<|g y a<|ld ti y y<|g y a<|lnI ti y y<|g y a<|add ti y y<|g y a<|eql ti y y<|zb (egA [22,23,24,25,26,27,28,29,30,31,32,33] 12 a y y y y)) zhn<|u<|asg y<|zb ?_
 refine zg ?_
 obtain rfl:=h
 exact ⟨_,y,zB []⟩
def zL(a:zc):Int:=
  cond a.Static ((length a.Params:Int)) ((IntKind.i64.wrap ((length a.Params:Int)+1)))
theorem zfM(b:zc){r:Int}(h:zL b=r):zu Tryz.prog 187 [.agg (ze b)] (iA r):=by
 refine zl Tryz.func187 y kz y y ?_
 unfold zL at h
 refine rg y<|u<|bx 0 10 y y y y<|u<|asg y<|zb ?_
 refine zj ?_
 refine rg y<|u<|fa ti y y y<|u<|ld ti y y<|zb ?_
 refine zf y (fun a=>?_) (fun a=>?_)
 ·
  replace h:=bT a h
  refine rg y<|u<|fa ti y y y<|u<|ld ti y y<|u<|lnI ti y y<|u<|asg y<|zb ?_
  refine zg ?_
  obtain rfl:=h
  exact ⟨_,y,zB []⟩
 ·
  replace h:=bF a h
  refine zi ?_
  refine rg y<|u<|fa ti y y y<|u<|ld ti y y<|u<|lnI ti y y<|u<|add ti y y<|u<|asg y<|zb ?_
  refine zg ?_
  obtain rfl:=h
  exact ⟨_,y,zB []⟩
def zk(a:Int)(b:Int)(c:Int):Bool:=
  ((decide (b≤a))&&(decide (a≤c)))
theorem zaH(b:Int)(c:Int)(d:Int){r:Bool}(h:zk b c d=r):zu Tryz.prog 186 [iA b,iA c,iA d] (bA r):=by
 refine zl Tryz.func186 y kz y y ?_
 unfold zk at h
 refine rg y<|u<|asg y<|zb ?_
 refine rg y<|u<|mv y<|u<|mv y<|u<|geq ti y y<|u<|mv y<|zbq (j:=3) 3 y y y y y gpn (fun a=>g y a<|mv y<|g y a<|mv y<|g y a<|leq ti y y<|zb (egA [11,12,13] 3 a y y y y)) zhn<|u<|asg y<|zb ?_
 refine zg ?_
 obtain rfl:=h
 exact ⟨_,y,zB []⟩
def zdH(a:zn)(b:Int):Option (Bool):=
  (zoE a).bind fun c=>some ((!c)||((zhs a.Op)&&(decide (b≤a.A))))
theorem zh3(c:zn)(d:Int){r:Bool}(h:zdH c d=some r):zu Tryz.prog 246 [.agg (zx c),.ipt 1 [[iA d]] 0 0] (bA r):=by
 refine zl Tryz.func246 y kz y y ?_
 unfold zdH at h
 refine rg y<|u<|bx 0 4 y y y y<|u<|asg y<|zb ?_
 obtain ⟨f,e,h⟩:=bs h
 refine rg y<|u<|ld ti y y<|u<|pc (zsb c e) y y y<|u<|nt y<|u<|mv y<|ze6 (j:=3) 9 y y y y y gpn (fun a=>g y a<|fa ti y y y<|g y a<|ld ti y y<|g y a<|pc (zjR c.Op y) y y y<|g y a<|mv y<|zbq (j:=7) 4 y y y y y (gps y y a) (fun b=>g y b<|fa ti y y y<|g y b<|ld ti y y<|g y b<|ld ti y y<|g y b<|geq ti y y<|zb (egA [12,13,14,15] 4 b y y y y)) zhn<|zb (egO [8,9,10,11,12,13,14,15,16] 5 a y y y y)) orT<|u<|asg y<|zb ?_
 refine zg ?_
 obtain rfl:=sm h
 exact ⟨_,y,zB []⟩
def zby:Option (Int):=
  some (-1)
def zaj(b:List zn)(c:Int)(a:Int):Option (Sum (Int) (Sum (Unit) (Int))):=
  cond (decide (a<(length b:Int))) ((idx b a).bind fun d=>(zdH d c).bind fun e=>cond e (some (.inr (.inr a))) (some (.inl (IntKind.i64.wrap (a+1))))) (some (.inr (.inl ())))
def zbX(a:List zn)(c:Int):Option (Int):=
  (zz (fun z=>zaj a c z) 0).bind fun o=>zaq o (fun b=>zby) some
theorem zfA(a:List zn)(c:Int){r:Int}(h:zbX a c=some r):zu Tryz.prog 264 [.isl 4 (map zx a),.fn (.func 246) [] [.ipt 1 [[iA c]] 0 0]] (iA r):=by
 refine zl Tryz.func264 y kz y y ?_
 unfold zbX at h
 refine rg y<|u<|asg y<|zb ?_
 refine zj ?_
 refine rg y<|u<|mv y<|u<|lnI ti y y<|u<|mv y<|zb ?_
 obtain ⟨o,ho,h⟩:=bs h
 refine zaN (X:=Int) (B:=Unit) (R:=Int) (fun z=>[(0,.isl 4 (map zx a)),(1,.fn (.func 246) [] [.ipt 1 [[iA c]] 0 0]),(7,iA (length a:Int)),(8,iA z)]) (fun z=>[]) (fun b=>[]) (fun b=>[]) (fun r env st=>zb6 Tryz.prog Tryz.f264 0 (iA r) [] env st) ho (zq []) ?_ ?_ ?_
 ·
  rintro g r h
  replace h:zaj a c g=some r:=h
  unfold zaj at h
  refine rg y<|u<|lss ti y y<|zb ?_
  refine zj ?_
  refine zf y (fun d=>?_) (fun d=>?_)
  ·
   replace h:=bT d h
   refine zi ?_
   refine zj ?_
   refine zr ?_
   refine rg y<|u<|mv y<|u<|asg y<|zb ?_
   obtain ⟨i,f,h⟩:=bs h
   obtain ⟨l,j,h⟩:=bs h
   refine rg y<|u<|mv y<|u<|mv y<|u<|mv y<|u<|ixI ti y ti y y y f<|u<|ldI ti y (zp f).2.2 y<|u<|pc (zh3 i c j) y y y<|zb ?_
   refine zf y (fun e=>?_) (fun e=>?_)
   ·
    replace h:=bT e h
    refine rg y<|u<|mv y<|u<|asg y<|zb ?_
    refine zg ?_
    obtain rfl:=sm h
    exact ⟨_,y,_,y,zB []⟩
   ·
    replace h:=bF e h
    refine zi ?_
    refine rl y<|u<|add ti y y<|u<|mv y<|zb ?_
    obtain rfl:=sm h
    exact ⟨_,y,zq []⟩
  ·
   replace h:=bF d h
   refine zQ ?_
   obtain rfl:=sm h
   exact ⟨y,_,y,zq []⟩
 ·
  rintro ⟨⟩ rfl
  replace h:zby=some r:=h
  unfold zby at h
  refine zD ?_
  refine rg y<|u<|asg y<|zb ?_
  refine zg ?_
  obtain rfl:=sm h
  exact ⟨_,y,zB []⟩
 ·
  rintro r' rfl env st hp
  obtain rfl:=sm h
  exact hp
def zaM(a:List zn)(b:Int):Option (Bool):=
  (zbX a b).bind fun c=>some (decide (0≤c))
theorem ze2(a:List zn)(b:Int){r:Bool}(h:zaM a b=some r):zu Tryz.prog 221 [.isl 4 (map zx a),.fn (.func 246) [] [.ipt 1 [[iA b]] 0 0]] (bA r):=by
 refine zl Tryz.func221 y kz y y ?_
 unfold zaM at h
 refine rg y<|u<|asg y<|zb ?_
 obtain ⟨d,c,h⟩:=bs h
 refine rg y<|u<|mv y<|u<|mv y<|u<|pc (zfA a b c) y y y<|u<|geq ti y y<|u<|asg y<|zb ?_
 refine zg ?_
 obtain rfl:=sm h
 exact ⟨_,y,zB []⟩
def zdq(a:zc):Option (Bool):=
  (cond (!(zk (length a.Code:Int) 1 100)) (some true) ((idx a.Code (IntKind.i64.wrap ((length a.Code:Int)-1))).bind fun b=>some (!(zi4 b.Op)))).bind fun c=>cond c (some false) ((zaM a.Code (length a.Code:Int)).bind fun d=>some (!d))
theorem zez(c:zc){r:Bool}(h:zdq c=some r):zu Tryz.prog 188 [.agg (ze c)] (bA r):=by
 refine zl Tryz.func188 y kz y y ?_
 unfold zdq at h
 refine rg y<|u<|bx 0 10 y y y y<|u<|asg y<|zb ?_
 refine rg y<|u<|fa ti y y y<|u<|ld ti y y<|u<|lnI ti y y<|u<|al 1 ti y<|u<|sto ti y y y<|zb ?_
 refine zj ?_
 obtain ⟨f,b,h⟩:=bs h
 refine rg y<|u<|ld ti y y<|u<|pc (zaH (length c.Code:Int) 1 100 y) y y y<|u<|nt y<|u<|mv y<|ze6 (x:=f) (j:=3) 9 y y y y y gpn (fun a=>by replace b:=bF a b;obtain ⟨i,e,b⟩:=bs b;obtain rfl:=sm b;exact g y a<|fa ti y y y<|g y a<|ld ti y y<|g y a<|ld ti y y<|g y a<|sub ti y y<|g y a<|ixI ti y ti y y y e<|g y a<|fa ti y y y<|g y a<|ldI ti y (zp e).2.2 y<|g y a<|pc (zm0 i.Op y) y y y<|g y a<|nt y<|zb (eg [11,12,13,14,15,16,17,18,19] 9 y y y y)) (fun hb=>(sm (bT hb b)).symm)<|zb ?_
 refine zf y (fun d=>?_) (fun d=>?_)
 ·
  replace h:=bT d h
  refine rg y<|u<|asg y<|zb ?_
  refine zg ?_
  obtain rfl:=sm h
  exact ⟨_,y,zB []⟩
 ·
  replace h:=bF d h
  refine zi ?_
  obtain ⟨m,l,h⟩:=bs h
  refine rg y<|u<|fa ti y y y<|u<|ld ti y y<|u<|mf y y<|u<|pcs (ze2 c.Code (length c.Code:Int) l) y y (.cons (si y) (.cons (zd0 t ⟨(zcb y ⟨(si y),t⟩),t⟩) .nil)) zdb<|u<|nt y<|u<|asg y<|zb ?_
  refine zg ?_
  obtain rfl:=sm h
  exact ⟨_,y,zB []⟩
def zhH(a:T0):Option (Bool):=
  (cond (((a == [73])||(a == [78]))||(a == [84])) (some true) ((zhr a).bind fun b=>some b)).bind fun c=>some c
theorem zni(e:T0){r:Bool}(h:zhH e=some r):zu Tryz.prog 248 [sA e] (bA r):=by
 refine zl Tryz.func248 y kz y y ?_
 unfold zhH at h
 refine rg y<|u<|asg y<|zb ?_
 obtain ⟨f,a,h⟩:=bs h
 refine rg y<|u<|mv y<|u<|seq ti y y<|u<|mv y<|ze6 (j:=2) 2 y y y y y gpn (fun b=>g y b<|mv y<|g y b<|seq ti y y<|zb (egO [6,7] 2 b y y y y)) orT<|u<|mv y<|ze6 (j:=6) 2 y y y y y gpn (fun c=>g y c<|mv y<|g y c<|seq ti y y<|zb (egO [10,11] 2 c y y y y)) orT<|u<|mv y<|ze6 (x:=f) (j:=10) 2 y y y y y gpn (fun d=>by replace a:=bF d a;obtain ⟨l,i,a⟩:=bs a;obtain rfl:=sm a;exact g y d<|mv y<|g y d<|pc (zii e i) y y y<|zb (eg [14,15] 2 y y y y)) (fun hb=>(sm (bT hb a)).symm)<|u<|asg y<|zb ?_
 refine zg ?_
 obtain rfl:=sm h
 exact ⟨_,y,zB []⟩
def zfo(a:T0):Option (Bool):=
  (zhH a).bind fun b=>some (!b)
theorem zjA(a:T0){r:Bool}(h:zfo a=some r):zu Tryz.prog 245 [sA a,.ipt 1 [[.fn (.func 248) [] []]] 0 0] (bA r):=by
 refine zl Tryz.func245 y kz y y ?_
 unfold zfo at h
 refine rg y<|u<|asg y<|zb ?_
 obtain ⟨c,b,h⟩:=bs h
 refine rg y<|u<|ld ti y y<|u<|mv y<|u<|pc (zni a b) y y y<|u<|nt y<|u<|asg y<|zb ?_
 refine zg ?_
 obtain rfl:=sm h
 exact ⟨_,y,zB []⟩
def zbj:Option (Int):=
  some (-1)
def z7(b:T1)(a:Int):Option (Sum (Int) (Sum (Unit) (Int))):=
  cond (decide (a<(length b:Int))) ((idx b a).bind fun c=>(zfo c).bind fun d=>cond d (some (.inr (.inr a))) (some (.inl (IntKind.i64.wrap (a+1))))) (some (.inr (.inl ())))
def zbO(a:T1):Option (Int):=
  (zz (fun z=>z7 a z) 0).bind fun o=>zaq o (fun b=>zbj) some
theorem zfh(a:T1){r:Int}(h:zbO a=some r):zu Tryz.prog 110 [.isl 1 (map zm a),.fn (.func 245) [] [.ipt 1 [[.fn (.func 248) [] []]] 0 0]] (iA r):=by
 refine zl Tryz.func110 y kz y y ?_
 unfold zbO at h
 refine rg y<|u<|asg y<|zb ?_
 refine zj ?_
 refine rg y<|u<|mv y<|u<|lnI ti y y<|u<|mv y<|zb ?_
 obtain ⟨o,ho,h⟩:=bs h
 refine zaN (X:=Int) (B:=Unit) (R:=Int) (fun z=>[(0,.isl 1 (map zm a)),(1,.fn (.func 245) [] [.ipt 1 [[.fn (.func 248) [] []]] 0 0]),(7,iA (length a:Int)),(8,iA z)]) (fun z=>[]) (fun b=>[]) (fun b=>[]) (fun r env st=>zb6 Tryz.prog Tryz.f110 0 (iA r) [] env st) ho (zq []) ?_ ?_ ?_
 ·
  rintro f r h
  replace h:z7 a f=some r:=h
  unfold z7 at h
  refine rg y<|u<|lss ti y y<|zb ?_
  refine zj ?_
  refine zf y (fun c=>?_) (fun c=>?_)
  ·
   replace h:=bT c h
   refine zi ?_
   refine zj ?_
   refine zr ?_
   refine rg y<|u<|mv y<|u<|asg y<|zb ?_
   obtain ⟨g,e,h⟩:=bs h
   obtain ⟨j,i,h⟩:=bs h
   refine rg y<|u<|mv y<|u<|mv y<|u<|mv y<|u<|ixI ti y ti y y y e<|u<|ldI ti y (zp e).2.2 y<|u<|pc (zjA g i) y y y<|zb ?_
   refine zf y (fun d=>?_) (fun d=>?_)
   ·
    replace h:=bT d h
    refine rg y<|u<|mv y<|u<|asg y<|zb ?_
    refine zg ?_
    obtain rfl:=sm h
    exact ⟨_,y,_,y,zB []⟩
   ·
    replace h:=bF d h
    refine zi ?_
    refine rl y<|u<|add ti y y<|u<|mv y<|zb ?_
    obtain rfl:=sm h
    exact ⟨_,y,zq []⟩
  ·
   replace h:=bF c h
   refine zQ ?_
   obtain rfl:=sm h
   exact ⟨y,_,y,zq []⟩
 ·
  rintro ⟨⟩ rfl
  replace h:zbj=some r:=h
  unfold zbj at h
  refine zD ?_
  refine rg y<|u<|asg y<|zb ?_
  refine zg ?_
  obtain rfl:=sm h
  exact ⟨_,y,zB []⟩
 ·
  rintro r' rfl env st hp
  obtain rfl:=sm h
  exact hp
def zbf(a:T1):Option (Bool):=
  (zbO a).bind fun b=>some (decide (0≤b))
theorem zeI(a:T1){r:Bool}(h:zbf a=some r):zu Tryz.prog 56 [.isl 1 (map zm a),.fn (.func 245) [] [.ipt 1 [[.fn (.func 248) [] []]] 0 0]] (bA r):=by
 refine zl Tryz.func56 y kz y y ?_
 unfold zbf at h
 refine rg y<|u<|asg y<|zb ?_
 obtain ⟨c,b,h⟩:=bs h
 refine rg y<|u<|mv y<|u<|mv y<|u<|pc (zfh a b) y y y<|u<|geq ti y y<|u<|asg y<|zb ?_
 refine zg ?_
 obtain rfl:=sm h
 exact ⟨_,y,zB []⟩
def zef(a:T1):Option (Bool):=
  (zbf a).bind fun b=>some (!b)
theorem zhJ(a:T1){r:Bool}(h:zef a=some r):zu Tryz.prog 183 [.isl 1 (map zm a),.fn (.func 248) [] []] (bA r):=by
 refine zl Tryz.func183 y kz y y ?_
 unfold zef at h
 refine rg y<|u<|bx 0 1 y y y y<|u<|asg y<|zb ?_
 obtain ⟨c,b,h⟩:=bs h
 refine rg y<|u<|mv y<|u<|mf y y<|u<|pcs (zeI a b) y y (.cons (si y) (.cons (zd0 t ⟨(zcb y ⟨(si y),t⟩),t⟩) .nil)) zdb<|u<|nt y<|u<|asg y<|zb ?_
 refine zg ?_
 obtain rfl:=sm h
 exact ⟨_,y,zB []⟩
def zch:Option (Int):=
  some (-1)
def zaY(b:T1)(c:T0)(a:Int):Option (Sum (Int) (Sum (Unit) (Int))):=
  cond (decide (a<(length b:Int))) ((idx b a).bind fun d=>cond (c == d) (some (.inr (.inr a))) (some (.inl (IntKind.i64.wrap (a+1))))) (some (.inr (.inl ())))
def zcA(a:T1)(c:T0):Option (Int):=
  (zz (fun z=>zaY a c z) 0).bind fun o=>zaq o (fun b=>zch) some
theorem zgD(a:T1)(e:T0){r:Int}(h:zcA a e=some r):zu Tryz.prog 193 [.isl 1 (map zm a),sA e] (iA r):=by
 refine zl Tryz.func193 y kz y y ?_
 unfold zcA at h
 refine rg y<|u<|asg y<|zb ?_
 refine zj ?_
 refine rg y<|u<|mv y<|u<|lnI ti y y<|u<|mv y<|zb ?_
 obtain ⟨o,ho,h⟩:=bs h
 refine zaN (X:=Int) (B:=Unit) (R:=Int) (fun z=>[(0,.isl 1 (map zm a)),(1,sA e),(7,iA (length a:Int)),(8,iA z)]) (fun z=>[]) (fun b=>[]) (fun b=>[]) (fun r env st=>zb6 Tryz.prog Tryz.f193 0 (iA r) [] env st) ho (zq []) ?_ ?_ ?_
 ·
  rintro g r h
  replace h:zaY a e g=some r:=h
  unfold zaY at h
  refine rg y<|u<|lss ti y y<|zb ?_
  refine zj ?_
  refine zf y (fun c=>?_) (fun c=>?_)
  ·
   replace h:=bT c h
   refine zi ?_
   refine zj ?_
   refine zr ?_
   refine rg y<|u<|mv y<|u<|asg y<|zb ?_
   obtain ⟨i,f,h⟩:=bs h
   refine rg y<|u<|mv y<|u<|mv y<|u<|mv y<|u<|ixI ti y ti y y y f<|u<|ldI ti y (zp f).2.2 y<|u<|seq ti y y<|zb ?_
   refine zf y (fun d=>?_) (fun d=>?_)
   ·
    replace h:=bT d h
    refine rg y<|u<|mv y<|u<|asg y<|zb ?_
    refine zg ?_
    obtain rfl:=sm h
    exact ⟨_,y,_,y,zB []⟩
   ·
    replace h:=bF d h
    refine zi ?_
    refine rl y<|u<|add ti y y<|u<|mv y<|zb ?_
    obtain rfl:=sm h
    exact ⟨_,y,zq []⟩
  ·
   replace h:=bF c h
   refine zQ ?_
   obtain rfl:=sm h
   exact ⟨y,_,y,zq []⟩
 ·
  rintro ⟨⟩ rfl
  replace h:zch=some r:=h
  unfold zch at h
  refine zD ?_
  refine rg y<|u<|asg y<|zb ?_
  refine zg ?_
  obtain rfl:=sm h
  exact ⟨_,y,zB []⟩
 ·
  rintro r' rfl env st hp
  obtain rfl:=sm h
  exact hp
def zA(a:T1)(b:T0):Option (Bool):=
  (zcA a b).bind fun c=>some (decide (0≤c))
theorem zaz(a:T1)(b:T0){r:Bool}(h:zA a b=some r):zu Tryz.prog 113 [.isl 1 (map zm a),sA b] (bA r):=by
 refine zl Tryz.func113 y kz y y ?_
 unfold zA at h
 refine rg y<|u<|asg y<|zb ?_
 obtain ⟨d,c,h⟩:=bs h
 refine rg y<|u<|mv y<|u<|mv y<|u<|pc (zgD a b c) y y y<|u<|geq ti y y<|u<|asg y<|zb ?_
 refine zg ?_
 obtain rfl:=sm h
 exact ⟨_,y,zB []⟩
def zh4(a:zc):Option (Bool):=
  some (decide ((length a.Maps:Int)≤100))
def zdr(b:zc)(c:Int)(a:zaA)(d:Bool):Option (Sum (Int) (Sum (Unit) (Bool))):=
  cond d (some (.inr (.inr false))) ((cond ((!((length a.Locals:Int) == b.Locals))||(decide (b.Stack<(length a.Stack:Int)))) (some true) ((zef a.Locals).bind fun e=>some (!e))).bind fun f=>(cond f (some true) ((zef a.Stack).bind fun g=>some (!g))).bind fun h=>(cond h (some true) ((zA a.Stack [84]).bind fun i=>some i)).bind fun j=>cond j (some (.inr (.inr false))) (some (.inl (IntKind.i64.wrap (c+1)))))
def zds(c:zc)(a:Int):Option (Sum (Int) (Sum (Unit) (Bool))):=
  cond (decide (a<(length c.Maps:Int))) ((idx c.Maps a).bind fun b=>cond (!(zk b.At 0 (IntKind.i64.wrap ((length c.Code:Int)-1)))) (zdr c a b true) (cond (decide (0<a)) ((idx c.Maps (IntKind.i64.wrap (a-1))).bind fun d=>zdr c a b (decide (b.At≤d.At))) (zdr c a b false))) (some (.inr (.inl ())))
def zhG(a:zc):Option (Bool):=
  (zz (fun z=>zds a z) 0).bind fun o=>zaq o (fun b=>zh4 a) some
theorem zj0(c:zc){r:Bool}(h:zhG c=some r):zu Tryz.prog 189 [.agg (ze c)] (bA r):=by
 refine zl Tryz.func189 y kz y y ?_
 unfold zhG at h
 refine rg y<|u<|bx 0 10 y y y y<|u<|asg y<|zb ?_
 refine zj ?_
 refine rg y<|u<|fa ti y y y<|u<|ld ti y y<|u<|lnI ti y y<|u<|mv y<|zb ?_
 obtain ⟨o,ho,h⟩:=bs h
 refine zaN (X:=Int) (B:=Unit) (R:=Bool) (fun z=>[(1,.mpt 0 0 0),(6,.isl 3 (map zaG c.Maps)),(7,iA (length c.Maps:Int)),(8,iA z)]) (fun z=>[some (10,[(ze c)])]) (fun b=>[(1,.mpt 0 0 0)]) (fun b=>[some (10,[(ze c)])]) (fun r env st=>zb6 Tryz.prog Tryz.f189 0 (bA r) [] env st) ho (zq [.old 0]) ?_ ?_ ?_
 ·
  rintro d r h
  replace h:zds c d=some r:=h
  unfold zds at h
  refine rg y<|u<|lss ti y y<|zb ?_
  refine zj ?_
  refine zf y (fun v=>?_) (fun v=>?_)
  ·
   replace h:=bT v h
   refine zi ?_
   refine zj ?_
   refine zr ?_
   obtain ⟨a,E,h⟩:=bs h
   refine rg y<|u<|mv y<|u<|ixI ti y ti y y y E<|u<|ldI ti y (zp E).2.2 y<|u<|al 1 ti y<|u<|asg y<|u<|sto ti y y y<|zb ?_
   refine zj ?_
   refine zdk (X:=Bool) (fun z=>[(1,.mpt 0 0 0),(4,.mpt 1 0 0),(6,.isl 3 (map zaG c.Maps)),(7,iA (length c.Maps:Int)),(8,iA d),(36,bA z)]) (fun z=>[some (10,[(ze c)]),some (3,[(zaG a)])]) (fun z=>zdr c d a z=some r) ?_ ?_
   ·
    rcases bb (!(zk a.At 0 (IntKind.i64.wrap ((length c.Code:Int)-1)))) with A |A
    ·
     replace h:=bT A h
     exact zb5 [] [23,22,21,20,19,18,17,16,15,14,13,12,11,10,9,8,7,6,5,4,3,2,1,0] [(36,bA true),(35,.lit undef),(34,.lit undef),(33,.lit undef),(32,.lit undef),(31,.lit undef),(30,.lit undef),(29,.lit undef),(28,.lit undef),(27,.lit undef),(26,.lit undef),(25,.lit undef),(24,.lit undef),(23,.lit undef),(22,.lit undef),(21,bA (!(zk a.At 0 (IntKind.i64.wrap ((length c.Code:Int)-1))))),(20,bA (!(zk a.At 0 (IntKind.i64.wrap ((length c.Code:Int)-1))))),(19,bA (zk a.At 0 (IntKind.i64.wrap ((length c.Code:Int)-1)))),(18,iA (IntKind.i64.wrap ((length c.Code:Int)-1))),(17,iA (length c.Code:Int)),(16,.isl 4 (map zx c.Code)),(15,.mpt 0 0 7),(14,iA a.At),(13,.mpt 1 0 0)] 0 kz kz y kz (zjh ⟨pe,pe,pe,pe,pe,pe,pe,pe,pe,pe,pe,pe,pe,pe,pe,pe,pe,(pb y (pc (zaH a.At 0 (IntKind.i64.wrap ((length c.Code:Int)-1)) y) y y y w)),(pb y (sub ti y y w)),(pb y (lnI ti y y w)),pe,pe,pe,pe,t⟩ ⟨true,h,zq [.old 0,.old 1]⟩)
    ·
     replace h:=bF A h
     rcases bb (decide (0<d)) with f |f
     ·
      replace h:=bT f h
      obtain ⟨s,F,h⟩:=bs h
      exact zb5 [] [23,22,21,20,19,18,17,16,15,14,13,12,11,10,9,8,7,6,5,4,3,2,1,0] [(36,bA (decide (a.At≤s.At))),(35,bA (decide (a.At≤s.At))),(34,bA (decide (a.At≤s.At))),(33,iA a.At),(32,.mpt 1 0 0),(31,iA s.At),(30,.ipt 3 (map zaG c.Maps) (Int.toNat (IntKind.i64.wrap (d-1))) 0),(29,.ipt 3 (map zaG c.Maps) (Int.toNat (IntKind.i64.wrap (d-1))) 0),(28,iA (IntKind.i64.wrap (d-1))),(27,iA d),(26,.isl 3 (map zaG c.Maps)),(25,.mpt 0 0 8),(24,bA (decide (0<d))),(23,bA (decide (0<d))),(22,iA d),(21,bA (!(zk a.At 0 (IntKind.i64.wrap ((length c.Code:Int)-1))))),(20,bA (!(zk a.At 0 (IntKind.i64.wrap ((length c.Code:Int)-1))))),(19,bA (zk a.At 0 (IntKind.i64.wrap ((length c.Code:Int)-1)))),(18,iA (IntKind.i64.wrap ((length c.Code:Int)-1))),(17,iA (length c.Code:Int)),(16,.isl 4 (map zx c.Code)),(15,.mpt 0 0 7),(14,iA a.At),(13,.mpt 1 0 0)] 0 kz kz y kz (zjh ⟨pe,pe,pe,pe,pe,(fun _=>pag (b:=(decide (0<d))) y y y y f y (ldI ti y (zp F).2.2 y<|w)),pe,(fun _=>pag (b:=(decide (0<d))) y y y y f y (ixI ti y ti y y y F<|w)),(fun _=>pag (b:=(decide (0<d))) y y y y f y (sub ti y y<|w)),pe,pe,pe,pe,pe,pe,pe,pe,(pb y (pc (zaH a.At 0 (IntKind.i64.wrap ((length c.Code:Int)-1)) y) y y y w)),(pb y (sub ti y y w)),(pb y (lnI ti y y w)),pe,pe,pe,pe,t⟩ ⟨(decide (a.At≤s.At)),h,zq [.old 0,.old 1]⟩)
     ·
      replace h:=bF f h
      exact zb5 [] [23,22,21,20,19,18,17,16,15,14,13,12,11,10,9,8,7,6,5,4,3,2,1,0] [(36,bA false),(35,bA false),(34,.lit undef),(33,.lit undef),(32,.lit undef),(31,.lit undef),(30,.lit undef),(29,.lit undef),(28,.lit undef),(27,.lit undef),(26,.lit undef),(25,.lit undef),(24,bA (decide (0<d))),(23,bA (decide (0<d))),(22,iA d),(21,bA (!(zk a.At 0 (IntKind.i64.wrap ((length c.Code:Int)-1))))),(20,bA (!(zk a.At 0 (IntKind.i64.wrap ((length c.Code:Int)-1))))),(19,bA (zk a.At 0 (IntKind.i64.wrap ((length c.Code:Int)-1)))),(18,iA (IntKind.i64.wrap ((length c.Code:Int)-1))),(17,iA (length c.Code:Int)),(16,.isl 4 (map zx c.Code)),(15,.mpt 0 0 7),(14,iA a.At),(13,.mpt 1 0 0)] 0 kz kz y kz (zjh ⟨pe,pe,pe,pe,pe,pe,pe,pe,pe,pe,pe,pe,pe,pe,pe,pe,pe,(pb y (pc (zaH a.At 0 (IntKind.i64.wrap ((length c.Code:Int)-1)) y) y y y w)),(pb y (sub ti y y w)),(pb y (lnI ti y y w)),pe,pe,pe,pe,t⟩ ⟨false,h,zq [.old 0,.old 1]⟩)
   ·
    rintro G h
    replace h:zdr c d a G=some r:=h
    unfold zdr at h
    refine zf y (fun C=>?_) (fun C=>?_)
    ·
     replace h:=bT C h
     refine rg y<|u<|asg y<|zb ?_
     refine zg ?_
     obtain rfl:=sm h
     exact ⟨_,y,_,y,zB []⟩
    ·
     replace h:=bF C h
     refine zi ?_
     obtain ⟨H,m,h⟩:=bs h
     obtain ⟨I,n,h⟩:=bs h
     obtain ⟨J,p,h⟩:=bs h
     refine rg y<|u<|fa ti y y y<|u<|ld ti y y<|u<|lnI ti y y<|u<|fa ti y y y<|u<|ld ti y y<|u<|neq ti y y<|u<|mv y<|ze6 (j:=6) 6 y y y y y gpn (fun e=>g y e<|fa ti y y y<|g y e<|ld ti y y<|g y e<|lnI ti y y<|g y e<|fa ti y y y<|g y e<|ld ti y y<|g y e<|gtr ti y y<|zb (egO [44,45,46,47,48,49] 6 e y y y y)) orT<|u<|mv y<|ze6 (x:=H) (j:=14) 4 y y y y y gpn (fun i=>by replace m:=bF i m;obtain ⟨N,K,m⟩:=bs m;obtain rfl:=sm m;exact g y i<|fa ti y y y<|g y i<|ld ti y y<|g y i<|pc (zhJ a.Locals K) y y y<|g y i<|nt y<|zb (eg [52,53,54,55] 4 y y y y)) (fun hb=>(sm (bT hb m)).symm)<|u<|mv y<|ze6 (x:=I) (j:=20) 4 y y y y y gpn (fun l=>by replace n:=bF l n;obtain ⟨O,L,n⟩:=bs n;obtain rfl:=sm n;exact g y l<|fa ti y y y<|g y l<|ld ti y y<|g y l<|pc (zhJ a.Stack L) y y y<|g y l<|nt y<|zb (eg [58,59,60,61] 4 y y y y)) (fun hb=>(sm (bT hb n)).symm)<|u<|mv y<|ze6 (x:=J) (j:=26) 3 y y y y y gpn (fun q=>by replace p:=bF q p;obtain ⟨P,M,p⟩:=bs p;obtain rfl:=sm p;exact g y q<|fa ti y y y<|g y q<|ld ti y y<|g y q<|pc (zaz a.Stack [84] M) y y y<|zb (eg [64,65,66] 3 y y y y)) (fun hb=>(sm (bT hb p)).symm)<|zb ?_
     refine zf y (fun D=>?_) (fun D=>?_)
     ·
      replace h:=bT D h
      refine rg y<|u<|asg y<|zb ?_
      refine zg ?_
      obtain rfl:=sm h
      exact ⟨_,y,_,y,zB []⟩
     ·
      replace h:=bF D h
      refine zi ?_
      refine rl y<|u<|add ti y y<|u<|mv y<|zb ?_
      obtain rfl:=sm h
      exact ⟨_,y,zq [.old 0]⟩
  ·
   replace h:=bF v h
   refine zQ ?_
   obtain rfl:=sm h
   exact ⟨y,_,y,zq [.old 0]⟩
 ·
  rintro ⟨⟩ rfl
  replace h:zh4 c=some r:=h
  unfold zh4 at h
  refine zD ?_
  refine rg y<|u<|fa ti y y y<|u<|ld ti y y<|u<|lnI ti y y<|u<|leq ti y y<|u<|asg y<|zb ?_
  refine zg ?_
  obtain rfl:=sm h
  exact ⟨_,y,zB []⟩
 ·
  rintro r' rfl env st hp
  obtain rfl:=sm h
  exact hp
def zgG(a:zV)(h:T0)(i:T1)(j:T0)(l:Bool)(m:Bool)(n:Int)(o:Int)(b:List zn)(f:List zaA)(g:List zV):Option (Bool):=
  (cond ((((decide (a.From<0))||(decide (a.To≤a.From)))||(decide ((length b:Int)<a.To)))||(!(zk a.At 0 (IntKind.i64.wrap ((length b:Int)-1))))) (some true) ((cond (!(a.C == [])) ((zeh a.C).bind fun c=>some (!c)) (some false)).bind fun d=>some d)).bind fun e=>some e
theorem zk9(l:zV)(p:T0)(q:T1)(s:T0)(v:Bool)(z:Bool)(A:Int)(B:Int)(o:List zn)(m:List zaA)(n:List zV){r:Bool}(h:zgG l p q s v z A B o m n=some r):zu Tryz.prog 249 [.agg (zap l),.ipt 10 [[sA p,.isl 1 (map zm q),sA s,bA v,bA z,iA A,iA B,.isl 4 (map zx o),.isl 3 (map zaG m),.isl 4 (map zap n)]] 0 0] (bA r):=by
 refine zl Tryz.func249 y kz y y ?_
 unfold zgG at h
 refine rg y<|u<|bx 0 4 y y y y<|u<|asg y<|zb ?_
 obtain ⟨D,f,h⟩:=bs h
 refine rg y<|u<|fa ti y y y<|u<|ld ti y y<|u<|lss ti y y<|u<|mv y<|ze6 (j:=3) 5 y y y y y gpn (fun c=>g y c<|fa ti y y y<|g y c<|ld ti y y<|g y c<|fa ti y y y<|g y c<|ld ti y y<|g y c<|geq ti y y<|zb (egO [8,9,10,11,12] 5 c y y y y)) orT<|u<|mv y<|ze6 (j:=10) 6 y y y y y gpn (fun b=>g y b<|fa ti y y y<|g y b<|ld ti y y<|g y b<|fa ti y y y<|g y b<|ld ti y y<|g y b<|lnI ti y y<|g y b<|gtr ti y y<|zb (egO [15,16,17,18,19,20] 6 b y y y y)) orT<|u<|mv y<|ze6 (j:=18) 8 y y y y y gpn (fun a=>g y a<|fa ti y y y<|g y a<|ld ti y y<|g y a<|fa ti y y y<|g y a<|ld ti y y<|g y a<|lnI ti y y<|g y a<|sub ti y y<|g y a<|pc (zaH l.At 0 (IntKind.i64.wrap ((length o:Int)-1)) y) y y y<|g y a<|nt y<|zb (egO [23,24,25,26,27,28,29,30] 8 a y y y y)) orT<|u<|mv y<|ze6 (x:=D) (j:=28) 9 y y y y y gpn (fun d=>by replace f:=bF d f;obtain ⟨E,i,f⟩:=bs f;obtain rfl:=sm f;exact g y d<|fa ti y y y<|g y d<|ld ti y y<|g y d<|sne ti y y<|g y d<|mv y<|zbq (x:=E) (j:=32) 4 y y y y y (gps y y d) (fun e=>by replace i:=bT e i;obtain ⟨G,F,i⟩:=bs i;obtain rfl:=sm i;exact g y e<|fa ti y y y<|g y e<|ld ti y y<|g y e<|pc (zeW l.C F) y y y<|g y e<|nt y<|zb (eg [37,38,39,40] 4 y y y y)) (fun hb=>(sm (bF hb i)).symm)<|zb (eg [33,34,35,36,37,38,39,40,41] 5 y y y y)) (fun hb=>(sm (bT hb f)).symm)<|u<|asg y<|zb ?_
 refine zg ?_
 obtain rfl:=sm h
 exact ⟨_,y,zB []⟩
def zbc:Option (Int):=
  some (-1)
def z1(b:List zV)(g:T0)(h:T1)(i:T0)(j:Bool)(l:Bool)(m:Int)(n:Int)(o:List zn)(c:List zaA)(d:List zV)(a:Int):Option (Sum (Int) (Sum (Unit) (Int))):=
  cond (decide (a<(length b:Int))) ((idx b a).bind fun e=>(zgG e g h i j l m n o c d).bind fun f=>cond f (some (.inr (.inr a))) (some (.inl (IntKind.i64.wrap (a+1))))) (some (.inr (.inl ())))
def zbF(d:List zV)(e:T0)(f:T1)(g:T0)(h:Bool)(i:Bool)(j:Int)(l:Int)(m:List zn)(a:List zaA)(c:List zV):Option (Int):=
  (zz (fun z=>z1 d e f g h i j l m a c z) 0).bind fun o=>zaq o (fun b=>zbc) some
theorem zfa(d:List zV)(e:T0)(f:T1)(g:T0)(i:Bool)(j:Bool)(l:Int)(m:Int)(n:List zn)(a:List zaA)(c:List zV){r:Int}(h:zbF d e f g i j l m n a c=some r):zu Tryz.prog 263 [.isl 4 (map zap d),.fn (.func 249) [] [.ipt 10 [[sA e,.isl 1 (map zm f),sA g,bA i,bA j,iA l,iA m,.isl 4 (map zx n),.isl 3 (map zaG a),.isl 4 (map zap c)]] 0 0]] (iA r):=by
 refine zl Tryz.func263 y kz y y ?_
 unfold zbF at h
 refine rg y<|u<|asg y<|zb ?_
 refine zj ?_
 refine rg y<|u<|mv y<|u<|lnI ti y y<|u<|mv y<|zb ?_
 obtain ⟨o,ho,h⟩:=bs h
 refine zaN (X:=Int) (B:=Unit) (R:=Int) (fun z=>[(0,.isl 4 (map zap d)),(1,.fn (.func 249) [] [.ipt 10 [[sA e,.isl 1 (map zm f),sA g,bA i,bA j,iA l,iA m,.isl 4 (map zx n),.isl 3 (map zaG a),.isl 4 (map zap c)]] 0 0]),(7,iA (length d:Int)),(8,iA z)]) (fun z=>[]) (fun b=>[]) (fun b=>[]) (fun r env st=>zb6 Tryz.prog Tryz.f263 0 (iA r) [] env st) ho (zq []) ?_ ?_ ?_
 ·
  rintro s r h
  replace h:z1 d e f g i j l m n a c s=some r:=h
  unfold z1 at h
  refine rg y<|u<|lss ti y y<|zb ?_
  refine zj ?_
  refine zf y (fun p=>?_) (fun p=>?_)
  ·
   replace h:=bT p h
   refine zi ?_
   refine zj ?_
   refine zr ?_
   refine rg y<|u<|mv y<|u<|asg y<|zb ?_
   obtain ⟨v,x,h⟩:=bs h
   obtain ⟨C,A,h⟩:=bs h
   refine rg y<|u<|mv y<|u<|mv y<|u<|mv y<|u<|ixI ti y ti y y y x<|u<|ldI ti y (zp x).2.2 y<|u<|pc (zk9 v e f g i j l m n a c A) y y y<|zb ?_
   refine zf y (fun q=>?_) (fun q=>?_)
   ·
    replace h:=bT q h
    refine rg y<|u<|mv y<|u<|asg y<|zb ?_
    refine zg ?_
    obtain rfl:=sm h
    exact ⟨_,y,_,y,zB []⟩
   ·
    replace h:=bF q h
    refine zi ?_
    refine rl y<|u<|add ti y y<|u<|mv y<|zb ?_
    obtain rfl:=sm h
    exact ⟨_,y,zq []⟩
  ·
   replace h:=bF p h
   refine zQ ?_
   obtain rfl:=sm h
   exact ⟨y,_,y,zq []⟩
 ·
  rintro ⟨⟩ rfl
  replace h:zbc=some r:=h
  unfold zbc at h
  refine zD ?_
  refine rg y<|u<|asg y<|zb ?_
  refine zg ?_
  obtain rfl:=sm h
  exact ⟨_,y,zB []⟩
 ·
  rintro r' rfl env st hp
  obtain rfl:=sm h
  exact hp
def zbb(d:List zV)(e:T0)(f:T1)(g:T0)(h:Bool)(i:Bool)(j:Int)(l:Int)(m:List zn)(a:List zaA)(b:List zV):Option (Bool):=
  (zbF d e f g h i j l m a b).bind fun c=>some (decide (0≤c))
theorem zev(c:List zV)(d:T0)(e:T1)(f:T0)(g:Bool)(i:Bool)(j:Int)(l:Int)(m:List zn)(a:List zaA)(b:List zV){r:Bool}(h:zbb c d e f g i j l m a b=some r):zu Tryz.prog 219 [.isl 4 (map zap c),.fn (.func 249) [] [.ipt 10 [[sA d,.isl 1 (map zm e),sA f,bA g,bA i,iA j,iA l,.isl 4 (map zx m),.isl 3 (map zaG a),.isl 4 (map zap b)]] 0 0]] (bA r):=by
 refine zl Tryz.func219 y kz y y ?_
 unfold zbb at h
 refine rg y<|u<|asg y<|zb ?_
 obtain ⟨o,n,h⟩:=bs h
 refine rg y<|u<|mv y<|u<|mv y<|u<|pc (zfa c d e f g i j l m a b n) y y y<|u<|geq ti y y<|u<|asg y<|zb ?_
 refine zg ?_
 obtain rfl:=sm h
 exact ⟨_,y,zB []⟩
def zgU(a:zc):Option (Bool):=
  (zbb a.Traps a.Name a.Params a.Ret a.Static a.Abstract a.Locals a.Stack a.Code a.Maps a.Traps).bind fun b=>some ((!b)&&(decide ((length a.Traps:Int)≤6)))
theorem zmr(a:zc){r:Bool}(h:zgU a=some r):zu Tryz.prog 190 [.agg (ze a)] (bA r):=by
 refine zl Tryz.func190 y kz y y ?_
 unfold zgU at h
 refine rg y<|u<|bx 0 10 y y y y<|u<|asg y<|zb ?_
 obtain ⟨d,c,h⟩:=bs h
 refine rg y<|u<|fa ti y y y<|u<|ld ti y y<|u<|mf y y<|u<|pcs (zev a.Traps a.Name a.Params a.Ret a.Static a.Abstract a.Locals a.Stack a.Code a.Maps a.Traps c) y y (.cons (si y) (.cons (zd0 t ⟨(zcb y ⟨(si y),(si y),(si y),(si y),(si y),(si y),(si y),(si y),(si y),(si y),t⟩),t⟩) .nil)) zdb<|u<|asg y<|zb ?_
 refine rg y<|u<|mv y<|u<|nt y<|u<|mv y<|zbq (j:=2) 4 y y y y y gpn (fun b=>g y b<|fa ti y y y<|g y b<|ld ti y y<|g y b<|lnI ti y y<|g y b<|leq ti y y<|zb (egA [11,12,13,14] 4 b y y y y)) zhn<|u<|asg y<|zb ?_
 refine zg ?_
 obtain rfl:=sm h
 exact ⟨_,y,zB []⟩
def zcM(a:Bool):Option (Bool):=
  some a
def zgk(a:zc):Option (Bool):=
  (zg4 a.Name).bind fun b=>(cond ((!b)||(decide (6<(length a.Params:Int)))) (some true) ((zgV a.Params).bind fun c=>some (!c))).bind fun d=>(cond d (some true) ((zj6 a.Ret).bind fun e=>some (!e))).bind fun f=>cond f (some false) (cond a.Abstract (some (zh2 a)) (cond ((a.Name == [36,105,110,105,116])&&(((!a.Static)||(decide (0<(length a.Params:Int))))||(!(a.Ret == [86])))) (some false) (cond (zk a.Locals (zL a) 16) (cond (zk a.Stack 0 16) ((zdq a).bind fun g=>cond g ((zhG a).bind fun h=>cond h ((zgU a).bind fun i=>zcM i) (zcM false)) (zcM false)) (zcM false)) (zcM false))))
theorem zlA(a:zc){r:Bool}(h:zgk a=some r):zu Tryz.prog 106 [.agg (ze a)] (bA r):=by
 refine zl Tryz.func106 y kz y y ?_
 unfold zgk at h
 refine rg y<|u<|bx 0 10 y y y y<|u<|asg y<|zb ?_
 refine zj ?_
 obtain ⟨O,J,h⟩:=bs h
 obtain ⟨K,B,h⟩:=bs h
 obtain ⟨L,C,h⟩:=bs h
 refine rg y<|u<|fa ti y y y<|u<|ld ti y y<|u<|pc (ziW a.Name J) y y y<|u<|nt y<|u<|mv y<|ze6 (j:=4) 4 y y y y y gpn (fun o=>g y o<|fa ti y y y<|g y o<|ld ti y y<|g y o<|lnI ti y y<|g y o<|gtr ti y y<|zb (egO [8,9,10,11] 4 o y y y y)) orT<|u<|mv y<|ze6 (x:=K) (j:=10) 4 y y y y y gpn (fun p=>by replace B:=bF p B;obtain ⟨P,M,B⟩:=bs B;obtain rfl:=sm B;exact g y p<|fa ti y y y<|g y p<|ld ti y y<|g y p<|pc (zmt a.Params M) y y y<|g y p<|nt y<|zb (eg [14,15,16,17] 4 y y y y)) (fun hb=>(sm (bT hb B)).symm)<|u<|mv y<|ze6 (x:=L) (j:=16) 4 y y y y y gpn (fun q=>by replace C:=bF q C;obtain ⟨Q,N,C⟩:=bs C;obtain rfl:=sm C;exact g y q<|fa ti y y y<|g y q<|ld ti y y<|g y q<|pc (zpd a.Ret N) y y y<|g y q<|nt y<|zb (eg [20,21,22,23] 4 y y y y)) (fun hb=>(sm (bT hb C)).symm)<|zb ?_
 refine zf y (fun D=>?_) (fun D=>?_)
 ·
  replace h:=bT D h
  refine rg y<|u<|asg y<|zb ?_
  refine zg ?_
  obtain rfl:=sm h
  exact ⟨_,y,zB []⟩
 ·
  replace h:=bF D h
  refine zi ?_
  refine zj ?_
  refine rg y<|u<|fa ti y y y<|u<|ld ti y y<|zb ?_
  refine zf y (fun v=>?_) (fun v=>?_)
  ·
   replace h:=bT v h
   refine rg y<|u<|ld ti y y<|u<|pc (zmp a y) y y y<|u<|asg y<|zb ?_
   refine zg ?_
   obtain rfl:=sm h
   exact ⟨_,y,zB []⟩
  ·
   replace h:=bF v h
   refine zi ?_
   refine zj ?_
   refine rg y<|u<|fa ti y y y<|u<|ld ti y y<|u<|seq ti y y<|u<|mv y<|zbq (j:=3) 14 y y y y y gpn (fun c=>g y c<|fa ti y y y<|g y c<|ld ti y y<|g y c<|nt y<|g y c<|mv y<|ze6 (j:=7) 4 y y y y y (gps y y c) (fun i=>g y i<|fa ti y y y<|g y i<|ld ti y y<|g y i<|lnI ti y y<|g y i<|gtr ti y y<|zb (egO [37,38,39,40] 4 i y y y y)) orT<|g y c<|mv y<|ze6 (j:=13) 3 y y y y y (gps y y c) (fun m=>g y m<|fa ti y y y<|g y m<|ld ti y y<|g y m<|sne ti y y<|zb (egO [43,44,45] 3 m y y y y)) orT<|zb (egA [33,34,35,36,37,38,39,40,41,42,43,44,45,46] 7 c y y y y)) zhn<|zb ?_
   refine zf y (fun A=>?_) (fun A=>?_)
   ·
    replace h:=bT A h
    refine rg y<|u<|asg y<|zb ?_
    refine zg ?_
    obtain rfl:=sm h
    exact ⟨_,y,zB []⟩
   ·
    replace h:=bF A h
    refine zi ?_
    refine zdk (X:=Bool) (fun z=>[(2,bA z)]) (fun z=>[]) (fun z=>zcM z=some r) ?_ ?_
    ·
     rcases bb (zk a.Locals (zL a) 16) with d |d
     ·
      replace h:=bT d h
      rcases bb (zk a.Stack 0 16) with e |e
      ·
       replace h:=bT e h
       obtain ⟨f,E,h⟩:=bs h
       rcases bb f with l |l
       ·
        replace h:=bT l h
        obtain ⟨s,G,h⟩:=bs h
        rcases bb s with n |n
        ·
         replace h:=bT n h
         obtain ⟨F,H,h⟩:=bs h
         exact zb5 [] [22,21,20,19,18,17,16,15,14,13,12,11,10,9,8,7,6,5,4,3,2,1,0] [(2,bA F),(69,bA F),(68,bA F),(67,.agg (ze a)),(66,bA s),(65,bA s),(64,bA s),(63,.agg (ze a)),(62,bA f),(61,bA f),(60,bA f),(59,.agg (ze a)),(58,bA (zk a.Stack 0 16)),(57,bA (zk a.Stack 0 16)),(56,bA (zk a.Stack 0 16)),(55,iA a.Stack),(54,.mpt 0 0 6),(53,bA (zk a.Locals (zL a) 16)),(52,bA (zk a.Locals (zL a) 16)),(51,iA (zL a)),(50,.agg (ze a)),(49,iA a.Locals),(48,.mpt 0 0 5)] 0 kz kz y kz (zjh ⟨pe,pe,(fun _=>pag (b:=s) y y y y n y (pc (zmr a H) y y y<|w)),pe,pe,pe,(fun _=>pag (b:=f) y y y y l y (pc (zj0 a G) y y y<|w)),pe,pe,pe,(fun _=>pag (b:=(zk a.Stack 0 16)) y y y y e y (pc (zez a E) y y y<|w)),pe,pe,pe,(fun _=>pag (b:=(zk a.Locals (zL a) 16)) y y y y d y (pc (zaH a.Stack 0 16 y) y y y<|w)),pe,pe,pe,(pb y (pc (zaH a.Locals (zL a) 16 y) y y y w)),(pb y (pc (zfM a y) y y y w)),pe,pe,pe,t⟩ ⟨F,h,zq []⟩)
        ·
         replace h:=bF n h
         exact zb5 [] [22,21,20,19,18,17,16,15,14,13,12,11,10,9,8,7,6,5,4,3,2,1,0] [(2,bA false),(69,bA false),(68,.lit undef),(67,.lit undef),(66,bA s),(65,bA s),(64,bA s),(63,.agg (ze a)),(62,bA f),(61,bA f),(60,bA f),(59,.agg (ze a)),(58,bA (zk a.Stack 0 16)),(57,bA (zk a.Stack 0 16)),(56,bA (zk a.Stack 0 16)),(55,iA a.Stack),(54,.mpt 0 0 6),(53,bA (zk a.Locals (zL a) 16)),(52,bA (zk a.Locals (zL a) 16)),(51,iA (zL a)),(50,.agg (ze a)),(49,iA a.Locals),(48,.mpt 0 0 5)] 0 kz kz y kz (zjh ⟨pe,pe,pe,pe,pe,pe,(fun _=>pag (b:=f) y y y y l y (pc (zj0 a G) y y y<|w)),pe,pe,pe,(fun _=>pag (b:=(zk a.Stack 0 16)) y y y y e y (pc (zez a E) y y y<|w)),pe,pe,pe,(fun _=>pag (b:=(zk a.Locals (zL a) 16)) y y y y d y (pc (zaH a.Stack 0 16 y) y y y<|w)),pe,pe,pe,(pb y (pc (zaH a.Locals (zL a) 16 y) y y y w)),(pb y (pc (zfM a y) y y y w)),pe,pe,pe,t⟩ ⟨false,h,zq []⟩)
       ·
        replace h:=bF l h
        exact zb5 [] [22,21,20,19,18,17,16,15,14,13,12,11,10,9,8,7,6,5,4,3,2,1,0] [(2,bA false),(69,bA false),(68,.lit undef),(67,.lit undef),(66,bA false),(65,bA false),(64,.lit undef),(63,.lit undef),(62,bA f),(61,bA f),(60,bA f),(59,.agg (ze a)),(58,bA (zk a.Stack 0 16)),(57,bA (zk a.Stack 0 16)),(56,bA (zk a.Stack 0 16)),(55,iA a.Stack),(54,.mpt 0 0 6),(53,bA (zk a.Locals (zL a) 16)),(52,bA (zk a.Locals (zL a) 16)),(51,iA (zL a)),(50,.agg (ze a)),(49,iA a.Locals),(48,.mpt 0 0 5)] 0 kz kz y kz (zjh ⟨pe,pe,pe,pe,pe,pe,pe,pe,pe,pe,(fun _=>pag (b:=(zk a.Stack 0 16)) y y y y e y (pc (zez a E) y y y<|w)),pe,pe,pe,(fun _=>pag (b:=(zk a.Locals (zL a) 16)) y y y y d y (pc (zaH a.Stack 0 16 y) y y y<|w)),pe,pe,pe,(pb y (pc (zaH a.Locals (zL a) 16 y) y y y w)),(pb y (pc (zfM a y) y y y w)),pe,pe,pe,t⟩ ⟨false,h,zq []⟩)
      ·
       replace h:=bF e h
       exact zb5 [] [22,21,20,19,18,17,16,15,14,13,12,11,10,9,8,7,6,5,4,3,2,1,0] [(2,bA false),(69,bA false),(68,.lit undef),(67,.lit undef),(66,bA false),(65,bA false),(64,.lit undef),(63,.lit undef),(62,bA false),(61,bA false),(60,.lit undef),(59,.lit undef),(58,bA (zk a.Stack 0 16)),(57,bA (zk a.Stack 0 16)),(56,bA (zk a.Stack 0 16)),(55,iA a.Stack),(54,.mpt 0 0 6),(53,bA (zk a.Locals (zL a) 16)),(52,bA (zk a.Locals (zL a) 16)),(51,iA (zL a)),(50,.agg (ze a)),(49,iA a.Locals),(48,.mpt 0 0 5)] 0 kz kz y kz (zjh ⟨pe,pe,pe,pe,pe,pe,pe,pe,pe,pe,pe,pe,pe,pe,(fun _=>pag (b:=(zk a.Locals (zL a) 16)) y y y y d y (pc (zaH a.Stack 0 16 y) y y y<|w)),pe,pe,pe,(pb y (pc (zaH a.Locals (zL a) 16 y) y y y w)),(pb y (pc (zfM a y) y y y w)),pe,pe,pe,t⟩ ⟨false,h,zq []⟩)
     ·
      replace h:=bF d h
      exact zb5 [] [22,21,20,19,18,17,16,15,14,13,12,11,10,9,8,7,6,5,4,3,2,1,0] [(2,bA false),(69,bA false),(68,.lit undef),(67,.lit undef),(66,bA false),(65,bA false),(64,.lit undef),(63,.lit undef),(62,bA false),(61,bA false),(60,.lit undef),(59,.lit undef),(58,bA false),(57,bA false),(56,.lit undef),(55,.lit undef),(54,.lit undef),(53,bA (zk a.Locals (zL a) 16)),(52,bA (zk a.Locals (zL a) 16)),(51,iA (zL a)),(50,.agg (ze a)),(49,iA a.Locals),(48,.mpt 0 0 5)] 0 kz kz y kz (zjh ⟨pe,pe,pe,pe,pe,pe,pe,pe,pe,pe,pe,pe,pe,pe,pe,pe,pe,pe,(pb y (pc (zaH a.Locals (zL a) 16 y) y y y w)),(pb y (pc (zfM a y) y y y w)),pe,pe,pe,t⟩ ⟨false,h,zq []⟩)
    ·
     rintro I h
     replace h:zcM I=some r:=h
     unfold zcM at h
     refine zg ?_
     obtain rfl:=sm h
     exact ⟨_,y,zB []⟩
def zh0(a:zc)(e:T0)(f:T0)(b:Bool)(g:T1)(h:List zh)(i:List zc):Option (Bool):=
  (cond (a.Abstract == b) ((zgk a).bind fun c=>some c) (some false)).bind fun d=>some d
theorem zmo(c:zc)(d:T0)(e:T0)(f:Bool)(i:T1)(l:List zh)(m:List zc){r:Bool}(h:zh0 c d e f i l m=some r):zu Tryz.prog 105 [.agg (ze c),.ipt 6 [[sA d,sA e,bA f,.isl 1 (map zm i),.isl 3 (map zN l),.isl 10 (map ze m)]] 0 0] (bA r):=by
 refine zl Tryz.func105 y kz y y ?_
 unfold zh0 at h
 refine rg y<|u<|bx 0 10 y y y y<|u<|asg y<|zb ?_
 obtain ⟨n,a,h⟩:=bs h
 refine rg y<|u<|fa ti y y y<|u<|ld ti y y<|u<|fa ti y y y<|u<|ld ti y y<|u<|beq ti y y y<|u<|mv y<|zbq (x:=n) (j:=5) 2 y y y y y gpn (fun b=>by replace a:=bT b a;obtain ⟨p,o,a⟩:=bs a;obtain rfl:=sm a;exact g y b<|ld ti y y<|g y b<|pc (zlA c o) y y y<|zb (eg [10,11] 2 y y y y)) (fun hb=>(sm (bF hb a)).symm)<|u<|asg y<|zb ?_
 refine zg ?_
 obtain rfl:=sm h
 exact ⟨_,y,zB []⟩
def zc2(a:zc):T0:=
  a.Name
theorem zjs(a:zc){r:T0}(h:zc2 a=r):zu Tryz.prog 104 [.agg (ze a)] (sA r):=by
 refine zl Tryz.func104 y kz y y ?_
 unfold zc2 at h
 refine rg y<|u<|bx 0 10 y y y y<|u<|asg y<|zb ?_
 refine rg y<|u<|fa ti y y y<|u<|ld ti y y<|u<|asg y<|zb ?_
 refine zg ?_
 obtain rfl:=h
 exact ⟨_,y,zB []⟩
def zel(c:zc)(d:T0)(e:T1)(f:T0)(g:Bool)(h:Bool)(i:Int)(j:Int)(l:List zn)(a:List zaA)(b:List zV):Bool:=
  ((zc2 (zc.mk d e f g h i j l a b)) == (zc2 c))
theorem zhy(c:zc)(d:T0)(e:T1)(f:T0)(g:Bool)(i:Bool)(j:Int)(l:Int)(m:List zn)(a:List zaA)(b:List zV){r:Bool}(h:zel c d e f g i j l m a b=r):zu Tryz.prog 182 [.agg (ze c),.ipt 1 [[.fn (.func 104) [] []]] 0 0,.ipt 10 [[sA d,.isl 1 (map zm e),sA f,bA g,bA i,iA j,iA l,.isl 4 (map zx m),.isl 3 (map zaG a),.isl 4 (map zap b)]] 0 0] (bA r):=by
 refine zl Tryz.func182 y kz y y ?_
 unfold zel at h
 refine rg y<|u<|bx 0 10 y y y y<|u<|asg y<|zb ?_
 refine rdA [(4,bA ((zc2 (zc.mk d e f g i j l m a b)) == (zc2 c)))] [] [] [7,6,5,4,3,2,1,0] [(4,bA ((zc2 (zc.mk d e f g i j l m a b)) == (zc2 c))),(11,bA ((zc2 (zc.mk d e f g i j l m a b)) == (zc2 c))),(10,sA (zc2 c)),(9,.agg (ze c)),(8,.fn (.func 104) [] []),(7,sA (zc2 (zc.mk d e f g i j l m a b))),(6,.agg [sA d,.isl 1 (map zm e),sA f,bA g,bA i,iA j,iA l,.isl 4 (map zx m),.isl 3 (map zaG a),.isl 4 (map zap b)]),(5,.fn (.func 104) [] [])] 0 (zjh ⟨pe,pe,(pb y (pc (zjs c y) y y y w)),pe,pe,(pb y (pc (zjs (zc.mk d e f g i j l m a b) y) y y y w)),pe,pe,t⟩ (zq [])) ?_
 refine zg ?_
 obtain rfl:=h
 exact ⟨_,y,zB []⟩
def zaQ:Option (Int):=
  some (-1)
def zR(b:List zc)(f:T0)(g:T1)(h:T0)(i:Bool)(j:Bool)(l:Int)(m:Int)(n:List zn)(c:List zaA)(d:List zV)(a:Int):Option (Sum (Int) (Sum (Unit) (Int))):=
  cond (decide (a<(length b:Int))) ((idx b a).bind fun e=>cond (zel e f g h i j l m n c d) (some (.inr (.inr a))) (some (.inl (IntKind.i64.wrap (a+1))))) (some (.inr (.inl ())))
def za6(d:List zc)(e:T0)(f:T1)(g:T0)(h:Bool)(i:Bool)(j:Int)(l:Int)(m:List zn)(a:List zaA)(c:List zV):Option (Int):=
  (zz (fun z=>zR d e f g h i j l m a c z) 0).bind fun o=>zaq o (fun b=>zaQ) some
theorem zep(d:List zc)(e:T0)(f:T1)(g:T0)(i:Bool)(j:Bool)(l:Int)(m:Int)(n:List zn)(a:List zaA)(c:List zV){r:Int}(h:za6 d e f g i j l m n a c=some r):zu Tryz.prog 244 [.isl 10 (map ze d),.fn (.func 182) [] [.ipt 1 [[.fn (.func 104) [] []]] 0 0,.ipt 10 [[sA e,.isl 1 (map zm f),sA g,bA i,bA j,iA l,iA m,.isl 4 (map zx n),.isl 3 (map zaG a),.isl 4 (map zap c)]] 0 0]] (iA r):=by
 refine zl Tryz.func244 y kz y y ?_
 unfold za6 at h
 refine rg y<|u<|asg y<|zb ?_
 refine zj ?_
 refine rg y<|u<|mv y<|u<|lnI ti y y<|u<|mv y<|zb ?_
 obtain ⟨o,ho,h⟩:=bs h
 refine zaN (X:=Int) (B:=Unit) (R:=Int) (fun z=>[(0,.isl 10 (map ze d)),(1,.fn (.func 182) [] [.ipt 1 [[.fn (.func 104) [] []]] 0 0,.ipt 10 [[sA e,.isl 1 (map zm f),sA g,bA i,bA j,iA l,iA m,.isl 4 (map zx n),.isl 3 (map zaG a),.isl 4 (map zap c)]] 0 0]),(7,iA (length d:Int)),(8,iA z)]) (fun z=>[]) (fun b=>[]) (fun b=>[]) (fun r env st=>zb6 Tryz.prog Tryz.f244 0 (iA r) [] env st) ho (zq []) ?_ ?_ ?_
 ·
  rintro s r h
  replace h:zR d e f g i j l m n a c s=some r:=h
  unfold zR at h
  refine rg y<|u<|lss ti y y<|zb ?_
  refine zj ?_
  refine zf y (fun p=>?_) (fun p=>?_)
  ·
   replace h:=bT p h
   refine zi ?_
   refine zj ?_
   refine zr ?_
   refine rg y<|u<|mv y<|u<|asg y<|zb ?_
   obtain ⟨v,x,h⟩:=bs h
   refine rg y<|u<|mv y<|u<|mv y<|u<|mv y<|u<|ixI ti y ti y y y x<|u<|ldI ti y (zp x).2.2 y<|u<|pc (zhy v e f g i j l m n a c y) y y y<|zb ?_
   refine zf y (fun q=>?_) (fun q=>?_)
   ·
    replace h:=bT q h
    refine rg y<|u<|mv y<|u<|asg y<|zb ?_
    refine zg ?_
    obtain rfl:=sm h
    exact ⟨_,y,_,y,zB []⟩
   ·
    replace h:=bF q h
    refine zi ?_
    refine rl y<|u<|add ti y y<|u<|mv y<|zb ?_
    obtain rfl:=sm h
    exact ⟨_,y,zq []⟩
  ·
   replace h:=bF p h
   refine zQ ?_
   obtain rfl:=sm h
   exact ⟨y,_,y,zq []⟩
 ·
  rintro ⟨⟩ rfl
  replace h:zaQ=some r:=h
  unfold zaQ at h
  refine zD ?_
  refine rg y<|u<|asg y<|zb ?_
  refine zg ?_
  obtain rfl:=sm h
  exact ⟨_,y,zB []⟩
 ·
  rintro r' rfl env st hp
  obtain rfl:=sm h
  exact hp
def zaf(d:List zc)(e:T0)(f:T1)(g:T0)(h:Bool)(i:Bool)(j:Int)(l:Int)(m:List zn)(a:List zaA)(b:List zV):Option (Bool):=
  (za6 d e f g h i j l m a b).bind fun c=>some (decide (0≤c))
theorem zdR(c:List zc)(d:T0)(e:T1)(f:T0)(g:Bool)(i:Bool)(j:Int)(l:Int)(m:List zn)(a:List zaA)(b:List zV){r:Bool}(h:zaf c d e f g i j l m a b=some r):zu Tryz.prog 181 [.isl 10 (map ze c),.fn (.func 182) [] [.ipt 1 [[.fn (.func 104) [] []]] 0 0,.ipt 10 [[sA d,.isl 1 (map zm e),sA f,bA g,bA i,iA j,iA l,.isl 4 (map zx m),.isl 3 (map zaG a),.isl 4 (map zap b)]] 0 0]] (bA r):=by
 refine zl Tryz.func181 y kz y y ?_
 unfold zaf at h
 refine rg y<|u<|asg y<|zb ?_
 obtain ⟨o,n,h⟩:=bs h
 refine rg y<|u<|mv y<|u<|mv y<|u<|pc (zep c d e f g i j l m a b n) y y y<|u<|geq ti y y<|u<|asg y<|zb ?_
 refine zg ?_
 obtain rfl:=sm h
 exact ⟨_,y,zB []⟩
def zd1(a:List zc)(b:Int):Option (Bool):=
  some (decide ((length a:Int)≤b))
def zcr(c:List zc)(h:T0)(i:T0)(j:Bool)(l:T1)(m:List zh)(n:List zc)(b:Int):Option (Sum (Int) (Sum (Unit) (Bool))):=
  cond (decide (b<(length c:Int))) ((idx c b).bind fun a=>(zh0 a h i j l m n).bind fun d=>(cond (!d) (some true) ((zj3 c 0 b).bind fun e=>(zaf e a.Name a.Params a.Ret a.Static a.Abstract a.Locals a.Stack a.Code a.Maps a.Traps).bind fun f=>some f)).bind fun g=>cond g (some (.inr (.inr false))) (some (.inl (IntKind.i64.wrap (b+1))))) (some (.inr (.inl ())))
def zc6(a:List zc)(c:Int)(d:T0)(e:T0)(f:Bool)(g:T1)(h:List zh)(i:List zc):Option (Bool):=
  (zz (fun z=>zcr a d e f g h i z) 0).bind fun o=>zaq o (fun b=>zd1 a c) some
theorem zh1(f:List zc)(l:Int)(m:T0)(n:T0)(p:Bool)(q:T1)(s:List zh)(v:List zc){r:Bool}(h:zc6 f l m n p q s v=some r):zu Tryz.prog 103 [.isl 10 (map ze f),iA l,.fn (.func 104) [] [],.fn (.func 105) [] [.ipt 6 [[sA m,sA n,bA p,.isl 1 (map zm q),.isl 3 (map zN s),.isl 10 (map ze v)]] 0 0]] (bA r):=by
 refine zl Tryz.func103 y kz y y ?_
 unfold zc6 at h
 refine rg y<|u<|bx 0 1 y y y y<|u<|asg y<|zb ?_
 refine zj ?_
 refine rg y<|u<|mv y<|u<|lnI ti y y<|u<|mv y<|zb ?_
 obtain ⟨o,ho,h⟩:=bs h
 refine zaN (X:=Int) (B:=Unit) (R:=Bool) (fun z=>[(0,.isl 10 (map ze f)),(1,iA l),(3,.fn (.func 105) [] [.ipt 6 [[sA m,sA n,bA p,.isl 1 (map zm q),.isl 3 (map zN s),.isl 10 (map ze v)]] 0 0]),(6,.mpt 0 0 0),(11,.isl 10 (map ze f)),(12,iA (length f:Int)),(13,iA z)]) (fun z=>[some (1,[[.fn (.func 104) [] []]])]) (fun b=>[(0,.isl 10 (map ze f)),(1,iA l)]) (fun b=>[]) (fun r env st=>zb6 Tryz.prog Tryz.f103 0 (bA r) [] env st) ho (zq [.old 0]) ?_ ?_ ?_
 ·
  rintro C r h
  replace h:zcr f m n p q s v C=some r:=h
  unfold zcr at h
  refine rg y<|u<|lss ti y y<|zb ?_
  refine zj ?_
  refine zf y (fun A=>?_) (fun A=>?_)
  ·
   replace h:=bT A h
   refine zi ?_
   refine zj ?_
   refine zr ?_
   obtain ⟨c,D,h⟩:=bs h
   refine rg y<|u<|mv y<|u<|ixI ti y ti y y y D<|u<|ldI ti y (zp D).2.2 y<|u<|al 1 ti y<|u<|asg y<|u<|sto ti y y y<|zb ?_
   obtain ⟨J,F,h⟩:=bs h
   obtain ⟨G,e,h⟩:=bs h
   refine rg y<|u<|mv y<|u<|ld ti y y<|u<|pc (zmo c m n p q s v F) y y y<|u<|nt y<|u<|mv y<|ze6 (x:=G) (j:=4) 5 y y y y y gpn (fun d=>by replace e:=bF d e;obtain ⟨H,E,e⟩:=bs e;obtain ⟨K,I,e⟩:=bs e;obtain rfl:=sm e;exact g y d<|mv y<|g y d<|mv y<|g y d<|slI (a:=0) (b:=C) ti y ti y y y (zob y E) E<|g y d<|mf y y<|g y d<|pcs (zdR H c.Name c.Params c.Ret c.Static c.Abstract c.Locals c.Stack c.Code c.Maps c.Traps I) y y (.cons (si y) (.cons (zd0 t ⟨(zcb y ⟨(si y),t⟩),(zcb y ⟨(si y),(si y),(si y),(si y),(si y),(si y),(si y),(si y),(si y),(si y),t⟩),t⟩) .nil)) zdb<|zb (eg [23,24,25,26,27] 5 y y y y)) (fun hb=>(sm (bT hb e)).symm)<|zb ?_
   refine zf y (fun i=>?_) (fun i=>?_)
   ·
    replace h:=bT i h
    refine rg y<|u<|asg y<|zb ?_
    refine zg ?_
    obtain rfl:=sm h
    exact ⟨_,y,_,y,zB []⟩
   ·
    replace h:=bF i h
    refine zi ?_
    refine rl y<|u<|add ti y y<|u<|mv y<|zb ?_
    obtain rfl:=sm h
    exact ⟨_,y,zq [.old 0]⟩
  ·
   replace h:=bF A h
   refine zQ ?_
   obtain rfl:=sm h
   exact ⟨y,_,y,zq []⟩
 ·
  rintro ⟨⟩ rfl
  replace h:zd1 f l=some r:=h
  unfold zd1 at h
  refine zD ?_
  refine rg y<|u<|mv y<|u<|lnI ti y y<|u<|mv y<|u<|leq ti y y<|u<|asg y<|zb ?_
  refine zg ?_
  obtain rfl:=sm h
  exact ⟨_,y,zB []⟩
 ·
  rintro r' rfl env st hp
  obtain rfl:=sm h
  exact hp
def zdl(a:T0):T0:=
  a
theorem zj1(a:T0){r:T0}(h:zdl a=r):zu Tryz.prog 109 [sA a] (sA r):=by
 refine zl Tryz.func109 y kz y y ?_
 unfold zdl at h
 refine rg y<|u<|asg y<|zb ?_
 refine rg y<|u<|mv y<|u<|asg y<|zb ?_
 refine zg ?_
 obtain rfl:=h
 exact ⟨_,y,zB []⟩
def zfL(a:T0)(b:T0):Bool:=
  ((zdl b) == (zdl a))
theorem ziN(a:T0)(b:T0){r:Bool}(h:zfL a b=r):zu Tryz.prog 192 [sA a,.ipt 1 [[.fn (.func 109) [] []]] 0 0,.ipt 1 [[sA b]] 0 0] (bA r):=by
 refine zl Tryz.func192 y kz y y ?_
 unfold zfL at h
 refine rg y<|u<|asg y<|zb ?_
 refine rdA [(4,bA ((zdl b) == (zdl a)))] [] [] [7,6,5,4,3,2,1,0] [(4,bA ((zdl b) == (zdl a))),(11,bA ((zdl b) == (zdl a))),(10,sA (zdl a)),(9,sA a),(8,.fn (.func 109) [] []),(7,sA (zdl b)),(6,sA b),(5,.fn (.func 109) [] [])] 0 (zjh ⟨pe,pe,(pb y (pc (zj1 a y) y y y w)),pe,pe,(pb y (pc (zj1 b y) y y y w)),pe,pe,t⟩ (zq [])) ?_
 refine zg ?_
 obtain rfl:=h
 exact ⟨_,y,zB []⟩
def zbk:Option (Int):=
  some (-1)
def z8(b:T1)(c:T0)(a:Int):Option (Sum (Int) (Sum (Unit) (Int))):=
  cond (decide (a<(length b:Int))) ((idx b a).bind fun d=>cond (zfL d c) (some (.inr (.inr a))) (some (.inl (IntKind.i64.wrap (a+1))))) (some (.inr (.inl ())))
def zbP(a:T1)(c:T0):Option (Int):=
  (zz (fun z=>z8 a c z) 0).bind fun o=>zaq o (fun b=>zbk) some
theorem zfi(a:T1)(c:T0){r:Int}(h:zbP a c=some r):zu Tryz.prog 110 [.isl 1 (map zm a),.fn (.func 192) [] [.ipt 1 [[.fn (.func 109) [] []]] 0 0,.ipt 1 [[sA c]] 0 0]] (iA r):=by
 refine zl Tryz.func110 y kz y y ?_
 unfold zbP at h
 refine rg y<|u<|asg y<|zb ?_
 refine zj ?_
 refine rg y<|u<|mv y<|u<|lnI ti y y<|u<|mv y<|zb ?_
 obtain ⟨o,ho,h⟩:=bs h
 refine zaN (X:=Int) (B:=Unit) (R:=Int) (fun z=>[(0,.isl 1 (map zm a)),(1,.fn (.func 192) [] [.ipt 1 [[.fn (.func 109) [] []]] 0 0,.ipt 1 [[sA c]] 0 0]),(7,iA (length a:Int)),(8,iA z)]) (fun z=>[]) (fun b=>[]) (fun b=>[]) (fun r env st=>zb6 Tryz.prog Tryz.f110 0 (iA r) [] env st) ho (zq []) ?_ ?_ ?_
 ·
  rintro g r h
  replace h:z8 a c g=some r:=h
  unfold z8 at h
  refine rg y<|u<|lss ti y y<|zb ?_
  refine zj ?_
  refine zf y (fun d=>?_) (fun d=>?_)
  ·
   replace h:=bT d h
   refine zi ?_
   refine zj ?_
   refine zr ?_
   refine rg y<|u<|mv y<|u<|asg y<|zb ?_
   obtain ⟨i,f,h⟩:=bs h
   refine rg y<|u<|mv y<|u<|mv y<|u<|mv y<|u<|ixI ti y ti y y y f<|u<|ldI ti y (zp f).2.2 y<|u<|pc (ziN i c y) y y y<|zb ?_
   refine zf y (fun e=>?_) (fun e=>?_)
   ·
    replace h:=bT e h
    refine rg y<|u<|mv y<|u<|asg y<|zb ?_
    refine zg ?_
    obtain rfl:=sm h
    exact ⟨_,y,_,y,zB []⟩
   ·
    replace h:=bF e h
    refine zi ?_
    refine rl y<|u<|add ti y y<|u<|mv y<|zb ?_
    obtain rfl:=sm h
    exact ⟨_,y,zq []⟩
  ·
   replace h:=bF d h
   refine zQ ?_
   obtain rfl:=sm h
   exact ⟨y,_,y,zq []⟩
 ·
  rintro ⟨⟩ rfl
  replace h:zbk=some r:=h
  unfold zbk at h
  refine zD ?_
  refine rg y<|u<|asg y<|zb ?_
  refine zg ?_
  obtain rfl:=sm h
  exact ⟨_,y,zB []⟩
 ·
  rintro r' rfl env st hp
  obtain rfl:=sm h
  exact hp
def zaB(a:T1)(b:T0):Option (Bool):=
  (zbP a b).bind fun c=>some (decide (0≤c))
theorem zeJ(a:T1)(b:T0){r:Bool}(h:zaB a b=some r):zu Tryz.prog 56 [.isl 1 (map zm a),.fn (.func 192) [] [.ipt 1 [[.fn (.func 109) [] []]] 0 0,.ipt 1 [[sA b]] 0 0]] (bA r):=by
 refine zl Tryz.func56 y kz y y ?_
 unfold zaB at h
 refine rg y<|u<|asg y<|zb ?_
 obtain ⟨d,c,h⟩:=bs h
 refine rg y<|u<|mv y<|u<|mv y<|u<|pc (zfi a b c) y y y<|u<|geq ti y y<|u<|asg y<|zb ?_
 refine zg ?_
 obtain rfl:=sm h
 exact ⟨_,y,zB []⟩
def zfv(a:T1)(b:Int):Option (Bool):=
  some (decide ((length a:Int)≤b))
def zdf(c:T1)(a:Int):Option (Sum (Int) (Sum (Unit) (Bool))):=
  cond (decide (a<(length c:Int))) ((idx c a).bind fun b=>(zeh b).bind fun d=>(cond (!d) (some true) ((zj3 c 0 a).bind fun e=>(zaB e b).bind fun f=>some f)).bind fun g=>cond g (some (.inr (.inr false))) (some (.inl (IntKind.i64.wrap (a+1))))) (some (.inr (.inl ())))
def zd6(a:T1)(c:Int):Option (Bool):=
  (zz (fun z=>zdf a z) 0).bind fun o=>zaq o (fun b=>zfv a c) some
theorem zjz(e:T1)(i:Int){r:Bool}(h:zd6 e i=some r):zu Tryz.prog 108 [.isl 1 (map zm e),iA i,.fn (.func 109) [] [],.fn (.func 107) [] []] (bA r):=by
 refine zl Tryz.func108 y kz y y ?_
 unfold zd6 at h
 refine rg y<|u<|bx 0 1 y y y y<|u<|asg y<|zb ?_
 refine zj ?_
 refine rg y<|u<|mv y<|u<|lnI ti y y<|u<|mv y<|zb ?_
 obtain ⟨o,ho,h⟩:=bs h
 refine zaN (X:=Int) (B:=Unit) (R:=Bool) (fun z=>[(0,.isl 1 (map zm e)),(1,iA i),(3,.fn (.func 107) [] []),(6,.mpt 0 0 0),(11,.isl 1 (map zm e)),(12,iA (length e:Int)),(13,iA z)]) (fun z=>[some (1,[[.fn (.func 109) [] []]])]) (fun b=>[(0,.isl 1 (map zm e)),(1,iA i)]) (fun b=>[]) (fun r env st=>zb6 Tryz.prog Tryz.f108 0 (bA r) [] env st) ho (zq [.old 0]) ?_ ?_ ?_
 ·
  rintro q r h
  replace h:zdf e q=some r:=h
  unfold zdf at h
  refine rg y<|u<|lss ti y y<|zb ?_
  refine zj ?_
  refine zf y (fun l=>?_) (fun l=>?_)
  ·
   replace h:=bT l h
   refine zi ?_
   refine zj ?_
   refine zr ?_
   obtain ⟨m,n,h⟩:=bs h
   refine rg y<|u<|mv y<|u<|ixI ti y ti y y y n<|u<|ldI ti y (zp n).2.2 y<|u<|al 1 ti y<|u<|asg y<|u<|sto ti y y y<|zb ?_
   obtain ⟨D,s,h⟩:=bs h
   obtain ⟨v,d,h⟩:=bs h
   refine rg y<|u<|mv y<|u<|ld ti y y<|u<|pc (zeW m s) y y y<|u<|nt y<|u<|mv y<|ze6 (x:=v) (j:=4) 5 y y y y y gpn (fun c=>by replace d:=bF c d;obtain ⟨A,p,d⟩:=bs d;obtain ⟨E,C,d⟩:=bs d;obtain rfl:=sm d;exact g y c<|mv y<|g y c<|mv y<|g y c<|slI (a:=0) (b:=q) ti y ti y y y (zob y p) p<|g y c<|mf y y<|g y c<|pcs (zeJ A m C) y y (.cons (si y) (.cons (zd0 t ⟨(zcb y ⟨(si y),t⟩),(zcb y ⟨(si y),t⟩),t⟩) .nil)) zdb<|zb (eg [23,24,25,26,27] 5 y y y y)) (fun hb=>(sm (bT hb d)).symm)<|zb ?_
   refine zf y (fun f=>?_) (fun f=>?_)
   ·
    replace h:=bT f h
    refine rg y<|u<|asg y<|zb ?_
    refine zg ?_
    obtain rfl:=sm h
    exact ⟨_,y,_,y,zB []⟩
   ·
    replace h:=bF f h
    refine zi ?_
    refine rl y<|u<|add ti y y<|u<|mv y<|zb ?_
    obtain rfl:=sm h
    exact ⟨_,y,zq [.old 0]⟩
  ·
   replace h:=bF l h
   refine zQ ?_
   obtain rfl:=sm h
   exact ⟨y,_,y,zq []⟩
 ·
  rintro ⟨⟩ rfl
  replace h:zfv e i=some r:=h
  unfold zfv at h
  refine zD ?_
  refine rg y<|u<|mv y<|u<|lnI ti y y<|u<|mv y<|u<|leq ti y y<|u<|asg y<|zb ?_
  refine zg ?_
  obtain rfl:=sm h
  exact ⟨_,y,zB []⟩
 ·
  rintro r' rfl env st hp
  obtain rfl:=sm h
  exact hp
def ziM(a:za):Option (Bool):=
  cond (a.Interface&&((!(a.Super == [79,98,106,101,99,116]))||(decide (0<(length a.Fields:Int))))) (some false) ((zde a.Fields 8).bind fun b=>(zc6 a.Methods 8 a.Name a.Super a.Interface a.Impl a.Fields a.Methods).bind fun c=>(zeh a.Name).bind fun d=>(cond d ((zeh a.Super).bind fun e=>some e) (some false)).bind fun f=>(cond f ((zd6 a.Impl 4).bind fun g=>some g) (some false)).bind fun h=>some ((h&&b)&&c))
theorem zod(a:za){r:Bool}(h:ziM a=some r):zu Tryz.prog 55 [.agg (zd a)] (bA r):=by
 refine zl Tryz.func55 y kz y y ?_
 unfold ziM at h
 refine rg y<|u<|bx 0 6 y y y y<|u<|asg y<|zb ?_
 refine zj ?_
 refine rg y<|u<|fa ti y y y<|u<|ld ti y y<|u<|mv y<|zbq (j:=2) 9 y y y y y gpn (fun b=>g y b<|fa ti y y y<|g y b<|ld ti y y<|g y b<|sne ti y y<|g y b<|mv y<|ze6 (j:=6) 4 y y y y y (gps y y b) (fun e=>g y e<|fa ti y y y<|g y e<|ld ti y y<|g y e<|lnI ti y y<|g y e<|gtr ti y y<|zb (egO [12,13,14,15] 4 e y y y y)) orT<|zb (egA [8,9,10,11,12,13,14,15,16] 5 b y y y y)) zhn<|zb ?_
 refine zf y (fun l=>?_) (fun l=>?_)
 ·
  replace h:=bT l h
  refine rg y<|u<|asg y<|zb ?_
  refine zg ?_
  obtain rfl:=sm h
  exact ⟨_,y,zB []⟩
 ·
  replace h:=bF l h
  refine zi ?_
  obtain ⟨B,p,h⟩:=bs h
  refine rg y<|u<|fa ti y y y<|u<|ld ti y y<|u<|pc (ziB a.Fields 8 p) y y y<|u<|asg y<|zb ?_
  obtain ⟨C,q,h⟩:=bs h
  refine rg y<|u<|fa ti y y y<|u<|ld ti y y<|u<|mf y y<|u<|pcs (zh1 a.Methods 8 a.Name a.Super a.Interface a.Impl a.Fields a.Methods q) y y (.cons (si y) (.cons (si y) (.cons (si y) (.cons (zd0 t ⟨(zcb y ⟨(si y),(si y),(si y),(si y),(si y),(si y),t⟩),t⟩) .nil)))) zdb<|u<|asg y<|zb ?_
  obtain ⟨D,s,h⟩:=bs h
  obtain ⟨v,i,h⟩:=bs h
  obtain ⟨z,c,h⟩:=bs h
  refine rg y<|u<|fa ti y y y<|u<|ld ti y y<|u<|pc (zeW a.Name s) y y y<|u<|mv y<|zbq (x:=v) (j:=3) 3 y y y y y gpn (fun f=>by replace i:=bT f i;obtain ⟨E,A,i⟩:=bs i;obtain rfl:=sm i;exact g y f<|fa ti y y y<|g y f<|ld ti y y<|g y f<|pc (zeW a.Super A) y y y<|zb (eg [29,30,31] 3 y y y y)) (fun hb=>(sm (bF hb i)).symm)<|u<|mv y<|zbq (x:=z) (j:=8) 3 y y y y y gpn (fun d=>by replace c:=bT d c;obtain ⟨F,o,c⟩:=bs c;obtain rfl:=sm c;exact g y d<|fa ti y y y<|g y d<|ld ti y y<|g y d<|pc (zjz a.Impl 4 o) y y y<|zb (eg [34,35,36] 3 y y y y)) (fun hb=>(sm (bF hb c)).symm)<|u<|mv y<|zbq (j:=13) 1 y y y y y gpn (fun m=>g y m<|mv y<|zb (egA [39] 1 m y y y y)) zhn<|u<|mv y<|zbq (j:=16) 1 y y y y y gpn (fun n=>g y n<|mv y<|zb (egA [42] 1 n y y y y)) zhn<|u<|asg y<|zb ?_
  refine zg ?_
  obtain rfl:=sm h
  exact ⟨_,y,zB []⟩
def zhx(a:zc)(b:T0):Bool:=
  (a.Name == b)
theorem zkw(a:zc)(b:T0){r:Bool}(h:zhx a b=r):zu Tryz.prog 268 [.agg (ze a),.ipt 1 [[sA b]] 0 0] (bA r):=by
 refine zl Tryz.func268 y kz y y ?_
 unfold zhx at h
 refine rg y<|u<|bx 0 10 y y y y<|u<|asg y<|zb ?_
 refine rg y<|u<|fa ti y y y<|u<|ld ti y y<|u<|ld ti y y<|u<|seq ti y y<|u<|asg y<|zb ?_
 refine zg ?_
 obtain rfl:=h
 exact ⟨_,y,zB []⟩
def zav:Option (Int):=
  some (-1)
def zH(b:List zc)(c:T0)(a:Int):Option (Sum (Int) (Sum (Unit) (Int))):=
  cond (decide (a<(length b:Int))) ((idx b a).bind fun d=>cond (zhx d c) (some (.inr (.inr a))) (some (.inl (IntKind.i64.wrap (a+1))))) (some (.inr (.inl ())))
def zaR(a:List zc)(c:T0):Option (Int):=
  (zz (fun z=>zH a c z) 0).bind fun o=>zaq o (fun b=>zav) some
theorem zdS(a:List zc)(c:T0){r:Int}(h:zaR a c=some r):zu Tryz.prog 244 [.isl 10 (map ze a),.fn (.func 268) [] [.ipt 1 [[sA c]] 0 0]] (iA r):=by
 refine zl Tryz.func244 y kz y y ?_
 unfold zaR at h
 refine rg y<|u<|asg y<|zb ?_
 refine zj ?_
 refine rg y<|u<|mv y<|u<|lnI ti y y<|u<|mv y<|zb ?_
 obtain ⟨o,ho,h⟩:=bs h
 refine zaN (X:=Int) (B:=Unit) (R:=Int) (fun z=>[(0,.isl 10 (map ze a)),(1,.fn (.func 268) [] [.ipt 1 [[sA c]] 0 0]),(7,iA (length a:Int)),(8,iA z)]) (fun z=>[]) (fun b=>[]) (fun b=>[]) (fun r env st=>zb6 Tryz.prog Tryz.f244 0 (iA r) [] env st) ho (zq []) ?_ ?_ ?_
 ·
  rintro g r h
  replace h:zH a c g=some r:=h
  unfold zH at h
  refine rg y<|u<|lss ti y y<|zb ?_
  refine zj ?_
  refine zf y (fun d=>?_) (fun d=>?_)
  ·
   replace h:=bT d h
   refine zi ?_
   refine zj ?_
   refine zr ?_
   refine rg y<|u<|mv y<|u<|asg y<|zb ?_
   obtain ⟨i,f,h⟩:=bs h
   refine rg y<|u<|mv y<|u<|mv y<|u<|mv y<|u<|ixI ti y ti y y y f<|u<|ldI ti y (zp f).2.2 y<|u<|pc (zkw i c y) y y y<|zb ?_
   refine zf y (fun e=>?_) (fun e=>?_)
   ·
    replace h:=bT e h
    refine rg y<|u<|mv y<|u<|asg y<|zb ?_
    refine zg ?_
    obtain rfl:=sm h
    exact ⟨_,y,_,y,zB []⟩
   ·
    replace h:=bF e h
    refine zi ?_
    refine rl y<|u<|add ti y y<|u<|mv y<|zb ?_
    obtain rfl:=sm h
    exact ⟨_,y,zq []⟩
  ·
   replace h:=bF d h
   refine zQ ?_
   obtain rfl:=sm h
   exact ⟨y,_,y,zq []⟩
 ·
  rintro ⟨⟩ rfl
  replace h:zav=some r:=h
  unfold zav at h
  refine zD ?_
  refine rg y<|u<|asg y<|zb ?_
  refine zg ?_
  obtain rfl:=sm h
  exact ⟨_,y,zB []⟩
 ·
  rintro r' rfl env st hp
  obtain rfl:=sm h
  exact hp
def zdp(a:za)(b:T0):Option (Int):=
  (zaR a.Methods b).bind fun c=>some c
theorem zfK(a:za)(b:T0){r:Int}(h:zdp a b=some r):zu Tryz.prog 232 [.agg (zd a),sA b] (iA r):=by
 refine zl Tryz.func232 y kz y y ?_
 unfold zdp at h
 refine rg y<|u<|bx 0 6 y y y y<|u<|bx 1 1 y y y y<|u<|asg y<|zb ?_
 obtain ⟨d,c,h⟩:=bs h
 refine rg y<|u<|fa ti y y y<|u<|ld ti y y<|u<|mf y y<|u<|pcs (zdS a.Methods b c) y y (.cons (si y) (.cons (zd0 t ⟨(zcb y ⟨(si y),t⟩),t⟩) .nil)) zdb<|u<|asg y<|zb ?_
 refine zg ?_
 obtain rfl:=sm h
 exact ⟨_,y,zB []⟩
def zhZ(a:zh)(b:T0):Bool:=
  (a.Name == b)
theorem zk7(a:zh)(b:T0){r:Bool}(h:zhZ a b=r):zu Tryz.prog 269 [.agg (zN a),.ipt 1 [[sA b]] 0 0] (bA r):=by
 refine zl Tryz.func269 y kz y y ?_
 unfold zhZ at h
 refine rg y<|u<|bx 0 3 y y y y<|u<|asg y<|zb ?_
 refine rg y<|u<|fa ti y y y<|u<|ld ti y y<|u<|ld ti y y<|u<|seq ti y y<|u<|asg y<|zb ?_
 refine zg ?_
 obtain rfl:=h
 exact ⟨_,y,zB []⟩
def zaI:Option (Int):=
  some (-1)
def zO(b:List zh)(c:T0)(a:Int):Option (Sum (Int) (Sum (Unit) (Int))):=
  cond (decide (a<(length b:Int))) ((idx b a).bind fun d=>cond (zhZ d c) (some (.inr (.inr a))) (some (.inl (IntKind.i64.wrap (a+1))))) (some (.inr (.inl ())))
def za1(a:List zh)(c:T0):Option (Int):=
  (zz (fun z=>zO a c z) 0).bind fun o=>zaq o (fun b=>zaI) some
theorem zeb(a:List zh)(c:T0){r:Int}(h:za1 a c=some r):zu Tryz.prog 241 [.isl 3 (map zN a),.fn (.func 269) [] [.ipt 1 [[sA c]] 0 0]] (iA r):=by
 refine zl Tryz.func241 y kz y y ?_
 unfold za1 at h
 refine rg y<|u<|asg y<|zb ?_
 refine zj ?_
 refine rg y<|u<|mv y<|u<|lnI ti y y<|u<|mv y<|zb ?_
 obtain ⟨o,ho,h⟩:=bs h
 refine zaN (X:=Int) (B:=Unit) (R:=Int) (fun z=>[(0,.isl 3 (map zN a)),(1,.fn (.func 269) [] [.ipt 1 [[sA c]] 0 0]),(7,iA (length a:Int)),(8,iA z)]) (fun z=>[]) (fun b=>[]) (fun b=>[]) (fun r env st=>zb6 Tryz.prog Tryz.f241 0 (iA r) [] env st) ho (zq []) ?_ ?_ ?_
 ·
  rintro g r h
  replace h:zO a c g=some r:=h
  unfold zO at h
  refine rg y<|u<|lss ti y y<|zb ?_
  refine zj ?_
  refine zf y (fun d=>?_) (fun d=>?_)
  ·
   replace h:=bT d h
   refine zi ?_
   refine zj ?_
   refine zr ?_
   refine rg y<|u<|mv y<|u<|asg y<|zb ?_
   obtain ⟨i,f,h⟩:=bs h
   refine rg y<|u<|mv y<|u<|mv y<|u<|mv y<|u<|ixI ti y ti y y y f<|u<|ldI ti y (zp f).2.2 y<|u<|pc (zk7 i c y) y y y<|zb ?_
   refine zf y (fun e=>?_) (fun e=>?_)
   ·
    replace h:=bT e h
    refine rg y<|u<|mv y<|u<|asg y<|zb ?_
    refine zg ?_
    obtain rfl:=sm h
    exact ⟨_,y,_,y,zB []⟩
   ·
    replace h:=bF e h
    refine zi ?_
    refine rl y<|u<|add ti y y<|u<|mv y<|zb ?_
    obtain rfl:=sm h
    exact ⟨_,y,zq []⟩
  ·
   replace h:=bF d h
   refine zQ ?_
   obtain rfl:=sm h
   exact ⟨y,_,y,zq []⟩
 ·
  rintro ⟨⟩ rfl
  replace h:zaI=some r:=h
  unfold zaI at h
  refine zD ?_
  refine rg y<|u<|asg y<|zb ?_
  refine zg ?_
  obtain rfl:=sm h
  exact ⟨_,y,zB []⟩
 ·
  rintro r' rfl env st hp
  obtain rfl:=sm h
  exact hp
def zgS(a:za)(b:T0):Option (Int):=
  (za1 a.Fields b).bind fun c=>some c
theorem zml(a:za)(b:T0){r:Int}(h:zgS a b=some r):zu Tryz.prog 233 [.agg (zd a),sA b] (iA r):=by
 refine zl Tryz.func233 y kz y y ?_
 unfold zgS at h
 refine rg y<|u<|bx 0 6 y y y y<|u<|bx 1 1 y y y y<|u<|asg y<|zb ?_
 obtain ⟨d,c,h⟩:=bs h
 refine rg y<|u<|fa ti y y y<|u<|ld ti y y<|u<|mf y y<|u<|pcs (zeb a.Fields b c) y y (.cons (si y) (.cons (zd0 t ⟨(zcb y ⟨(si y),t⟩),t⟩) .nil)) zdb<|u<|asg y<|zb ?_
 refine zg ?_
 obtain rfl:=sm h
 exact ⟨_,y,zB []⟩
def zhc:Option (Bool):=
  some true
def zdP(b:T1)(c:T1)(a:Int):Option (Sum (Int) (Sum (Unit) (Bool))):=
  cond (decide (a<(length b:Int))) ((idx b a).bind fun d=>(idx c a).bind fun e=>cond (!(d == e)) (some (.inr (.inr false))) (some (.inl (IntKind.i64.wrap (a+1))))) (some (.inr (.inl ())))
def zgu(a:T1)(c:T1):Option (Bool):=
  cond (!((length a:Int) == (length c:Int))) (some false) ((zz (fun z=>zdP a c z) 0).bind fun o=>zaq o (fun b=>zhc) some)
theorem zl5(a:T1)(c:T1){r:Bool}(h:zgu a c=some r):zu Tryz.prog 50 [.isl 1 (map zm a),.isl 1 (map zm c)] (bA r):=by
 refine zl Tryz.func50 y kz y y ?_
 unfold zgu at h
 refine rg y<|u<|asg y<|zb ?_
 refine zj ?_
 refine rg y<|u<|mv y<|u<|lnI ti y y<|u<|mv y<|u<|lnI ti y y<|u<|neq ti y y<|zb ?_
 refine zf y (fun e=>?_) (fun e=>?_)
 ·
  replace h:=bT e h
  refine rg y<|u<|asg y<|zb ?_
  refine zg ?_
  obtain rfl:=sm h
  exact ⟨_,y,zB []⟩
 ·
  replace h:=bF e h
  refine zi ?_
  refine zj ?_
  refine rg y<|u<|asg y<|zb ?_
  obtain ⟨o,ho,h⟩:=bs h
  refine zaN (X:=Int) (B:=Unit) (R:=Bool) (fun z=>[(0,.isl 1 (map zm a)),(1,.isl 1 (map zm c)),(5,iA z)]) (fun z=>[]) (fun b=>[]) (fun b=>[]) (fun r env st=>zb6 Tryz.prog Tryz.f50 0 (bA r) [] env st) ho (zq []) ?_ ?_ ?_
  ·
   rintro d r h
   replace h:zdP a c d=some r:=h
   unfold zdP at h
   refine zj ?_
   refine rg y<|u<|mv y<|u<|mv y<|u<|lnI ti y y<|u<|lss ti y y<|zb ?_
   refine zf y (fun f=>?_) (fun f=>?_)
   ·
    replace h:=bT f h
    refine zi ?_
    refine zj ?_
    refine zr ?_
    obtain ⟨i,l,h⟩:=bs h
    obtain ⟨j,m,h⟩:=bs h
    refine rdA [(0,.isl 1 (map zm a)),(1,.isl 1 (map zm c)),(5,iA d),(25,bA (!(i == j)))] [] [] [8,7,6,5,4,3,2,1,0] [(25,bA (!(i == j))),(24,sA j),(23,.ipt 1 (map zm c) (Int.toNat d) 0),(22,iA d),(21,.isl 1 (map zm c)),(20,sA i),(19,.ipt 1 (map zm a) (Int.toNat d) 0),(18,iA d),(17,.isl 1 (map zm a))] 0 (zjh ⟨pe,(pb y (ldI ti y (zp m).2.2 y w)),(pb y (ixI ti y ti y y y m w)),pe,pe,(pb y (ldI ti y (zp l).2.2 y w)),(pb y (ixI ti y ti y y y l w)),pe,pe,t⟩ (zq [])) ?_
    refine zf y (fun g=>?_) (fun g=>?_)
    ·
     replace h:=bT g h
     refine rg y<|u<|asg y<|zb ?_
     refine zg ?_
     obtain rfl:=sm h
     exact ⟨_,y,_,y,zB []⟩
    ·
     replace h:=bF g h
     refine zi ?_
     refine rl y<|u<|mv y<|u<|add ti y y<|u<|asg y<|zb ?_
     obtain rfl:=sm h
     exact ⟨_,y,zq []⟩
   ·
    replace h:=bF f h
    refine zQ ?_
    obtain rfl:=sm h
    exact ⟨y,_,y,zq []⟩
  ·
   rintro ⟨⟩ rfl
   replace h:zhc=some r:=h
   unfold zhc at h
   refine zD ?_
   refine rg y<|u<|asg y<|zb ?_
   refine zg ?_
   obtain rfl:=sm h
   exact ⟨_,y,zB []⟩
  ·
   rintro r' rfl env st hp
   obtain rfl:=sm h
   exact hp
structure zy where
  l:List za
  at_:T2
def zcf(x:zy):List AV:=[.isl 6 (map zd x.l),.imp (map (rKV (fun x=>iA x)) x.at_)]
def zce:T1:=
  ([[79,98,106,101,99,116],[84,104,114,111,119,110],[78,117,108,108,69,114,114],[82,97,110,103,101,69,114,114],[77,97,116,104,69,114,114],[67,97,115,116,69,114,114],[83,105,122,101,69,114,114],[83,116,111,114,101,69,114,114],[73,110,105,116,69,114,114],[67,108,97,115,115,69,114,114]])
theorem znn{r:T1}(h:zce=r):SC Tryz.prog 62 [] [] (.msl 0 0 (length r)) [.many 1 (map zm r)]:=by
 refine ⟨⟨zhi (sz:=1) (fun _=>y),t⟩,zbE Tryz.func62 y kz y ?_⟩
 unfold zce at h
 refine rg y<|u<|asg y<|zb ?_
 refine rg y<|u<|bl 0 ti y ti y (by decide) (by decide) y y y<|u<|asg y<|zb ?_
 refine zg ?_
 obtain rfl:=h
 exact ⟨_,y,zB [.old 0]⟩
def zif(a:List za):Option ((List za)):=
  some a
def zfT(c:List za)(d:Int)(e:T0)(a:T0):Option (Sum ((List za)×Int) (Sum ((List za)) ((List za)))):=
  (ziA 112 c ([(za.mk e a false [] [] [])])).bind fun b=>some (.inl (b,(IntKind.i64.wrap (d+1))))
def zih(b:List za)(a:Int):Option (Sum ((List za)×Int) (Sum ((List za)) ((List za)))):=
  cond (decide (a<((length (zce)):Int))) ((idx (zce) a).bind fun c=>cond (decide (a<2)) ((idx ([[],[79,98,106,101,99,116]]) a).bind fun d=>zfT b a c d) (zfT b a c [84,104,114,111,119,110])) (some (.inr (.inl b)))
def zje:Option ((List za)):=
  (zz (fun z=>zih z.1 z.2) ([],0)).bind fun o=>zaq o (fun b=>zif b) some
theorem znq{r:(List za)}(h:zje=some r):SC Tryz.prog 54 [] [] (.msl 0 0 (length r)) [.many 6 (map zd r)]:=by
 refine ⟨⟨zhi (sz:=6) (fun _=>y),t⟩,zbE Tryz.func54 y kz y ?_⟩
 unfold zje at h
 refine rg y<|u<|asg y<|zb ?_
 refine rg y<|u<|asg y<|zb ?_
 refine zj ?_
 refine rg y<|u<|sx [] (znn y)<|zK (env0:=[(1,.lit (.slice none 0 0)),(5,.msl 0 0 (length (zce)))]) (st0:=[some (1,map zm (zce))]) (zq [.old 0])<|u<|lnM ti y y y<|u<|mv y<|zb ?_
 obtain ⟨o,ho,h⟩:=bs h
 refine zaN (X:=(List za)×Int) (B:=(List za)) (R:=(List za)) (fun z=>[(1,.msl 0 0 (length z.1)),(5,.msl 1 0 (length (zce))),(6,iA ((length (zce)):Int)),(7,iA z.2)]) (fun z=>[some (6,map zd z.1),some (1,map zm (zce))]) (fun b=>[(1,.msl 0 0 (length b))]) (fun b=>[some (6,map zd b)]) (fun r env st=>zb6 Tryz.prog Tryz.f54 0 (.msl 0 0 (length r)) [some (6,map zd r)] env st) ho ⟨[.fresh 6,.old 0],cv y (.nilown y)<|cv y (.msl y)<|ce y y<|ce y y<|cn,y,⟨w,⟨_,y,zmG (fun _=>y)⟩,t⟩,y,k⟩ ?_ ?_ ?_
 ·
  rintro ⟨a,c⟩ r h
  replace h:zih a c=some r:=h
  unfold zih at h
  refine rg y<|u<|lss ti y y<|zb ?_
  refine zj ?_
  refine zf y (fun e=>?_) (fun e=>?_)
  ·
   replace h:=bT e h
   refine zi ?_
   refine zj ?_
   refine zr ?_
   obtain ⟨d,i,h⟩:=bs h
   refine rg y<|u<|mv y<|u<|ixM ti y ti y y y y i<|u<|ldM ti y y (zp i).2.2 y<|u<|asg y<|u<|asg y<|zb ?_
   refine rg y<|u<|mv y<|u<|bd ti y y y<|u<|al 2 ti y<|u<|sto ti y y y<|zb ?_
   refine zdk (X:=T0) (fun z=>[(1,.msl 0 0 (length a)),(4,.mpt 1 0 0),(5,.msl 2 0 (length (zce))),(6,iA ((length (zce)):Int)),(7,iA c)]) (fun z=>[some (6,map zd a),some (6,[[sA d,sA z,bA false,.lit (.slice none 0 0),.lit (.slice none 0 0),.lit (.slice none 0 0)]]),some (1,map zm (zce))]) (fun z=>zfT a c d z=some r) ?_ ?_
   ·
    refine rg y<|u<|mv y<|u<|lss ti y y<|zb ?_
    refine zf y (fun f=>?_) (fun f=>?_)
    ·
     replace h:=bT f h
     obtain ⟨m,j,h⟩:=bs h
     exact rl y<|u<|bl 3 ti y ti y (by decide) (by decide) y y y<|u<|mv y<|zK (env0:=[(1,.msl 0 0 (length a)),(4,.mpt 1 0 0),(5,.msl 2 0 (length (zce))),(6,iA ((length (zce)):Int)),(7,iA c),(16,.msl 3 0 (length ([[],[79,98,106,101,99,116]]))),(17,iA c)]) (st0:=[some (6,map zd a),some (6,[[sA d,sA [84,104,114,111,119,110],bA false,.lit (.slice none 0 0),.lit (.slice none 0 0),.lit (.slice none 0 0)]]),some (1,map zm (zce)),some (1,map zm ([[],[79,98,106,101,99,116]]))]) (zq [.old 0,.old 2,.old 1,.old 3])<|u<|ixM ti y ti y y y y j<|u<|ldM ti y y (zp j).2.2 y<|u<|fa ti y y y<|u<|sto ti y y y<|zb (⟨m,h,zq [.old 0,.old 1,.old 2]⟩)
    ·
     replace h:=bF f h
     refine zi ?_
     exact ⟨[84,104,114,111,119,110],h,zq [.old 0,.old 2,.old 1]⟩
   ·
    rintro g h
    replace h:zfT a c d g=some r:=h
    unfold zfT at h
    obtain ⟨p,n,h⟩:=bs h
    refine rl y<|u<|mv y<|u<|ld ti y y<|u<|bl 3 ti y ti y (by decide) (by decide) y y y<|zK (env0:=[(5,.msl 0 0 (length (zce))),(6,iA ((length (zce)):Int)),(7,iA c),(21,.msl 1 0 (length a)),(23,.msl 2 0 (length ([(za.mk d g false [] [] [])])))]) (st0:=[some (1,map zm (zce)),some (6,map zd a),some (6,map zd ([(za.mk d g false [] [] [])]))]) (zq [.old 2,.old 0,.old 3])<|u<|apM 3 ti y ti y y (by decide) ti y y y y (roM y) (fun _=>y) y n<|u<|asg y<|zb ?_
    refine rl y<|u<|add ti y y<|u<|mv y<|zb ?_
    obtain rfl:=sm h
    exact ⟨_,y,zq [.old 3,.old 0]⟩
  ·
   replace h:=bF e h
   refine zQ ?_
   obtain rfl:=sm h
   exact ⟨y,_,y,zq [.old 0]⟩
 ·
  rintro l rfl
  replace h:zif l=some r:=h
  unfold zif at h
  refine zD ?_
  refine rg y<|u<|mv y<|u<|asg y<|zb ?_
  refine zg ?_
  obtain rfl:=sm h
  exact ⟨_,y,zB [.old 0]⟩
 ·
  rintro r' rfl env st hp
  obtain rfl:=sm h
  exact hp
def zf7(a:za):Option (T1):=
  (ziA 16 [a.Super] a.Impl).bind fun b=>some b
theorem zie(a:za){r:T1}(h:zf7 a=some r):SC Tryz.prog 57 [.agg (zd a)] [] (.msl 0 0 (length r)) [.many 1 (map zm r)]:=by
 refine ⟨⟨zhi (sz:=1) (fun _=>y),t⟩,zbE Tryz.func57 y kz y ?_⟩
 unfold zf7 at h
 refine rg y<|u<|bx 0 6 y y y y<|u<|asg y<|zb ?_
 obtain ⟨c,b,h⟩:=bs h
 refine rg y<|u<|fa ti y y y<|u<|ld ti y y<|u<|bl 1 ti y ti y (by decide) (by decide) y y y<|u<|fa ti y y y<|u<|ld ti y y<|u<|apM (l:=[a.Super]) (f:=zm) 2 ti y ti y y (by decide) ti y y y y roI (fun _=>y) y b<|u<|asg y<|zb ?_
 refine zg ?_
 obtain rfl:=sm h
 exact ⟨_,y,zB [.old 2]⟩
def zbL(c:List za)(a:T2)(b:T0):Bool:=
  (Option.isSome (zcj b a))
theorem zd9(b:List za)(a:T2)(c:T0){r:Bool}(h:zbL b a c=r):zu Tryz.prog 59 [.ipt 2 [[.isl 6 (map zd b),.imp (map (rKV (fun x=>iA x)) a)]] 0 0,sA c] (bA r):=by
 refine zl Tryz.func59 y kz y y ?_
 unfold zbL at h
 refine rg y<|u<|asg y<|zb ?_
 refine zj ?_
 refine rg y<|u<|mv y<|u<|eqp ti y y y y y y<|zb ?_
 refine zf y (fun hx=>by cases hx) (fun _=>?_)
 refine zi ?_
 refine rg y<|u<|mv y<|u<|nc y y<|u<|fa ti y y y<|u<|ld ti y y<|u<|mv y<|u<|zxD (g:=(fun x=>iA x)) (z:=0) (l:=a) y ti y y y y<|u<|mv y<|u<|ex y y<|u<|ex y y<|u<|asg y<|u<|asg y<|zb ?_
 refine rg y<|u<|mv y<|u<|asg y<|zb ?_
 refine zg ?_
 obtain rfl:=h
 exact ⟨_,y,zB []⟩
def zjd(a:T0)(b:List za)(c:T2):Bool:=
  (!(zbL b c a))
theorem zno(a:T0)(b:List za)(c:T2){r:Bool}(h:zjd a b c=r):zu Tryz.prog 58 [sA a,.ipt 1 [[.ipt 2 [[.isl 6 (map zd b),.imp (map (rKV (fun x=>iA x)) c)]] 0 0]] 0 0] (bA r):=by
 refine zl Tryz.func58 y kz y y ?_
 unfold zjd at h
 refine rg y<|u<|asg y<|zb ?_
 refine rg y<|u<|ld ti y y<|u<|mv y<|u<|pc (zd9 b c a y) y y y<|u<|nt y<|u<|asg y<|zb ?_
 refine zg ?_
 obtain rfl:=h
 exact ⟨_,y,zB []⟩
def zbl:Option (Int):=
  some (-1)
def zaa(b:T1)(c:List za)(d:T2)(a:Int):Option (Sum (Int) (Sum (Unit) (Int))):=
  cond (decide (a<(length b:Int))) ((idx b a).bind fun e=>cond (zjd e c d) (some (.inr (.inr a))) (some (.inl (IntKind.i64.wrap (a+1))))) (some (.inr (.inl ())))
def zbQ(a:T1)(c:List za)(d:T2):Option (Int):=
  (zz (fun z=>zaa a c d z) 0).bind fun o=>zaq o (fun b=>zbl) some
theorem zfj(a:T1)(c:List za)(d:T2){r:Int}(h:zbQ a c d=some r):zu Tryz.prog 110 [.isl 1 (map zm a),.fn (.func 58) [] [.ipt 1 [[.ipt 2 [[.isl 6 (map zd c),.imp (map (rKV (fun x=>iA x)) d)]] 0 0]] 0 0]] (iA r):=by
 refine zl Tryz.func110 y kz y y ?_
 unfold zbQ at h
 refine rg y<|u<|asg y<|zb ?_
 refine zj ?_
 refine rg y<|u<|mv y<|u<|lnI ti y y<|u<|mv y<|zb ?_
 obtain ⟨o,ho,h⟩:=bs h
 refine zaN (X:=Int) (B:=Unit) (R:=Int) (fun z=>[(0,.isl 1 (map zm a)),(1,.fn (.func 58) [] [.ipt 1 [[.ipt 2 [[.isl 6 (map zd c),.imp (map (rKV (fun x=>iA x)) d)]] 0 0]] 0 0]),(7,iA (length a:Int)),(8,iA z)]) (fun z=>[]) (fun b=>[]) (fun b=>[]) (fun r env st=>zb6 Tryz.prog Tryz.f110 0 (iA r) [] env st) ho (zq []) ?_ ?_ ?_
 ·
  rintro i r h
  replace h:zaa a c d i=some r:=h
  unfold zaa at h
  refine rg y<|u<|lss ti y y<|zb ?_
  refine zj ?_
  refine zf y (fun e=>?_) (fun e=>?_)
  ·
   replace h:=bT e h
   refine zi ?_
   refine zj ?_
   refine zr ?_
   refine rg y<|u<|mv y<|u<|asg y<|zb ?_
   obtain ⟨j,g,h⟩:=bs h
   refine rg y<|u<|mv y<|u<|mv y<|u<|mv y<|u<|ixI ti y ti y y y g<|u<|ldI ti y (zp g).2.2 y<|u<|pc (zno j c d y) y y y<|zb ?_
   refine zf y (fun f=>?_) (fun f=>?_)
   ·
    replace h:=bT f h
    refine rg y<|u<|mv y<|u<|asg y<|zb ?_
    refine zg ?_
    obtain rfl:=sm h
    exact ⟨_,y,_,y,zB []⟩
   ·
    replace h:=bF f h
    refine zi ?_
    refine rl y<|u<|add ti y y<|u<|mv y<|zb ?_
    obtain rfl:=sm h
    exact ⟨_,y,zq []⟩
  ·
   replace h:=bF e h
   refine zQ ?_
   obtain rfl:=sm h
   exact ⟨y,_,y,zq []⟩
 ·
  rintro ⟨⟩ rfl
  replace h:zbl=some r:=h
  unfold zbl at h
  refine zD ?_
  refine rg y<|u<|asg y<|zb ?_
  refine zg ?_
  obtain rfl:=sm h
  exact ⟨_,y,zB []⟩
 ·
  rintro r' rfl env st hp
  obtain rfl:=sm h
  exact hp
def zaC(a:T1)(b:List za)(c:T2):Option (Bool):=
  (zbQ a b c).bind fun d=>some (decide (0≤d))
theorem zeK(a:T1)(b:List za)(c:T2){r:Bool}(h:zaC a b c=some r):zu Tryz.prog 56 [.isl 1 (map zm a),.fn (.func 58) [] [.ipt 1 [[.ipt 2 [[.isl 6 (map zd b),.imp (map (rKV (fun x=>iA x)) c)]] 0 0]] 0 0]] (bA r):=by
 refine zl Tryz.func56 y kz y y ?_
 unfold zaC at h
 refine rg y<|u<|asg y<|zb ?_
 obtain ⟨e,d,h⟩:=bs h
 refine rg y<|u<|mv y<|u<|mv y<|u<|pc (zfj a b c d) y y y<|u<|geq ti y y<|u<|asg y<|zb ?_
 refine zg ?_
 obtain rfl:=sm h
 exact ⟨_,y,zB []⟩
def zct(a:List za)(b:T2)(c:T0):Option (za):=
  (idx a (Option.getD (zcj c b) 0)).bind fun d=>some d
theorem zdm(b:List za)(a:T2)(c:T0){r:za}(h:zct b a c=some r):zu Tryz.prog 111 [.ipt 2 [[.isl 6 (map zd b),.imp (map (rKV (fun x=>iA x)) a)]] 0 0,sA c] (.agg (zd r)):=by
 refine zl Tryz.func111 y kz y y ?_
 unfold zct at h
 refine rg y<|u<|al 0 ti y<|zb ?_
 obtain ⟨d,e,h⟩:=bs h
 refine rdA [(4,.mpt 0 0 0)] [some (6,[(zd d)])] [12] [11,10,9,8,7,6,5,4,3,2,1,0] [(16,.agg (zd d)),(15,.ipt 6 (map zd b) (Int.toNat (Option.getD (zcj c a) 0)) 0),(14,iA (Option.getD (zcj c a) 0)),(13,sA c),(12,.imp (map (rKV (fun x=>iA x)) a)),(11,.ipt 2 [[.isl 6 (map zd b),.imp (map (rKV (fun x=>iA x)) a)]] 0 1),(10,.ipt 2 [[.isl 6 (map zd b),.imp (map (rKV (fun x=>iA x)) a)]] 0 0),(9,.ipt 2 [[.isl 6 (map zd b),.imp (map (rKV (fun x=>iA x)) a)]] 0 0),(8,.isl 6 (map zd b)),(7,.ipt 2 [[.isl 6 (map zd b),.imp (map (rKV (fun x=>iA x)) a)]] 0 0),(6,.ipt 2 [[.isl 6 (map zd b),.imp (map (rKV (fun x=>iA x)) a)]] 0 0),(5,.ipt 2 [[.isl 6 (map zd b),.imp (map (rKV (fun x=>iA x)) a)]] 0 0)] 1 (ziH ⟨(pb y (ldI ti y (zp e).2.2 y w)),(pb y (ixI ti y ti y y y e w)),(pb y (zxP (g:=(fun x=>iA x)) (z:=0) (l:=a) y ti y y y y w)),pe,pe,pe,pe,pe,pe,pe,pe,pe,t⟩ ⟨(fun _ _=>⟨_,y,y,sto ti y y y<|⟨.any,[],[],y,y,kz,t,zlb (zq [.old 0])⟩⟩),t⟩) ?_
 refine zg ?_
 obtain rfl:=sm h
 exact ⟨_,y,zB []⟩
def zfr(a:T0)(b:List za)(c:T2):Option (Bool):=
  (zct b c a).bind fun d=>some (!d.Interface)
theorem zjH(a:T0)(b:List za)(c:T2){r:Bool}(h:zfr a b c=some r):zu Tryz.prog 112 [sA a,.ipt 1 [[.ipt 2 [[.isl 6 (map zd b),.imp (map (rKV (fun x=>iA x)) c)]] 0 0]] 0 0] (bA r):=by
 refine zl Tryz.func112 y kz y y ?_
 unfold zfr at h
 refine rg y<|u<|asg y<|zb ?_
 obtain ⟨e,d,h⟩:=bs h
 refine rg y<|u<|ld ti y y<|u<|mv y<|u<|pc (zdm b c a d) y y y<|u<|fdV y y<|u<|nt y<|u<|asg y<|zb ?_
 refine zg ?_
 obtain rfl:=sm h
 exact ⟨_,y,zB []⟩
def zbm:Option (Int):=
  some (-1)
def zab(b:T1)(c:List za)(d:T2)(a:Int):Option (Sum (Int) (Sum (Unit) (Int))):=
  cond (decide (a<(length b:Int))) ((idx b a).bind fun e=>(zfr e c d).bind fun f=>cond f (some (.inr (.inr a))) (some (.inl (IntKind.i64.wrap (a+1))))) (some (.inr (.inl ())))
def zbR(a:T1)(c:List za)(d:T2):Option (Int):=
  (zz (fun z=>zab a c d z) 0).bind fun o=>zaq o (fun b=>zbm) some
theorem zfk(a:T1)(c:List za)(d:T2){r:Int}(h:zbR a c d=some r):zu Tryz.prog 110 [.isl 1 (map zm a),.fn (.func 112) [] [.ipt 1 [[.ipt 2 [[.isl 6 (map zd c),.imp (map (rKV (fun x=>iA x)) d)]] 0 0]] 0 0]] (iA r):=by
 refine zl Tryz.func110 y kz y y ?_
 unfold zbR at h
 refine rg y<|u<|asg y<|zb ?_
 refine zj ?_
 refine rg y<|u<|mv y<|u<|lnI ti y y<|u<|mv y<|zb ?_
 obtain ⟨o,ho,h⟩:=bs h
 refine zaN (X:=Int) (B:=Unit) (R:=Int) (fun z=>[(0,.isl 1 (map zm a)),(1,.fn (.func 112) [] [.ipt 1 [[.ipt 2 [[.isl 6 (map zd c),.imp (map (rKV (fun x=>iA x)) d)]] 0 0]] 0 0]),(7,iA (length a:Int)),(8,iA z)]) (fun z=>[]) (fun b=>[]) (fun b=>[]) (fun r env st=>zb6 Tryz.prog Tryz.f110 0 (iA r) [] env st) ho (zq []) ?_ ?_ ?_
 ·
  rintro i r h
  replace h:zab a c d i=some r:=h
  unfold zab at h
  refine rg y<|u<|lss ti y y<|zb ?_
  refine zj ?_
  refine zf y (fun e=>?_) (fun e=>?_)
  ·
   replace h:=bT e h
   refine zi ?_
   refine zj ?_
   refine zr ?_
   refine rg y<|u<|mv y<|u<|asg y<|zb ?_
   obtain ⟨j,g,h⟩:=bs h
   obtain ⟨m,l,h⟩:=bs h
   refine rg y<|u<|mv y<|u<|mv y<|u<|mv y<|u<|ixI ti y ti y y y g<|u<|ldI ti y (zp g).2.2 y<|u<|pc (zjH j c d l) y y y<|zb ?_
   refine zf y (fun f=>?_) (fun f=>?_)
   ·
    replace h:=bT f h
    refine rg y<|u<|mv y<|u<|asg y<|zb ?_
    refine zg ?_
    obtain rfl:=sm h
    exact ⟨_,y,_,y,zB []⟩
   ·
    replace h:=bF f h
    refine zi ?_
    refine rl y<|u<|add ti y y<|u<|mv y<|zb ?_
    obtain rfl:=sm h
    exact ⟨_,y,zq []⟩
  ·
   replace h:=bF e h
   refine zQ ?_
   obtain rfl:=sm h
   exact ⟨y,_,y,zq []⟩
 ·
  rintro ⟨⟩ rfl
  replace h:zbm=some r:=h
  unfold zbm at h
  refine zD ?_
  refine rg y<|u<|asg y<|zb ?_
  refine zg ?_
  obtain rfl:=sm h
  exact ⟨_,y,zB []⟩
 ·
  rintro r' rfl env st hp
  obtain rfl:=sm h
  exact hp
def zaD(a:T1)(b:List za)(c:T2):Option (Bool):=
  (zbR a b c).bind fun d=>some (decide (0≤d))
theorem zeL(a:T1)(b:List za)(c:T2){r:Bool}(h:zaD a b c=some r):zu Tryz.prog 56 [.isl 1 (map zm a),.fn (.func 112) [] [.ipt 1 [[.ipt 2 [[.isl 6 (map zd b),.imp (map (rKV (fun x=>iA x)) c)]] 0 0]] 0 0]] (bA r):=by
 refine zl Tryz.func56 y kz y y ?_
 unfold zaD at h
 refine rg y<|u<|asg y<|zb ?_
 obtain ⟨e,d,h⟩:=bs h
 refine rg y<|u<|mv y<|u<|mv y<|u<|pc (zfk a b c d) y y y<|u<|geq ti y y<|u<|asg y<|zb ?_
 refine zg ?_
 obtain rfl:=sm h
 exact ⟨_,y,zB []⟩
def zfS:Option (Bool):=
  some true
def zeU(a:Int)(b:T1):Option (Sum (T1×Int) (Sum (Unit) (Bool))):=
  some (.inl (b,(IntKind.i64.wrap (a+1))))
def zdc(a:Int)(b:T1):Option (Sum (T1×Int) (Sum (T1) (Bool))):=
  some (.inl (b,(IntKind.i64.wrap (a+1))))
def zcm(d:T1)(a:T1)(b:Int):Option (Sum (T1×Int) (Sum (T1) (Bool))):=
  cond (decide (b<((length d):Int))) ((idx d b).bind fun c=>(cond (!(c == [])) ((zA a c).bind fun e=>some (!e)) (some false)).bind fun f=>cond f ((ziA 16 a [c]).bind fun g=>zdc b g) (zdc b a)) (some (.inr (.inl a)))
def zb7(h:List za)(i:T2)(j:za)(a:T1)(c:Int):Option (Sum (T1×Int) (Sum (Unit) (Bool))):=
  cond (decide (c<((length a):Int))) ((idx a c).bind fun d=>cond (d == j.Name) (some (.inr (.inr false))) ((idx a c).bind fun e=>(zct h i e).bind fun f=>(zf7 f).bind fun g=>(zz (fun z=>zcm g z.1 z.2) (a,0)).bind fun o=>zaq o (fun b=>zeU c b) (fun r=>some (.inr (.inr r))))) (some (.inr (.inl ())))
def zeg(c:List za)(d:T2)(a:za):Option (Bool):=
  (zct c d a.Super).bind fun e=>(cond e.Interface (some true) ((zaD a.Impl c d).bind fun f=>some f)).bind fun g=>cond g (some false) ((zf7 a).bind fun h=>(zz (fun z=>zb7 c d a z.1 z.2) (h,0)).bind fun o=>zaq o (fun b=>zfS) some)
theorem zkG(e:List za)(i:T2)(d:za){r:Bool}(h:zeg e i d=some r):zu Tryz.prog 60 [.ipt 2 [[.isl 6 (map zd e),.imp (map (rKV (fun x=>iA x)) i)]] 0 0,.agg (zd d)] (bA r):=by
 refine zl Tryz.func60 y kz y y ?_
 unfold zeg at h
 refine rg y<|u<|bx 0 1 y y y y<|u<|bx 1 6 y y y y<|u<|asg y<|zb ?_
 refine zj ?_
 obtain ⟨v4,Y,h⟩:=bs h
 obtain ⟨Z,E,h⟩:=bs h
 refine rg y<|u<|ld ti y y<|u<|fa ti y y y<|u<|ld ti y y<|u<|pc (zdm e i d.Super Y) y y y<|u<|fdV y y<|u<|mv y<|ze6 (x:=Z) (j:=5) 4 y y y y y gpn (fun p=>by replace E:=bF p E;obtain ⟨v5,q3,E⟩:=bs E;obtain rfl:=sm E;exact g y p<|fa ti y y y<|g y p<|ld ti y y<|g y p<|mf y y<|g y p<|pcs (zeL d.Impl e i q3) y y (.cons (si y) (.cons (zd0 t ⟨(zcb y ⟨(si y),t⟩),t⟩) .nil)) zdb<|zb (eg [15,16,17,18] 4 y y y y)) (fun hb=>(sm (bT hb E)).symm)<|zb ?_
 refine zf y (fun F=>?_) (fun F=>?_)
 ·
  replace h:=bT F h
  refine rg y<|u<|asg y<|zb ?_
  refine zg ?_
  obtain rfl:=sm h
  exact ⟨_,y,zB []⟩
 ·
  replace h:=bF F h
  refine zi ?_
  obtain ⟨N,q6,h⟩:=bs h
  refine rg y<|u<|ld ti y y<|u<|sx [] (zie d q6)<|zK (env0:=[(2,.mpt 0 0 0),(3,.mpt 1 0 0),(21,.msl 2 0 (length N))]) (st0:=[some (1,[[.ipt 2 [[.isl 6 (map zd e),.imp (map (rKV (fun x=>iA x)) i)]] 0 0]]),some (6,[(zd d)]),some (1,map zm N)]) (zq [.old 0,.old 1,.old 2])<|u<|asg y<|zb ?_
  refine zj ?_
  refine rg y<|u<|asg y<|zb ?_
  obtain ⟨o,ho,h⟩:=bs h
  refine zaN (X:=T1×Int) (B:=Unit) (R:=Bool) (fun z=>[(2,.mpt 0 0 0),(3,.mpt 1 0 0),(5,.msl 2 0 (length z.1)),(6,iA z.2)]) (fun z=>[some (1,[[.ipt 2 [[.isl 6 (map zd e),.imp (map (rKV (fun x=>iA x)) i)]] 0 0]]),some (6,[(zd d)]),some (1,map zm z.1)]) (fun b=>[]) (fun b=>[]) (fun r env st=>zb6 Tryz.prog Tryz.f60 0 (bA r) [] env st) ho (zq [.old 0,.old 1,.old 2]) ?_ ?_ ?_
  ·
   rintro ⟨l,c⟩ r h
   replace h:zb7 e i d l c=some r:=h
   unfold zb7 at h
   refine zj ?_
   refine rg y<|u<|mv y<|u<|mv y<|u<|lnM ti y y y<|u<|lss ti y y<|zb ?_
   refine zf y (fun q=>?_) (fun q=>?_)
   ·
    replace h:=bT q h
    refine zi ?_
    refine zj ?_
    refine zr ?_
    refine zj ?_
    obtain ⟨G,I,h⟩:=bs h
    refine rdA [(2,.mpt 0 0 0),(3,.mpt 1 0 0),(5,.msl 2 0 (length l)),(6,iA c),(34,bA (G == d.Name))] [some (1,[[.ipt 2 [[.isl 6 (map zd e),.imp (map (rKV (fun x=>iA x)) i)]] 0 0]]),some (6,[(zd d)]),some (1,map zm l)] [] [6,5,4,3,2,1,0] [(34,bA (G == d.Name)),(33,sA d.Name),(32,.mpt 1 0 0),(31,sA G),(30,.mpt 2 (Int.toNat c) 0),(29,iA c),(28,.msl 2 0 (length l))] 0 (zjh ⟨pe,pe,pe,(pb y (ldM ti y y (zp I).2.2 y w)),(pb y (ixM ti y ti y y y y I w)),pe,pe,t⟩ (zq [.old 0,.old 1,.old 2])) ?_
    refine zf y (fun s=>?_) (fun s=>?_)
    ·
     replace h:=bT s h
     refine rg y<|u<|asg y<|zb ?_
     refine zg ?_
     obtain rfl:=sm h
     exact ⟨_,y,_,y,zB []⟩
    ·
     replace h:=bF s h
     refine zi ?_
     obtain ⟨J,C,h⟩:=bs h
     obtain ⟨K,O,h⟩:=bs h
     obtain ⟨a,P,h⟩:=bs h
     refine rdA [(2,.mpt 0 0 0),(3,.mpt 1 0 0),(5,.msl 2 0 (length l)),(6,iA c),(41,.msl 3 0 (length a)),(42,iA ((length a):Int)),(43,iA 0)] [some (1,[[.ipt 2 [[.isl 6 (map zd e),.imp (map (rKV (fun x=>iA x)) i)]] 0 0]]),some (6,[(zd d)]),some (1,map zm l),some (1,map zm a)] [6] [8,5,4,3,2,1,0] [(43,iA 0),(40,.agg (zd K)),(39,sA J),(38,.mpt 2 (Int.toNat c) 0),(37,iA c),(36,.msl 2 0 (length l)),(35,.ipt 2 [[.isl 6 (map zd e),.imp (map (rKV (fun x=>iA x)) i)]] 0 0)] 1 (ziH ⟨pe,(pb y (pc (zdm e i J O) y y y w)),(pb y (ldM ti y y (zp C).2.2 y w)),(pb y (ixM ti y ti y y y y C w)),pe,pe,pe,t⟩ ⟨(fun _ _=>⟨_,y,y,sx [] (zie K P)<|⟨(.msl 3 0 (length a)),[7],[(42,iA ((length a):Int)),(41,.msl 3 0 (length a))],y,y,kz,y,zjh ⟨(pb y (lnM ti y y y w)),pe,pe,(pb y (ldM ti y y (zp C).2.2 y w)),(pb y (ixM ti y ti y y y y C w)),pe,pe,pe,t⟩ (zq [.old 0,.old 1,.old 2,.old 3])⟩⟩),t⟩) ?_
     obtain ⟨o,ho,h⟩:=bs h
     refine zaN (X:=T1×Int) (B:=T1) (R:=Bool) (fun z=>[(2,.mpt 0 0 0),(3,.mpt 1 0 0),(5,.msl 2 0 (length z.1)),(6,iA c),(41,.msl 3 0 (length a)),(42,iA ((length a):Int)),(43,iA z.2)]) (fun z=>[some (1,[[.ipt 2 [[.isl 6 (map zd e),.imp (map (rKV (fun x=>iA x)) i)]] 0 0]]),some (6,[(zd d)]),some (1,map zm z.1),some (1,map zm a)]) (fun b=>[(2,.mpt 0 0 0),(3,.mpt 1 0 0),(5,.msl 2 0 (length b)),(6,iA c)]) (fun b=>[some (1,[[.ipt 2 [[.isl 6 (map zd e),.imp (map (rKV (fun x=>iA x)) i)]] 0 0]]),some (6,[(zd d)]),some (1,map zm b)]) (fun r env st=>zb6 Tryz.prog Tryz.f60 0 (bA r) [] env st) ho (zq [.old 0,.old 1,.old 2,.old 3]) ?_ ?_ ?_
     ·
      rintro ⟨H,D⟩ r h
      replace h:zcm a H D=some r:=h
      unfold zcm at h
      refine rg y<|u<|lss ti y y<|zb ?_
      refine zj ?_
      refine zf y (fun v=>?_) (fun v=>?_)
      ·
       replace h:=bT v h
       refine zi ?_
       refine zdk (X:=T1) (fun z=>[(2,.mpt 0 0 0),(3,.mpt 1 0 0),(5,.msl 2 0 (length z)),(6,iA c),(41,.msl 3 0 (length a)),(42,iA ((length a):Int)),(43,iA D)]) (fun z=>[some (1,[[.ipt 2 [[.isl 6 (map zd e),.imp (map (rKV (fun x=>iA x)) i)]] 0 0]]),some (6,[(zd d)]),some (1,map zm z),some (1,map zm a)]) (fun z=>zdc D z=some r) ?_ ?_
       ·
        refine zr ?_
        obtain ⟨L,M,h⟩:=bs h
        refine rg y<|u<|ixM ti y ti y y y y M<|u<|ldM ti y y (zp M).2.2 y<|u<|asg y<|zb ?_
        obtain ⟨Q,n,h⟩:=bs h
        refine rg y<|u<|mv y<|u<|sne ti y y<|u<|mv y<|zbq (x:=Q) (j:=2) 4 y y y y y gpn (fun m=>by replace n:=bT m n;obtain ⟨v45,S,n⟩:=bs n;obtain rfl:=sm n;exact g y m<|mv y<|g y m<|mv y<|g y m<|pcs (zaz H L S) y y (.cons (zki y (fun _=>y)) (.cons (si y) .nil)) zdb<|g y m<|nt y<|zb (eg [50,51,52,53] 4 y y y y)) (fun hb=>(sm (bF hb n)).symm)<|zb ?_
        refine zf y (fun A=>?_) (fun A=>?_)
        ·
         replace h:=bT A h
         obtain ⟨T,U,h⟩:=bs h
         exact rl y<|u<|mv y<|u<|mv y<|u<|bl 4 ti y ti y (by decide) (by decide) y y y<|u<|apM 5 ti y ti y y (by decide) ti y y y y (roX (f:=zm) (z:=[L]) y y) (fun _=>y) y U<|u<|asg y<|zb (⟨T,h,zq [.old 0,.old 1,.old 5,.old 3]⟩)
        ·
         replace h:=bF A h
         refine zi ?_
         exact ⟨H,h,zq [.old 0,.old 1,.old 2,.old 3]⟩
       ·
        rintro V h
        replace h:zdc D V=some r:=h
        unfold zdc at h
        refine rl y<|u<|add ti y y<|u<|mv y<|zb ?_
        obtain rfl:=sm h
        exact ⟨_,y,zq [.old 0,.old 1,.old 2,.old 3]⟩
      ·
       replace h:=bF v h
       refine zQ ?_
       obtain rfl:=sm h
       exact ⟨y,_,y,zq [.old 0,.old 1,.old 2]⟩
     ·
      rintro W rfl
      replace h:zeU c W=some r:=h
      unfold zeU at h
      refine zD ?_
      refine rl y<|u<|mv y<|u<|add ti y y<|u<|asg y<|zb ?_
      obtain rfl:=sm h
      exact ⟨_,y,zq [.old 0,.old 1,.old 2]⟩
     ·
      rintro r' rfl env st hp
      obtain rfl:=sm h
      exact ⟨_,y,hp⟩
   ·
    replace h:=bF q h
    refine zQ ?_
    obtain rfl:=sm h
    exact ⟨y,_,y,zq []⟩
  ·
   rintro ⟨⟩ rfl
   replace h:zfS=some r:=h
   unfold zfS at h
   refine zD ?_
   refine rg y<|u<|asg y<|zb ?_
   refine zg ?_
   obtain rfl:=sm h
   exact ⟨_,y,zB []⟩
  ·
   rintro r' rfl env st hp
   obtain rfl:=sm h
   exact hp
def zjI(a:List za)(b:T2):Option ((Option zy)×Int):=
  some ((some (zy.mk a b)),0)
def zeE(b:List za)(c:List za)(d:T2)(a:Int):Option (Sum (Int) (Sum (Unit) ((Option zy)×Int))):=
  cond (decide (a<(length b:Int))) ((idx b a).bind fun e=>(zeg c d e).bind fun f=>cond (!f) (some (.inr (.inr (none,1)))) (some (.inl (IntKind.i64.wrap (a+1))))) (some (.inr (.inl ())))
def zia(d:List za)(a:List za)(c:T2):Option ((Option zy)×Int):=
  (zz (fun z=>zeE d a c z) 0).bind fun o=>zaq o (fun b=>zjI a c) some
def zeD(b:List za)(c:List za)(d:T2)(a:Int):Option (Sum (Int) (Sum (Unit) ((Option zy)×Int))):=
  cond (decide (a<(length b:Int))) ((idx b a).bind fun e=>(zf7 e).bind fun f=>(zaC f c d).bind fun g=>cond g (some (.inr (.inr (none,4)))) (some (.inl (IntKind.i64.wrap (a+1))))) (some (.inr (.inl ())))
def zh9(d:List za)(a:List za)(c:T2):Option ((Option zy)×Int):=
  (zz (fun z=>zeD d a c z) 0).bind fun o=>zaq o (fun b=>zia d a c) some
def zcI(e:List za)(b:List za)(c:T2)(d:Int):Option (Sum ((List za)×T2×Int) (Sum ((List za)×T2) ((Option zy)×Int))):=
  cond (decide (d<(length e:Int))) ((idx e d).bind fun a=>(cond (Option.isSome (zcj a.Name c)) (some true) ((ziM a).bind fun f=>some (!f))).bind fun g=>cond g (some (.inr (.inr (none,1)))) ((ziA 112 b [a]).bind fun h=>some (.inl (h,(zff a.Name ((length b):Int) c),(IntKind.i64.wrap (d+1)))))) (some (.inr (.inl (b,c))))
def zh8(a:List za)(c:(List za))(d:T2):Option ((Option zy)×Int):=
  (zz (fun z=>zcI a z.1 z.2.1 z.2.2) (c,d,0)).bind fun o=>zaq o (fun b=>zh9 a b.1 b.2) some
def zib(b:(List za))(c:T2)(a:Int):Option (Sum (T2×Int) (Sum (T2) ((Option zy)×Int))):=
  cond (decide (a<((length b):Int))) ((idx b a).bind fun d=>some (.inl ((zff d.Name a c),(IntKind.i64.wrap (a+1))))) (some (.inr (.inl c)))
def zft(a:List za):Option ((Option zy)×Int):=
  cond (decide (16<(length a:Int))) (some (none,3)) ((zje).bind fun c=>(zz (fun z=>zib c z.1 z.2) ([],0)).bind fun o=>zaq o (fun b=>zh8 a c b) some)
theorem zic(a:List za){r:(Option zy)×Int}(h:zft a=some r):zu Tryz.prog 23 [.isl 6 (map zd a)] (.tup [zjm 2 zcf r.1,iA r.2]):=by
 refine zl Tryz.func23 y kz y (zub (zqy (zok (fun _=>y)) (y))) ?_
 unfold zft at h
 refine rg y<|u<|asg y<|u<|asg y<|zb ?_
 refine zj ?_
 refine rg y<|u<|mv y<|u<|lnI ti y y<|u<|gtr ti y y<|zb ?_
 refine zf y (fun K=>?_) (fun K=>?_)
 ·
  replace h:=bT K h
  refine rg y<|u<|asg y<|u<|asg y<|zb ?_
  refine zg ?_
  obtain rfl:=sm h
  exact ⟨_,y,zB []⟩
 ·
  replace h:=bF K h
  refine zi ?_
  obtain ⟨p,q2,h⟩:=bs h
  refine rg y<|u<|sx [] (znq q2)<|zK (env0:=[(0,.isl 6 (map zd a)),(18,.msl 0 0 (length p))]) (st0:=[some (6,map zd p)]) (zq [.old 0])<|u<|mmk (e:=3) 1 y y<|u<|bd ti y y y<|u<|bx 2 2 y y y y<|u<|al 3 ti y<|u<|sto ti y y y<|zb ?_
  refine zj ?_
  refine rg y<|u<|ld ti y y<|u<|nc y y<|u<|fa ti y y y<|u<|ld ti y y<|u<|lnM ti y y y<|u<|mv y<|zb ?_
  obtain ⟨o,ho,h⟩:=bs h
  refine zaN (X:=T2×Int) (B:=T2) (R:=(Option zy)×Int) (fun z=>[(0,.isl 6 (map zd a)),(4,.mpt 0 0 0),(25,.msl 2 0 (length p)),(26,iA ((length p):Int)),(27,iA z.2)]) (fun z=>[some (1,[[.mpt 1 0 0]]),some (2,[[.msl 2 0 (length p),.mmp 3]]),some (6,map zd p),some (2,map (rKV (fun x=>iA x)) z.1)]) (fun b=>[(0,.isl 6 (map zd a)),(4,.mpt 0 0 0)]) (fun b=>[some (1,[[.mpt 1 0 0]]),some (2,[[.msl 2 0 (length p),.mmp 3]]),some (6,map zd p),some (2,map (rKV (fun x=>iA x)) b)]) (fun r env st=>zb6 Tryz.prog Tryz.f23 0 (.tup [zjm 2 zcf r.1,iA r.2]) [] env st) ho (zq [.old 3,.old 2,.old 0,.old 1]) ?_ ?_ ?_
  ·
   rintro ⟨T,L⟩ r h
   replace h:zib p T L=some r:=h
   unfold zib at h
   refine rg y<|u<|lss ti y y<|zb ?_
   refine zj ?_
   refine zf y (fun M=>?_) (fun M=>?_)
   ·
    replace h:=bT M h
    refine zi ?_
    refine zj ?_
    refine zr ?_
    obtain ⟨U,V,h⟩:=bs h
    refine rg y<|u<|mv y<|u<|ixM ti y ti y y y y V<|u<|ldM ti y y (zp V).2.2 y<|u<|al 4 ti y<|u<|asg y<|u<|sto ti y y y<|zb ?_
    refine zoX [(0,.isl 6 (map zd a)),(4,.mpt 0 0 0),(25,.msl 2 0 (length p)),(26,iA ((length p):Int)),(27,iA L)] [some (1,[[.mpt 1 0 0]]),some (2,[[.msl 2 0 (length p),.mmp 3]]),some (6,map zd p),some (2,map (rKV (fun x=>iA x)) (zff U.Name L T))] [7] [6,5,4,3,2,1,0] [(38,iA L),(37,sA U.Name),(36,.mpt 4 0 0),(35,.mmp 3),(34,.mpt 1 0 1),(33,.mpt 1 0 0),(32,.mpt 1 0 0)] 1 (zkD ⟨(fun _ _=>⟨_,y,y,mup (v:=L) (g:=(fun x=>iA x)) (l:=T) (s:=U.Name) y y y y y y<|⟨.any,[],[],y,y,kz,t,zlb (zq [.old 0,.old 1,.old 2,.old 3])⟩⟩),t⟩) ?_
    refine rl y<|u<|add ti y y<|u<|mv y<|zb ?_
    obtain rfl:=sm h
    exact ⟨_,y,zq [.old 0,.old 1,.old 2,.old 3]⟩
   ·
    replace h:=bF M h
    refine zQ ?_
    obtain rfl:=sm h
    exact ⟨y,_,y,zq [.old 0,.old 1,.old 2,.old 3]⟩
  ·
   rintro v9 rfl
   replace h:zh8 a p v9=some r:=h
   unfold zh8 at h
   refine zD ?_
   refine zj ?_
   refine rg y<|u<|mv y<|u<|lnI ti y y<|u<|mv y<|zb ?_
   obtain ⟨o,ho,h⟩:=bs h
   refine zaN (X:=(List za)×T2×Int) (B:=(List za)×T2) (R:=(Option zy)×Int) (fun z=>[(0,.isl 6 (map zd a)),(4,.mpt 0 0 0),(40,.isl 6 (map zd a)),(41,iA (length a:Int)),(42,iA z.2.2)]) (fun z=>[some (1,[[.mpt 1 0 0]]),some (2,[[.msl 2 0 (length z.1),.mmp 3]]),some (6,map zd z.1),some (2,map (rKV (fun x=>iA x)) z.2.1)]) (fun b=>[(0,.isl 6 (map zd a)),(4,.mpt 0 0 0)]) (fun b=>[some (1,[[.mpt 1 0 0]]),some (2,[[.msl 2 0 (length b.1),.mmp 3]]),some (6,map zd b.1),some (2,map (rKV (fun x=>iA x)) b.2)]) (fun r env st=>zb6 Tryz.prog Tryz.f23 0 (.tup [zjm 2 zcf r.1,iA r.2]) [] env st) ho (zq [.old 0,.old 1,.old 2,.old 3]) ?_ ?_ ?_
   ·
    rintro ⟨n,i,I⟩ r h
    replace h:zcI a n i I=some r:=h
    unfold zcI at h
    refine rg y<|u<|lss ti y y<|zb ?_
    refine zj ?_
    refine zf y (fun C=>?_) (fun C=>?_)
    ·
     replace h:=bT C h
     refine zi ?_
     refine zj ?_
     refine zr ?_
     obtain ⟨c,O,h⟩:=bs h
     refine rg y<|u<|ixI ti y ti y y y O<|u<|ldI ti y (zp O).2.2 y<|u<|al 4 ti y<|u<|sto ti y y y<|zb ?_
     refine zj ?_
     refine rdA [(0,.isl 6 (map zd a)),(4,.mpt 0 0 0),(8,.mpt 4 0 0),(10,bA (Option.isSome (zcj c.Name i))),(40,.isl 6 (map zd a)),(41,iA (length a:Int)),(42,iA I)] [some (1,[[.mpt 1 0 0]]),some (2,[[.msl 2 0 (length n),.mmp 3]]),some (6,map zd n),some (2,map (rKV (fun x=>iA x)) i),some (6,[(zd c)])] [] [11,10,9,8,7,6,5,4,3,2,1,0] [(10,bA (Option.isSome (zcj c.Name i))),(9,iA (Option.getD (zcj c.Name i) 0)),(55,bA (Option.isSome (zcj c.Name i))),(54,iA (Option.getD (zcj c.Name i) 0)),(46,.tup [iA (Option.getD (zcj c.Name i) 0),bA (Option.isSome (zcj c.Name i))]),(53,.tup [iA (Option.getD (zcj c.Name i) 0),bA (Option.isSome (zcj c.Name i))]),(52,sA c.Name),(51,.mpt 4 0 0),(50,.mmp 3),(49,.mpt 1 0 1),(48,.mpt 1 0 0),(47,.mpt 1 0 0)] 0 (zjh ⟨pe,pe,pe,pe,pe,(pb y (zxD (g:=(fun x=>iA x)) (z:=0) (l:=i) y ti y y y y w)),pe,pe,pe,pe,pe,pe,t⟩ (zq [.old 0,.old 1,.old 2,.old 3,.old 4])) ?_
     obtain ⟨W,q,h⟩:=bs h
     refine rg y<|u<|mv y<|u<|mv y<|ze6 (x:=W) (j:=1) 3 y y y y y gpn (fun A=>by replace q:=bF A q;obtain ⟨v21,Y,q⟩:=bs q;obtain rfl:=sm q;exact g y A<|ld ti y y<|g y A<|pc (zod c Y) y y y<|g y A<|nt y<|zb (eg [58,59,60] 3 y y y y)) (fun hb=>(sm (bT hb q)).symm)<|zb ?_
     refine zf y (fun D=>?_) (fun D=>?_)
     ·
      replace h:=bT D h
      refine rg y<|u<|asg y<|u<|asg y<|zb ?_
      refine zg ?_
      obtain rfl:=sm h
      exact ⟨_,y,_,y,zB []⟩
     ·
      replace h:=bF D h
      refine zi ?_
      refine rdA [(0,.isl 6 (map zd a)),(4,.mpt 0 0 0),(8,.mpt 4 0 0),(40,.isl 6 (map zd a)),(41,iA (length a:Int)),(42,iA I)] [some (1,[[.mpt 1 0 0]]),some (2,[[.msl 2 0 (length n),.mmp 3]]),some (6,map zd n),some (2,map (rKV (fun x=>iA x)) (zff c.Name ((length n):Int) i)),some (6,[(zd c)])] [11] [10,9,8,7,6,5,4,3,2,1,0] [(72,iA ((length n):Int)),(71,.msl 2 0 (length n)),(70,.mpt 1 0 0),(69,.mpt 1 0 0),(68,.mpt 1 0 0),(67,sA c.Name),(66,.mpt 4 0 0),(65,.mmp 3),(64,.mpt 1 0 1),(63,.mpt 1 0 0),(62,.mpt 1 0 0)] 1 (ziH ⟨(pb y (lnM ti y y y w)),pe,pe,pe,pe,pe,pe,pe,pe,pe,pe,t⟩ ⟨(fun _ _=>⟨_,y,y,mup (v:=((length n):Int)) (g:=(fun x=>iA x)) (l:=i) (s:=c.Name) y y y y y y<|⟨.any,[],[],y,y,kz,t,zlb (zq [.old 0,.old 1,.old 2,.old 3,.old 4])⟩⟩),t⟩) ?_
      obtain ⟨J,Z,h⟩:=bs h
      refine zoX [(0,.isl 6 (map zd a)),(4,.mpt 0 0 0),(40,.isl 6 (map zd a)),(41,iA (length a:Int)),(42,iA I)] [some (1,[[.mpt 1 0 0]]),some (2,[[.msl 2 0 (length J),.mmp 3]]),some (6,map zd J),some (2,map (rKV (fun x=>iA x)) (zff c.Name ((length n):Int) i))] [6,7,10] [5,4,3,2,1,0] [(78,.agg (zd c)),(77,.msl 2 0 (length n)),(76,.mpt 1 0 0),(75,.mpt 1 0 0),(74,.mpt 1 0 0),(73,.mpt 1 0 0)] 3 (zkD ⟨(fun _ _=>⟨_,y,y,bl 5 ti y ti y (by decide) (by decide) y y y<|⟨(.msl 5 0 1),[],[(79,.msl 5 0 1)],y,y,kz,y,zkD ⟨nv,(fun _ _=>⟨_,y,y,apM 6 ti y ti y y (by decide) ti y y y y (roX (f:=zd) (z:=[c]) y y) (fun _=>y) y Z<|⟨(.msl 6 0 (length J)),[9,8],[(82,.mpt 1 0 0),(81,.mpt 1 0 0),(80,.msl 6 0 (length J))],y,y,kz,y,zkD ⟨nv,nv,(fun _ _=>⟨_,y,y,sto ti y y y<|⟨.any,[],[],y,y,kz,t,zlb (zq [.old 0,.old 1,.old 6,.old 3])⟩⟩),t⟩⟩⟩),nw,t⟩⟩⟩),nw,nw,t⟩) ?_
      refine rl y<|u<|add ti y y<|u<|mv y<|zb ?_
      obtain rfl:=sm h
      exact ⟨_,y,zq [.old 0,.old 1,.old 2,.old 3]⟩
    ·
     replace h:=bF C h
     refine zQ ?_
     obtain rfl:=sm h
     exact ⟨y,_,y,zq [.old 0,.old 1,.old 2,.old 3]⟩
   ·
    rintro ⟨d,m⟩ rfl
    replace h:zh9 a d m=some r:=h
    unfold zh9 at h
    refine zD ?_
    refine zj ?_
    refine rg y<|u<|mv y<|u<|lnI ti y y<|u<|mv y<|zb ?_
    obtain ⟨o,ho,h⟩:=bs h
    refine zaN (X:=Int) (B:=Unit) (R:=(Option zy)×Int) (fun z=>[(0,.isl 6 (map zd a)),(4,.mpt 0 0 0),(84,.isl 6 (map zd a)),(85,iA (length a:Int)),(86,iA z)]) (fun z=>[some (1,[[.mpt 1 0 0]]),some (2,[[.msl 2 0 (length d),.mmp 3]]),some (6,map zd d),some (2,map (rKV (fun x=>iA x)) m)]) (fun b=>[(0,.isl 6 (map zd a)),(4,.mpt 0 0 0)]) (fun b=>[some (1,[[.mpt 1 0 0]]),some (2,[[.msl 2 0 (length d),.mmp 3]]),some (6,map zd d),some (2,map (rKV (fun x=>iA x)) m)]) (fun r env st=>zb6 Tryz.prog Tryz.f23 0 (.tup [zjm 2 zcf r.1,iA r.2]) [] env st) ho (zq [.old 0,.old 1,.old 2,.old 3]) ?_ ?_ ?_
    ·
     rintro P r h
     replace h:zeD a d m P=some r:=h
     unfold zeD at h
     refine rg y<|u<|lss ti y y<|zb ?_
     refine zj ?_
     refine zf y (fun E=>?_) (fun E=>?_)
     ·
      replace h:=bT E h
      refine zi ?_
      refine zj ?_
      refine zr ?_
      obtain ⟨v31,Q,h⟩:=bs h
      refine rg y<|u<|ixI ti y ti y y y Q<|u<|ldI ti y (zp Q).2.2 y<|u<|al 4 ti y<|u<|sto ti y y y<|zb ?_
      obtain ⟨N,q28,h⟩:=bs h
      obtain ⟨v33,q29,h⟩:=bs h
      refine rg y<|u<|ld ti y y<|u<|sx [] (zie v31 q28)<|zK (env0:=[(0,.isl 6 (map zd a)),(4,.mpt 0 0 0),(84,.isl 6 (map zd a)),(85,iA (length a:Int)),(86,iA P),(91,.msl 4 0 (length N))]) (st0:=[some (1,[[.mpt 1 0 0]]),some (2,[[.msl 2 0 (length d),.mmp 3]]),some (6,map zd d),some (2,map (rKV (fun x=>iA x)) m),some (1,map zm N)]) (zq [.old 0,.old 1,.old 2,.old 3,.old 5])<|u<|mf y y<|u<|pcs (zeK N d m q29) y y (.cons (zki y (fun _=>y)) (.cons (zd0 t ⟨(zcb y ⟨(zcb y ⟨(zki y (fun _=>y)),(zsy y (fun _=>y)),t⟩),t⟩),t⟩) .nil)) zdb<|zb ?_
      refine zf y (fun F=>?_) (fun F=>?_)
      ·
       replace h:=bT F h
       refine rg y<|u<|asg y<|u<|asg y<|zb ?_
       refine zg ?_
       obtain rfl:=sm h
       exact ⟨_,y,_,y,zB []⟩
      ·
       replace h:=bF F h
       refine zi ?_
       refine rl y<|u<|add ti y y<|u<|mv y<|zb ?_
       obtain rfl:=sm h
       exact ⟨_,y,zq [.old 0,.old 1,.old 2,.old 3]⟩
     ·
      replace h:=bF E h
      refine zQ ?_
      obtain rfl:=sm h
      exact ⟨y,_,y,zq [.old 0,.old 1,.old 2,.old 3]⟩
    ·
     rintro ⟨⟩ rfl
     replace h:zia a d m=some r:=h
     unfold zia at h
     refine zD ?_
     refine zj ?_
     refine rg y<|u<|mv y<|u<|lnI ti y y<|u<|mv y<|zb ?_
     obtain ⟨o,ho,h⟩:=bs h
     refine zaN (X:=Int) (B:=Unit) (R:=(Option zy)×Int) (fun z=>[(4,.mpt 0 0 0),(95,.isl 6 (map zd a)),(96,iA (length a:Int)),(97,iA z)]) (fun z=>[some (1,[[.mpt 1 0 0]]),some (2,[[.msl 2 0 (length d),.mmp 3]]),some (6,map zd d),some (2,map (rKV (fun x=>iA x)) m)]) (fun b=>[(4,.mpt 0 0 0)]) (fun b=>[some (1,[[.mpt 1 0 0]]),some (2,[[.msl 2 0 (length d),.mmp 3]]),some (6,map zd d),some (2,map (rKV (fun x=>iA x)) m)]) (fun r env st=>zb6 Tryz.prog Tryz.f23 0 (.tup [zjm 2 zcf r.1,iA r.2]) [] env st) ho (zq [.old 0,.old 1,.old 2,.old 3]) ?_ ?_ ?_
     ·
      rintro v37 r h
      replace h:zeE a d m v37=some r:=h
      unfold zeE at h
      refine rg y<|u<|lss ti y y<|zb ?_
      refine zj ?_
      refine zf y (fun G=>?_) (fun G=>?_)
      ·
       replace h:=bT G h
       refine zi ?_
       refine zj ?_
       refine zr ?_
       obtain ⟨v38,S,h⟩:=bs h
       refine rg y<|u<|ixI ti y ti y y y S<|u<|ldI ti y (zp S).2.2 y<|u<|al 4 ti y<|u<|sto ti y y y<|zb ?_
       obtain ⟨v39,q37,h⟩:=bs h
       refine rg y<|u<|ld ti y y<|u<|ld ti y y<|u<|pcs (zkG d m v38 q37) y y (.cons (zcb y ⟨(zki y (fun _=>y)),(zsy y (fun _=>y)),t⟩) (.cons (si y) .nil)) zdb<|u<|nt y<|zb ?_
       refine zf y (fun H=>?_) (fun H=>?_)
       ·
        replace h:=bT H h
        refine rg y<|u<|asg y<|u<|asg y<|zb ?_
        refine zg ?_
        obtain rfl:=sm h
        exact ⟨_,y,_,y,zB []⟩
       ·
        replace h:=bF H h
        refine zi ?_
        refine rl y<|u<|add ti y y<|u<|mv y<|zb ?_
        obtain rfl:=sm h
        exact ⟨_,y,zq [.old 0,.old 1,.old 2,.old 3]⟩
      ·
       replace h:=bF G h
       refine zQ ?_
       obtain rfl:=sm h
       exact ⟨y,_,y,zq [.old 0,.old 1,.old 2,.old 3]⟩
     ·
      rintro ⟨⟩ rfl
      replace h:zjI d m=some r:=h
      unfold zjI at h
      refine zD ?_
      refine rg y<|u<|ld ti y y<|u<|asg y<|u<|asg y<|zb ?_
      refine zg ?_
      obtain rfl:=sm h
      exact ⟨_,y,[],zqR ⟨(rsP y y ⟨(zoK y y (fun _=>y)),(zsv y y (fun _=>y)),t⟩ y),(ci y),t⟩,y,t,y,k⟩
     ·
      rintro r' rfl env st hp
      obtain rfl:=sm h
      exact hp
    ·
     rintro r' rfl env st hp
     obtain rfl:=sm h
     exact hp
   ·
    rintro r' rfl env st hp
    obtain rfl:=sm h
    exact hp
  ·
   rintro r' rfl env st hp
   obtain rfl:=sm h
   exact hp
theorem R.trunc{A:Nat→Prop}{m:BM}{w:World}{st:St}(hR:R A m w st){l k:Nat}{els:List (List AV)}(he:st[l]?=some (some (k,els)))(q:Nat)(hk:Nat.beq k 2=false):
  R A m w (st.set l (some (k,els.take q))):=by
 have hl:l<st.length:=(List.getElem?_eq_some_iff.1 he).1
 have hk2:k≠2:=fun e=>by subst e;cases hk
 refine ⟨hR.aLow,hR.aOwn,hR.inj,fun x b hb=>?_,fun x k' els' hx=>?_⟩
 ·by_cases e:l=x
  ·subst e
   exact ⟨els.take q,by rw [List.getElem?_set_self hl,(hR.at hb he).1]⟩
  ·obtain ⟨els1,h1⟩:=hR.live x b hb
   exact ⟨els1,by rw [List.getElem?_set_ne e];exact h1⟩
 ·rw [List.length_set]
  by_cases e:l=x
  ·subst e
   rw [List.getElem?_set_self hl] at hx
   cases hx
   obtain ⟨b,h1,h2,h3,h4⟩:=hR.blk l k els he
   refine ⟨b,h1,h2,fun hh=>?_,fun hh=>by rw [h4 hh];simp⟩
   have ho:=h3 hh
   refine ⟨ho.low,ho.there,ho.free,fun hq=>?_,fun i hi=>?_,fun hq i hi j hj=>?_,fun hq=>?_⟩
   ·refine Nat.le_trans (Nat.add_le_add_left (Nat.mul_le_mul_right _ ?_) _) (ho.fit hq)
    simp;omega
   ·simp only [List.getElem_take];exact ho.wide _ _
   ·simp only [List.getElem_take] at hj ⊢
    exact ho.val hq i (by simp at hi;omega) j hj
   ·exact absurd (h2.symm.trans (ho.mval hq).1) hk2
  ·rw [List.getElem?_set_ne e] at hx
   exact hR.blk x k' els' hx
theorem zro{α:Type}{l r:List α}{c:Int}(h:zj3 l 0 c=some r):r=l.take c.toNat:=by
 unfold zj3 at h
 split at h
 ·cases h;simp
 ·cases h
section
variable {P : Program} {n nb0 : Nat} {all l1 l2 : List Oper} {K : Ev → St → Prop} {env : Ev} {st : St} {d : Nat} {ty : TypeId} {pos : String} {aft : Array Edge} {gu : Option (Nat × Bool)}
theorem zxr{α:Type}{cd:Code}{Q:Exit→Ev→St→Prop}{b sz:Nat}{l r:List α}{f:α→List AV}{c:Int}(hb:st[b]?=some (some (sz,l.map f)))(hk:Nat.beq sz 2=false)(h:zj3 l 0 c=some r)
  (k:SW P n nb0 cd Q env (st.set b (some (sz,r.map f)))):SW P n nb0 cd Q env st:=by
 intro A m w a h0 hR hE
 have e:r.map f=(l.map f).take c.toNat:=by rw [zro h,List.map_take]
 rw [e] at k
 have hlen:(st.set b (some (sz,(l.map f).take c.toNat))).length=st.length:=by simp
 exact k A m w a (by rw [hlen];exact h0) (hR.trunc hb c.toNat hk) (by rw [hlen];exact hE)
theorem slM{α:Type}{t e:TypeId}{x:Operand}{hi:Option Operand}{ti te:TI}{sz b:Nat}{l r:List α}{f:α→List AV}{c:Int}(ht:zco P t=some ti)(hk:ti.k=.slc e)(he:zco P e=some te)(hs:te.size=sz)(hx:ev env x=some (.msl b 0 l.length))
  (hb:st[b]?=some (some (sz,l.map f))) (hhi:ziK env l.length hi=some c.toNat) (h:zj3 l 0 c=some r) (k:K ((d,.msl b 0 r.length)::env) st):SOp P ⟨some d,.slice t x none hi none,ty,pos,aft,gu⟩ env st K:=ze8 rfl (by
   unfold zj3 at h
   split at h
   ·rename_i h1
    cases h
    have e':zoT (.msl b 0 l.length)=some l.length:=rfl
    have e0:ziK env 0 none=some 0:=rfl
    simp only [aop,ht,hk,hx,e',he,hhi,e0,zt4,hb]
    rw [if_pos ⟨hs.symm,by omega,by omega⟩]
    have:((l.drop (0:Int).toNat).take (c.toNat-(0:Int).toNat)).length=c.toNat-0:=by simp;omega
    rw [this];rfl
   ·cases h) k
theorem zxU{α:Type}{sz:Nat}{l:List α}{f:α→List AV}{i:Int}{c:α}(h:idx l i=some c)(k:SR P n nb0 all l1 l2 K ((d,.ipt sz [f c] 0 0)::env) st):SR P n nb0 all l1 l2 K ((d,.ipt sz (l.map f) i.toNat 0)::env) st:=by
 intro ops q ho hd hn A m w a h0 hR hE Q hQ
 obtain ⟨_,hi,hc⟩:=zp h
 refine k ops q ho hd hn A m w a h0 hR ⟨hE.size,fun t v hl=>?_,hE.defers⟩ Q hQ
 simp only [zbD] at hl
 split at hl
 ·rename_i e
  cases hl
  obtain ⟨h1,h2⟩:=hE.val t (.ipt sz (l.map f) i.toNat 0) (by simp [zbD,e])
  refine ⟨h1,.imm ?_⟩
  have h3:=h2.ipt_inv
  generalize a.tmps.getD t undef=v at h3
  have hg:(l.map f)[i.toNat]'(by simpa using hi)=f c:=by
   have:=(List.getElem?_eq_some_iff.1 hc).2
   simp [this]
  cases h3 with
  |ipt _ _ _ _ B o vs hA hk hcell hval =>
   have:=VI.ipt (A:=A) (w:=w) sz [f c] 0 0 B (o+i.toNat*sz) (fun _ j=>vs i.toNat j) hA
    (fun i' hi'=>by
     have:i'=0:=by simpa using hi'
     subst this
     show (f c).length=sz
     rw [←hg];exact hk _ _)
    (fun i' j hi' hj=>by
     have:i'=0:=by simpa using hi'
     subst this
     rw [←hcell i.toNat j (by simpa using hi) hj]
     congr 2;omega)
    (fun i' hi' j hj=>by
     have:i'=0:=by simpa using hi'
     subst this
     have hj':j<((l.map f)[i.toNat]'(by simpa using hi)).length:=by rw [hg];exact hj
     have h5:=hval i.toNat (by simpa using hi) j hj'
     have e5:((l.map f)[i.toNat]'(by simpa using hi))[j]=(f c)[j]'hj:=by simp only [hg]
     rw [e5] at h5
     exact h5)
   simpa using this
 ·rename_i e
  exact hE.val t v (by simp [zbD,e,hl])
theorem zxk{α:Type}{t u' e:TypeId}{x y:Operand}{ti:TI}{sz:Nat}{l:List α}{f:α→List AV}(ht:zco P t=some ti)(hk:ti.k=.slc e)(hx:ev env x=some (.isl sz (l.map f)))(hy:ev env y=some (.lit (.slice none 0 0)))
  (hh:(l=[]→SR P n nb0 all l1 l2 K ((d,.lit (.bool true))::env) st)∧SR P n nb0 all l1 l2 K ((d,.lit (.bool false))::env) st):SR P n nb0 all (⟨some d,.binOp .eql t x y u',ty,pos,aft,none⟩::l1) l2 K env st:=by
 obtain ⟨h1,h2⟩:=hh
 intro ops i ho hd hn A m w a h0 hR hE Q hQ
 obtain ⟨hi,hd',hdo⟩:=zxj ho hd hn
 have e:((⟨some d,.binOp .eql t x y u',ty,pos,aft,none⟩:Oper)::l1).length+l2.length=(l1.length+l2.length)+1:=by simp;omega
 rw [e,List.range'_succ]
 simp only [wpOps,hi]
 rw [zeA (b:=true) hE (by rfl)]
 simp only [if_true]
 refine .inl ?_
 obtain ⟨dd,i0,hdd,_,_,_,_,hdk,_⟩:=zbV ht
 rw [hk] at hdk
 have hds:=zhU hdk
 subst hds
 have fin:∀b:Bool,(execOp a.eval ⟨some d,.binOp .eql t x y u',ty,pos,aft,none⟩).run P w=.ok (.value (.bool b)) w→SR P n nb0 all l1 l2 K ((d,.lit (.bool b))::env) st →
   Oper.wp P ⟨some d,.binOp .eql t x y u',ty,pos,aft,none⟩ a w (fun a' w'=>wpOps P ops Q (List.range' (i+1) (l1.length+l2.length)) a' w') Q:=fun b hr k=>by
  unfold Oper.wp
  rw [hr]
  refine k ops (i+1) ho hd' hn A m w _ h0 hR (hE.aput (d:=some d) hdo (.imm (.lit _))) Q fun a2 w2 k2=>?_
  have:=hQ a2 w2 k2
  rwa [List.length_cons,Nat.add_comm l1.length 1,←Nat.add_assoc] at this
 have run:∀(ad:Option Addr) (n1 c1:Nat),a.eval x=.slice ad n1 c1→(execOp a.eval ⟨some d,.binOp .eql t x y u',ty,pos,aft,none⟩).run P w=.ok (.value (.bool ad.isNone)) w:=fun ad n1 c1 hq=>by
  have hy':=(zS hE hy).lit_inv
  have e1:=zjf (P:=P) (w:=w) hdd ad n1 c1
  show ((do pure (.value (←(do eqGuard .eql t x y (a.eval x) (a.eval y);binOp .eql t (a.eval x) (a.eval y):Sem Value))):Sem Next).run P w)=_
  rw [hq,hy']
  simp only [Sem.run_bind,ziS,Result.andThen_ok,binOp,e1]
  rfl
 have hv:=(zS hE hx).isl_inv
 generalize hg:l.map f=els at hv
 generalize hq:a.eval x=v at hv
 cases hv with
 |isl _ _ B o cap vs hA hcap hk hcell hval=>exact fin _ (run _ _ _ hq) h2
 |inil _ ad cap =>
  have hl:l=[]:=by simpa using hg
  cases ad with
  |none=>exact fin _ (run _ _ _ hq) (h1 hl)
  |some _=>exact fin _ (run _ _ _ hq) h2
theorem zxn{v v':AV}(e:v=v')(k:SR P n nb0 all l1 l2 K ((d,v')::env) st):SR P n nb0 all l1 l2 K ((d,v)::env) st:=by rw [e];exact k
end
theorem zss{α:Type}{τ:Nat→Nat}{k:Nat}{f:α→List AV}{o:Option α}:rn τ (zjm k f o)=zjm k f o:=by cases o <;> rfl
def vK(h0:List za)(h1:T2)(c:T0)(m:zc)(x0:AV)(x1:AV)(x2:AV):List AV:=[.ipt 2 [[.isl 6 (map zd h0),.imp (map (rKV (fun x=>iA x)) h1)]] 0 0,sA c,sA m.Name,.isl 1 (map zm m.Params),sA m.Ret,bA m.Static,bA m.Abstract,iA m.Locals,iA m.Stack,.isl 4 (map zx m.Code),.isl 3 (map zaG m.Maps),.isl 4 (map zap m.Traps),x0,x1,x2]
def zpO(a:T0):Unit:=
  ()
theorem zjO(a:T0){r:Unit}(h:zpO a=r):SC Tryz.prog 22 [sA a] [] (.agg [sA a,sA [79,98,106,101,99,116],bA false,.lit (.slice none 0 0),.msl 0 0 1,.msl 1 0 1]) [.xs 3 [[sA [120],sA [73],bA false]],.xs 10 [[sA [109,97,105,110],.lit (.slice none 0 0),sA [86],bA true,bA false,iA 0,iA 0,.msl 2 0 1,.lit (.slice none 0 0),.lit (.slice none 0 0)]],.xs 4 [[iA 46,iA 0,sA [],sA []]]]:=by
 refine ⟨⟨t,t,t,t⟩,zbE Tryz.func22 y kz y ?_⟩
 unfold zpO at h
 refine rg y<|u<|al 0 ti y<|zb ?_
 refine rg y<|u<|mv y<|u<|bd ti y y y<|u<|bl 1 ti y ti y (by decide) (by decide) y y y<|u<|bd ti y y y<|u<|bl 2 ti y ti y (by decide) (by decide) y y y<|u<|bd ti y y y<|u<|bl 3 ti y ti y (by decide) (by decide) y y y<|u<|bd ti y y y<|u<|sto ti y y y<|zb ?_
 refine zg ?_
 obtain rfl:=h
 exact ⟨_,y,zB [.old 1,.old 3,.old 2]⟩
def zpP:Unit:=
  ()
theorem zgb{r:Unit}(h:zpP=r):SC Tryz.prog 51 [] [] (.msl 0 0 3) [.xs 6 [[sA [70,97,99,101],sA [79,98,106,101,99,116],bA true,.lit (.slice none 0 0),.lit (.slice none 0 0),.msl 1 0 1],[sA [65,97],sA [79,98,106,101,99,116],bA false,.msl 2 0 1,.msl 3 0 2,.msl 4 0 1],[sA [66,98],sA [65,97],bA false,.lit (.slice none 0 0),.msl 6 0 1,.msl 7 0 1]],.xs 10 [[sA [102],.lit (.slice none 0 0),sA [73],bA false,bA true,iA 0,iA 0,.lit (.slice none 0 0),.lit (.slice none 0 0),.lit (.slice none 0 0)]],.xs 1 [[sA [70,97,99,101]]],.xs 3 [[sA [120],sA [73],bA false],[sA [115],sA [73],bA true]],.xs 10 [[sA [102],.lit (.slice none 0 0),sA [73],bA false,bA false,iA 1,iA 1,.msl 5 0 2,.lit (.slice none 0 0),.lit (.slice none 0 0)]],.xs 4 [[iA 1,iA 5,sA [],sA []],[iA 47,iA 0,sA [],sA []]],.xs 3 [[sA [121],sA [91,65,97],bA false]],.xs 10 [[sA [109,97,105,110],.lit (.slice none 0 0),sA [86],bA true,bA false,iA 0,iA 0,.msl 8 0 1,.lit (.slice none 0 0),.lit (.slice none 0 0)]],.xs 4 [[iA 46,iA 0,sA [],sA []]]]:=by
 refine ⟨⟨t,t,t,t,t,t,t,t,t,t⟩,zbE Tryz.func51 y kz y ?_⟩
 unfold zpP at h
 refine rg y<|u<|asg y<|zb ?_
 refine rg y<|u<|bd ti y y y<|u<|bl 0 ti y ti y (by decide) (by decide) y y y<|u<|bd ti y y y<|u<|al 1 ti y<|u<|sto ti y y y<|zb ?_
 refine rg y<|u<|bl 2 ti y ti y (by decide) (by decide) y y y<|u<|bd ti y y y<|u<|bd ti y y y<|u<|bl 3 ti y ti y (by decide) (by decide) y y y<|u<|bd ti y y y<|u<|bd ti y y y<|u<|bl 4 ti y ti y (by decide) (by decide) y y y<|u<|bd (parts:=[(0,sA [102]),(2,sA [73]),(5,iA 1),(6,iA 1),(7,.msl 4 0 2)]) (cs:=[sA [102],.lit (.slice none 0 0),sA [73],bA false,bA false,iA 1,iA 1,.msl 4 0 2,.lit (.slice none 0 0),.lit (.slice none 0 0)]) ti y y kz<|u<|bl 5 ti y ti y (by decide) (by decide) y y y<|u<|bd (parts:=[(0,sA [65,97]),(1,sA [79,98,106,101,99,116]),(3,.msl 2 0 1),(4,.msl 3 0 2),(5,.msl 5 0 1)]) (cs:=[sA [65,97],sA [79,98,106,101,99,116],bA false,.msl 2 0 1,.msl 3 0 2,.msl 5 0 1]) ti y y kz<|u<|al 6 ti y<|u<|sto ti y y y<|zb ?_
 refine rg y<|u<|sx [] (zjO [66,98] y)<|u<|al 10 ti y<|u<|sto ti y y y<|zb ?_
 refine rg y<|u<|fa ti y y y<|u<|sto ti y y y<|zb ?_
 refine rg y<|u<|bd ti y y y<|u<|bl 11 ti y ti y (by decide) (by decide) y y y<|u<|fa ti y y y<|u<|sto ti y y y<|zb ?_
 refine rg y<|u<|ld ti y y<|u<|ld ti y y<|u<|ld ti y y<|u<|bl 12 ti y ti y (by decide) (by decide) y y y<|u<|asg y<|zb ?_
 refine zg ?_
 obtain rfl:=h
 exact ⟨_,y,zB [.old 12,.old 0,.old 2,.old 3,.old 5,.old 4,.old 11,.old 8,.old 9]⟩
def zkJ:Bool:=
  true
theorem zny{r:Bool}(h:zkJ=r):zu Tryz.prog 76 [] (bA r):=by
 refine zl Tryz.func76 y kz y y ?_
 unfold zkJ at h
 refine rg y<|u<|asg y<|zb ?_
 refine rg y<|u<|pc (znz y) y y y<|u<|asg y<|zb ?_
 refine zg ?_
 obtain rfl:=h
 exact ⟨_,y,zB []⟩
def zE(a:List za)(b:T2)(c:T0):Option (za×Bool):=
  cond (!(zbL a b c)) (some ((za.mk [] [] false [] [] []),false)) ((zct a b c).bind fun d=>some (d,true))
theorem zG(b:List za)(c:T2)(d:T0){r:za×Bool}(h:zE b c d=some r):zu Tryz.prog 63 [.ipt 2 [[.isl 6 (map zd b),.imp (map (rKV (fun x=>iA x)) c)]] 0 0,sA d] (.tup [.agg (zd r.1),bA r.2]):=by
 refine zl Tryz.func63 y kz y y ?_
 unfold zE at h
 refine rg y<|u<|al 0 ti y<|u<|asg y<|zb ?_
 refine zj ?_
 refine rg y<|u<|mv y<|u<|mv y<|u<|pc (zd9 b c d y) y y y<|u<|nt y<|zb ?_
 refine zf y (fun a=>?_) (fun a=>?_)
 ·
  replace h:=bT a h
  refine rg y<|u<|bd ti y y y<|u<|sto ti y y y<|u<|asg y<|zb ?_
  refine zg ?_
  obtain rfl:=sm h
  exact ⟨_,y,zB []⟩
 ·
  replace h:=bF a h
  refine zi ?_
  obtain ⟨f,e,h⟩:=bs h
  refine rg y<|u<|mv y<|u<|mv y<|u<|pc (zdm b c d e) y y y<|u<|sto ti y y y<|u<|asg y<|zb ?_
  refine zg ?_
  obtain rfl:=sm h
  exact ⟨_,y,zB []⟩
def zdv(b:List za)(c:T2)(a:T0):Option (Bool):=
  some ((a == [73])||(zbL b c a))
def zb4(d:T0)(a:T0)(c:Bool):Option (Sum (T0×T0×Bool) (Sum (T0) (Bool))):=
  cond c ((zeG a).bind fun b=>some (.inl (a,b.1,b.2))) (some (.inr (.inl d)))
def zcY(d:List za)(e:T2)(a:T0):Option (Bool):=
  (zeG a).bind fun c=>(zz (fun z=>zb4 z.1 z.2.1 z.2.2) (a,c.1,c.2)).bind fun o=>zaq o (fun b=>zdv d e b) some
theorem zgq(c:List za)(d:T2)(l:T0){r:Bool}(h:zcY c d l=some r):zu Tryz.prog 134 [.ipt 2 [[.isl 6 (map zd c),.imp (map (rKV (fun x=>iA x)) d)]] 0 0,sA l] (bA r):=by
 refine zl Tryz.func134 y kz y y ?_
 unfold zcY at h
 refine rg y<|u<|asg y<|zb ?_
 refine zj ?_
 obtain ⟨v,n,h⟩:=bs h
 refine rg y<|u<|mv y<|u<|pc (zfE l n) y y y<|u<|mv y<|u<|ex y y<|u<|ex y y<|u<|asg y<|u<|asg y<|zb ?_
 obtain ⟨o,ho,h⟩:=bs h
 refine zaN (X:=T0×T0×Bool) (B:=T0) (R:=Bool) (fun z=>[(0,.ipt 2 [[.isl 6 (map zd c),.imp (map (rKV (fun x=>iA x)) d)]] 0 0),(1,sA z.1),(5,sA z.2.1),(6,bA z.2.2)]) (fun z=>[]) (fun b=>[(0,.ipt 2 [[.isl 6 (map zd c),.imp (map (rKV (fun x=>iA x)) d)]] 0 0),(1,sA b)]) (fun b=>[]) (fun r env st=>zb6 Tryz.prog Tryz.f134 0 (bA r) [] env st) ho (zq []) ?_ ?_ ?_
 ·
  rintro ⟨p,f,m⟩ r h
  replace h:zb4 p f m=some r:=h
  unfold zb4 at h
  refine zj ?_
  refine rg y<|u<|mv y<|zb ?_
  refine zf y (fun e=>?_) (fun e=>?_)
  ·
   replace h:=bT e h
   refine zi ?_
   refine zj ?_
   refine zr ?_
   refine rl y<|u<|mv y<|u<|asg y<|zb ?_
   obtain ⟨s,q,h⟩:=bs h
   refine rl y<|u<|mv y<|u<|pc (zfE f q) y y y<|u<|mv y<|u<|ex y y<|u<|ex y y<|u<|asg y<|u<|asg y<|zb ?_
   obtain rfl:=sm h
   exact ⟨_,y,zq []⟩
  ·
   replace h:=bF e h
   refine zQ ?_
   obtain rfl:=sm h
   exact ⟨y,_,y,zq []⟩
 ·
  rintro i rfl
  replace h:zdv c d i=some r:=h
  unfold zdv at h
  refine zD ?_
  refine rg y<|u<|mv y<|u<|nep ti y y y y y y<|u<|mv y<|g y y<|mv y<|g y y<|seq ti y y<|g y y<|mv y<|ze6 (j:=5) 3 y y y y y (gps y y y) (fun a=>g y a<|mv y<|g y a<|mv y<|g y a<|pc (zd9 c d i y) y y y<|zb (egO [25,26,27] 3 a y y y y)) orT<|u<|pk (b:=true) y y<|u<|asg y<|zb ?_
  refine zg ?_
  obtain rfl:=sm h
  exact ⟨_,y,zB []⟩
 ·
  rintro r' rfl env st hp
  obtain rfl:=sm h
  exact hp
def zem(a:T1):Option (T1):=
  some a
def zaP(b:List za)(c:T2)(a:T0)(d:T1):Option (Sum (T0×T1) (Sum (T1) (T1))):=
  cond (zbL b c a) ((ziA 16 d [a]).bind fun e=>(zct b c a).bind fun f=>some (.inl (f.Super,e))) (some (.inr (.inl d)))
def zai(a:List za)(c:T2)(d:T0):Option (T1):=
  (zz (fun z=>zaP a c z.1 z.2) (d,[])).bind fun o=>zaq o (fun b=>zem b) some
theorem za7(a:List za)(c:T2)(g:T0){r:T1}(h:zai a c g=some r):SC Tryz.prog 66 [.ipt 2 [[.isl 6 (map zd a),.imp (map (rKV (fun x=>iA x)) c)]] 0 0,sA g] [] (.msl 0 0 (length r)) [.many 1 (map zm r)]:=by
 refine ⟨⟨zhi (sz:=1) (fun _=>y),t⟩,zbE Tryz.func66 y kz y ?_⟩
 unfold zai at h
 refine rg y<|u<|asg y<|zb ?_
 refine rg y<|u<|asg y<|zb ?_
 obtain ⟨o,ho,h⟩:=bs h
 refine zvz (X:=T0×T1) (B:=T1) (R:=T1) (fun z=>[(0,.ipt 2 [[.isl 6 (map zd a),.imp (map (rKV (fun x=>iA x)) c)]] 0 0),(1,sA z.1),(5,.msl 0 0 (length z.2))]) (fun z=>[some (1,map zm z.2)]) (fun b=>[(5,.msl 0 0 (length b))]) (fun b=>[some (1,map zm b)]) (fun r env st=>zb6 Tryz.prog Tryz.f66 0 (.msl 0 0 (length r)) [some (1,map zm r)] env st) ho ⟨[.fresh 1],ce y y<|ce y y<|cv y (.nilown y)<|cn,y,⟨w,t⟩,y,k⟩ ?_ ?_ ?_
 ·
  rintro ⟨e,j⟩ r h
  replace h:zaP a c e j=some r:=h
  unfold zaP at h
  refine zj ?_
  refine rg y<|u<|mv y<|u<|mv y<|u<|pc (zd9 a c e y) y y y<|zb ?_
  refine zf y (fun d=>?_) (fun d=>?_)
  ·
   replace h:=bT d h
   refine zi ?_
   refine zr ?_
   obtain ⟨n,l,h⟩:=bs h
   refine rg y<|u<|mv y<|u<|mv y<|u<|bl 1 ti y ti y (by decide) (by decide) y y y<|u<|apM 2 ti y ti y y (by decide) ti y y y y (roX (f:=zm) (z:=[e]) y y) (fun _=>y) y l<|u<|asg y<|zb ?_
   obtain ⟨p,m,h⟩:=bs h
   refine rl y<|u<|mv y<|u<|mv y<|u<|pc (zdm a c e m) y y y<|u<|fdV y y<|u<|asg y<|zb ?_
   obtain rfl:=sm h
   exact ⟨_,y,zq [.old 2]⟩
  ·
   replace h:=bF d h
   refine zQ ?_
   obtain rfl:=sm h
   exact ⟨y,_,y,zq [.old 0]⟩
 ·
  rintro i rfl
  replace h:zem i=some r:=h
  unfold zem at h
  refine rg y<|u<|mv y<|u<|asg y<|zb ?_
  refine zg ?_
  obtain rfl:=sm h
  exact ⟨_,y,zB [.old 0]⟩
 ·
  rintro r' rfl env st hp
  obtain rfl:=sm h
  exact hp
def zdi(a:T1):Option (T1):=
  (zqT a).bind fun b=>some b
def zdh(a:Int)(b:T1)(c:T1):Option (Sum (T1×T1×Int) (Sum (T1) (T1))):=
  some (.inl (b,c,(IntKind.i64.wrap (a+1))))
def zcl(a:Int)(b:T1):Option (Sum (T1×Int) (Sum (T1) (T1))):=
  some (.inl (b,(IntKind.i64.wrap (a+1))))
def zb3(c:za)(a:T1)(b:Int):Option (Sum (T1×Int) (Sum (T1) (T1))):=
  cond (decide (b<(length c.Impl:Int))) ((idx c.Impl b).bind fun d=>(zA a d).bind fun e=>cond (!e) ((ziA 16 a [d]).bind fun f=>zcl b f) (zcl b a)) (some (.inr (.inl a)))
def zb2(a:T1)(c:Int)(d:za)(e:T1):Option (Sum (T1×T1×Int) (Sum (T1) (T1))):=
  (zz (fun z=>zb3 d z.1 z.2) (a,0)).bind fun o=>zaq o (fun b=>zdh c e b) (fun r=>some (.inr (.inr r)))
def zaO(g:List za)(h:T2)(d:T1)(a:T1)(b:Int):Option (Sum (T1×T1×Int) (Sum (T1) (T1))):=
  cond (decide (b<((length a):Int))) ((idx a b).bind fun e=>(zct g h e).bind fun c=>cond c.Interface ((ziA 16 d [c.Name]).bind fun f=>zb2 a b c f) (zb2 a b c d)) (some (.inr (.inl d)))
def zcs(a:List za)(c:T2)(d:T0):Option (T1):=
  cond (!(zbL a c d)) (some []) ((zai a c d).bind fun e=>(zz (fun z=>zaO a c z.1 z.2.1 z.2.2) ([],e,0)).bind fun o=>zaq o (fun b=>zdi b) some)
theorem zeB(e:List za)(g:T2)(v:T0){r:T1}(h:zcs e g v=some r):SC Tryz.prog 136 [.ipt 2 [[.isl 6 (map zd e),.imp (map (rKV (fun x=>iA x)) g)]] 0 0,sA v] [] (.msl 0 0 (length r)) [.many 1 (map zm r)]:=by
 refine ⟨⟨zhi (sz:=1) (fun _=>y),t⟩,zbE Tryz.func136 y kz y ?_⟩
 unfold zcs at h
 refine rg y<|u<|asg y<|zb ?_
 refine zj ?_
 refine rg y<|u<|mv y<|u<|mv y<|u<|pc (zd9 e g v y) y y y<|u<|nt y<|zb ?_
 refine zf y (fun q=>?_) (fun q=>?_)
 ·
  replace h:=bT q h
  refine rg y<|u<|asg y<|zb ?_
  refine zg ?_
  obtain rfl:=sm h
  exact ⟨_,y,[.fresh 1],.nilown y,y,⟨w,t⟩,y,k⟩
 ·
  replace h:=bF q h
  refine zi ?_
  refine rg y<|u<|asg y<|zb ?_
  obtain ⟨I,T,h⟩:=bs h
  refine rg y<|u<|mv y<|u<|mv y<|u<|sx [] (za7 e g v T)<|zK (env0:=[(0,.ipt 2 [[.isl 6 (map zd e),.imp (map (rKV (fun x=>iA x)) g)]] 0 0),(5,.lit (.slice none 0 0)),(17,.msl 0 0 (length I))]) (st0:=[some (1,map zm I)]) (zq [.old 0])<|u<|asg y<|zb ?_
  refine zj ?_
  refine rg y<|u<|asg y<|zb ?_
  obtain ⟨o,ho,h⟩:=bs h
  refine zaN (X:=T1×T1×Int) (B:=T1) (R:=T1) (fun z=>[(0,.ipt 2 [[.isl 6 (map zd e),.imp (map (rKV (fun x=>iA x)) g)]] 0 0),(5,.msl 0 0 (length z.1)),(6,.msl 1 0 (length z.2.1)),(7,iA z.2.2)]) (fun z=>[some (1,map zm z.1),some (1,map zm z.2.1)]) (fun b=>[(5,.msl 0 0 (length b))]) (fun b=>[some (1,map zm b)]) (fun r env st=>zb6 Tryz.prog Tryz.f136 0 (.msl 0 0 (length r)) [some (1,map zm r)] env st) ho ⟨[.fresh 1,.old 0],ce y y<|cv y (.nilown y)<|cv y (.msl y)<|ce y y<|cn,y,⟨w,⟨_,y,zmG (fun _=>y)⟩,t⟩,y,k⟩ ?_ ?_ ?_
  ·
   rintro ⟨A,i,c⟩ r h
   replace h:zaO e g A i c=some r:=h
   unfold zaO at h
   refine zj ?_
   refine rg y<|u<|mv y<|u<|mv y<|u<|lnM ti y y y<|u<|lss ti y y<|zb ?_
   refine zf y (fun j=>?_) (fun j=>?_)
   ·
    replace h:=bT j h
    refine zi ?_
    refine zj ?_
    refine zr ?_
    obtain ⟨J,C,h⟩:=bs h
    obtain ⟨a,K,h⟩:=bs h
    refine rg y<|u<|mv y<|u<|mv y<|u<|mv y<|u<|ixM ti y ti y y y y C<|u<|ldM ti y y (zp C).2.2 y<|u<|pc (zdm e g J K) y y y<|u<|al 2 ti y<|u<|sto ti y y y<|zb ?_
    refine zdk (X:=T1) (fun z=>[(0,.ipt 2 [[.isl 6 (map zd e),.imp (map (rKV (fun x=>iA x)) g)]] 0 0),(5,.msl 0 0 (length z)),(6,.msl 1 0 (length i)),(7,iA c),(8,.mpt 2 0 0)]) (fun z=>[some (1,map zm z),some (1,map zm i),some (6,[(zd a)])]) (fun z=>zb2 i c a z=some r) ?_ ?_
    ·
     refine rg y<|u<|fa ti y y y<|u<|ld ti y y<|zb ?_
     refine zf y (fun l=>?_) (fun l=>?_)
     ·
      replace h:=bT l h
      obtain ⟨L,M,h⟩:=bs h
      exact rl y<|u<|mv y<|u<|fa ti y y y<|u<|ld ti y y<|u<|bl 3 ti y ti y (by decide) (by decide) y y y<|u<|apM 4 ti y ti y y (by decide) ti y y y y (roX (f:=zm) (z:=[a.Name]) y y) (fun _=>y) y M<|u<|asg y<|zb (⟨L,h,zq [.old 4,.old 1,.old 2]⟩)
     ·
      replace h:=bF l h
      refine zi ?_
      exact ⟨A,h,zq [.old 0,.old 1,.old 2]⟩
    ·
     rintro d h
     replace h:zb2 i c a d=some r:=h
     unfold zb2 at h
     refine rg y<|u<|fa ti y y y<|u<|ld ti y y<|u<|lnI ti y y<|u<|mv y<|zb ?_
     obtain ⟨o,ho,h⟩:=bs h
     refine zaN (X:=T1×Int) (B:=T1) (R:=T1) (fun z=>[(0,.ipt 2 [[.isl 6 (map zd e),.imp (map (rKV (fun x=>iA x)) g)]] 0 0),(5,.msl 0 0 (length d)),(6,.msl 1 0 (length z.1)),(7,iA c),(38,.isl 1 (map zm a.Impl)),(39,iA (length a.Impl:Int)),(40,iA z.2)]) (fun z=>[some (1,map zm d),some (1,map zm z.1)]) (fun b=>[(0,.ipt 2 [[.isl 6 (map zd e),.imp (map (rKV (fun x=>iA x)) g)]] 0 0),(5,.msl 0 0 (length d)),(6,.msl 1 0 (length b)),(7,iA c)]) (fun b=>[some (1,map zm d),some (1,map zm b)]) (fun r env st=>zb6 Tryz.prog Tryz.f136 0 (.msl 0 0 (length r)) [some (1,map zm r)] env st) ho (zq [.old 0,.old 1]) ?_ ?_ ?_
     ·
      rintro ⟨s,p⟩ r h
      replace h:zb3 a s p=some r:=h
      unfold zb3 at h
      refine rg y<|u<|lss ti y y<|zb ?_
      refine zj ?_
      refine zf y (fun m=>?_) (fun m=>?_)
      ·
       replace h:=bT m h
       refine zi ?_
       refine zdk (X:=T1) (fun z=>[(0,.ipt 2 [[.isl 6 (map zd e),.imp (map (rKV (fun x=>iA x)) g)]] 0 0),(5,.msl 0 0 (length d)),(6,.msl 1 0 (length z)),(7,iA c),(38,.isl 1 (map zm a.Impl)),(39,iA (length a.Impl:Int)),(40,iA p)]) (fun z=>[some (1,map zm d),some (1,map zm z)]) (fun z=>zcl p z=some r) ?_ ?_
       ·
        refine zr ?_
        obtain ⟨D,E,h⟩:=bs h
        refine rg y<|u<|ixI ti y ti y y y E<|u<|ldI ti y (zp E).2.2 y<|u<|asg y<|zb ?_
        obtain ⟨U,N,h⟩:=bs h
        refine rg y<|u<|mv y<|u<|mv y<|u<|pcs (zaz s D N) y y (.cons (zki y (fun _=>y)) (.cons (si y) .nil)) zdb<|u<|nt y<|zb ?_
        refine zf y (fun n=>?_) (fun n=>?_)
        ·
         replace h:=bT n h
         obtain ⟨O,P,h⟩:=bs h
         exact rl y<|u<|mv y<|u<|mv y<|u<|bl 2 ti y ti y (by decide) (by decide) y y y<|u<|apM 3 ti y ti y y (by decide) ti y y y y (roX (f:=zm) (z:=[D]) y y) (fun _=>y) y P<|u<|asg y<|zb (⟨O,h,zq [.old 0,.old 3]⟩)
        ·
         replace h:=bF n h
         refine zi ?_
         exact ⟨s,h,zq [.old 0,.old 1]⟩
       ·
        rintro Q h
        replace h:zcl p Q=some r:=h
        unfold zcl at h
        refine rl y<|u<|add ti y y<|u<|mv y<|zb ?_
        obtain rfl:=sm h
        exact ⟨_,y,zq [.old 0,.old 1]⟩
      ·
       replace h:=bF m h
       refine zQ ?_
       obtain rfl:=sm h
       exact ⟨y,_,y,zq [.old 0,.old 1]⟩
     ·
      rintro S rfl
      replace h:zdh c d S=some r:=h
      unfold zdh at h
      refine zD ?_
      refine rl y<|u<|mv y<|u<|add ti y y<|u<|asg y<|zb ?_
      obtain rfl:=sm h
      exact ⟨_,y,zq [.old 0,.old 1]⟩
     ·
      rintro r' rfl env st hp
      obtain rfl:=sm h
      exact ⟨_,y,hp⟩
   ·
    replace h:=bF j h
    refine zQ ?_
    obtain rfl:=sm h
    exact ⟨y,_,y,zq [.old 0]⟩
  ·
   rintro F rfl
   replace h:zdi F=some r:=h
   unfold zdi at h
   refine zD ?_
   obtain ⟨G,H,h⟩:=bs h
   refine rg y<|u<|mv y<|u<|sx [0] (ztI F H)<|zK (env0:=[(5,.msl 0 0 (length G))]) (st0:=[some (1,map zm G)]) ⟨[.old 0],cv y (zxE (zsz H) y)<|cn,y,⟨⟨_,y,zmG (fun _=>y)⟩,t⟩,y,k⟩<|zb ?_
   refine rg y<|u<|mv y<|u<|asg y<|zb ?_
   refine zg ?_
   obtain rfl:=sm h
   exact ⟨_,y,zB [.old 0]⟩
  ·
   rintro r' rfl env st hp
   obtain rfl:=sm h
   exact hp
def zbK(o:((List za)×T2×T0×T0→Option Bool))(b:List za)(c:T2)(d:T0)(a:T0):Option (Bool):=
  (zcY b c d).bind fun p=>(cond (!p) (some true) ((zcY b c a).bind fun q=>some (!q))).bind fun r=>cond r (some false) ((zeG d).bind fun e=>(zeG a).bind fun f=>cond (d == a) (some true) (cond (e.2&&f.2) ((cond ((!(e.1 == [73]))&&(!(f.1 == [73]))) ((o (b,c,e.1,f.1)).bind fun g=>some g) (some false)).bind fun h=>some h) (cond e.2 (some (a == [79,98,106,101,99,116])) ((zai b c d).bind fun i=>(zA i a).bind fun j=>(cond j (some true) ((zcs b c d).bind fun l=>(zA l a).bind fun m=>some m)).bind fun n=>some n))))
theorem ziU(C:((List za)×T2×T0×T0→Option Bool))(hrec:∀z r,C z=some r→zu Tryz.prog 82 [.ipt 2 [[.isl 6 (map zd z.1),.imp (map (rKV (fun x=>iA x)) z.2.1)]] 0 0,sA z.2.2.1,sA z.2.2.2] (bA r))(e:List za)(f:T2)(l:T0)(m:T0){r:Bool}(h:zbK C e f l m=some r):zu Tryz.prog 82 [.ipt 2 [[.isl 6 (map zd e),.imp (map (rKV (fun x=>iA x)) f)]] 0 0,sA l,sA m] (bA r):=by
 refine zl Tryz.func82 y kz y y ?_
 unfold zbK at h
 refine rg y<|u<|asg y<|zb ?_
 refine zj ?_
 obtain ⟨V,L,h⟩:=bs h
 obtain ⟨M,q,h⟩:=bs h
 refine rg y<|u<|mv y<|u<|mv y<|u<|pc (zgq e f l L) y y y<|u<|nt y<|u<|mv y<|ze6 (x:=M) (j:=4) 4 y y y y y gpn (fun i=>by replace q:=bF i q;obtain ⟨W,N,q⟩:=bs q;obtain rfl:=sm q;exact g y i<|mv y<|g y i<|mv y<|g y i<|pc (zgq e f m N) y y y<|g y i<|nt y<|zb (eg [16,17,18,19] 4 y y y y)) (fun hb=>(sm (bT hb q)).symm)<|zb ?_
 refine zf y (fun s=>?_) (fun s=>?_)
 ·
  replace h:=bT s h
  refine rg y<|u<|asg y<|zb ?_
  refine zg ?_
  obtain rfl:=sm h
  exact ⟨_,y,zB []⟩
 ·
  replace h:=bF s h
  refine zi ?_
  obtain ⟨O,P,h⟩:=bs h
  refine rg y<|u<|mv y<|u<|pc (zfE l P) y y y<|u<|mv y<|u<|ex y y<|u<|ex y y<|u<|asg y<|u<|asg y<|zb ?_
  obtain ⟨Q,R,h⟩:=bs h
  refine rg y<|u<|mv y<|u<|pc (zfE m R) y y y<|u<|mv y<|u<|ex y y<|u<|ex y y<|u<|asg y<|u<|asg y<|zb ?_
  refine zj ?_
  refine zr ?_
  refine rg y<|u<|mv y<|u<|mv y<|u<|seq ti y y<|u<|asg y<|zb ?_
  refine zf y (fun v=>?_) (fun v=>?_)
  ·
   replace h:=bT v h
   refine rg y<|u<|asg y<|zb ?_
   refine zg ?_
   obtain rfl:=sm h
   exact ⟨_,y,zB []⟩
  ·
   replace h:=bF v h
   refine rg y<|u<|mv y<|u<|mv y<|zbq (j:=1) 1 y y y y y gpn (fun B=>g y B<|mv y<|zb (egA [38] 1 B y y y y)) zhn<|u<|asg y<|zb ?_
   refine zf y (fun n=>?_) (fun n=>?_)
   ·
    replace h:=bT n h
    obtain ⟨D,d,h⟩:=bs h
    refine rg y<|u<|mv y<|u<|sne ti y y<|u<|mv y<|zbq (j:=2) 2 y y y y y gpn (fun o=>g y o<|mv y<|g y o<|sne ti y y<|zb (egA [43,44] 2 o y y y y)) zhn<|u<|mv y<|zbq (x:=D) (j:=6) 4 y y y y y gpn (fun c=>by replace d:=bT c d;obtain ⟨S,E,d⟩:=bs d;obtain rfl:=sm d;exact g y c<|mv y<|g y c<|mv y<|g y c<|mv y<|g y c<|pc (hrec (e,f,O.1,Q.1) _ E) y y y<|zb (eg [47,48,49,50] 4 y y y y)) (fun hb=>(sm (bF hb d)).symm)<|u<|asg y<|zb ?_
    refine zg ?_
    obtain rfl:=sm h
    exact ⟨_,y,zB []⟩
   ·
    replace h:=bF n h
    refine rg y<|u<|mv y<|u<|asg y<|zb ?_
    refine zf y (fun p=>?_) (fun p=>?_)
    ·
     replace h:=bT p h
     refine rg y<|u<|mv y<|u<|seq ti y y<|u<|asg y<|zb ?_
     refine zg ?_
     obtain rfl:=sm h
     exact ⟨_,y,zB []⟩
    ·
     replace h:=bF p h
     refine zi ?_
     obtain ⟨A,F,h⟩:=bs h
     obtain ⟨T,G,h⟩:=bs h
     obtain ⟨H,b,h⟩:=bs h
     refine rg y<|u<|mv y<|u<|mv y<|u<|sx [] (za7 e f l F)<|zK (env0:=[(0,.ipt 2 [[.isl 6 (map zd e),.imp (map (rKV (fun x=>iA x)) f)]] 0 0),(1,sA l),(2,sA m),(58,.msl 0 0 (length A))]) (st0:=[some (1,map zm A)]) (zq [.old 0])<|u<|mv y<|u<|pcs (zaz A m G) y y (.cons (zki y (fun _=>y)) (.cons (si y) .nil)) zdb<|u<|mv y<|zxl (x:=H) (j:=5) 5 1 y y y y y gpn (fun a=>by replace b:=bF a b;obtain ⟨I,J,b⟩:=bs b;obtain ⟨U,K,b⟩:=bs b;obtain rfl:=sm b;exact g y a<|mv y<|g y a<|mv y<|g y a<|sx [] (zeB e f l J)<|g y a<|mv y<|g y a<|pcs (zaz I m K) y y (.cons (zki y (fun _=>y)) (.cons (si y) .nil)) zdb<|zb (xg [62,63,64,65,66] 5 y y y y y y)) (fun hb=>(sm (bT hb b)).symm)<|u<|asg y<|zb ?_
     refine zg ?_
     obtain rfl:=sm h
     exact ⟨_,y,zB []⟩
def zcg(a:List za)(b:T2)(c:T0)(d:T0):Option Bool:=
  zwB (fun e z=>zbK e z.1 z.2.1 z.2.2.1 z.2.2.2) (a,b,c,d)
theorem zcH(b:List za)(c:T2)(d:T0)(e:T0){r:Bool}(h:zcg b c d e=some r):zu Tryz.prog 82 [.ipt 2 [[.isl 6 (map zd b),.imp (map (rKV (fun x=>iA x)) c)]] 0 0,sA d,sA e] (bA r):=
  zvq (F:=(fun a z=>zbK a z.1 z.2.1 z.2.2.1 z.2.2.2)) (Q:=fun z r=>zu Tryz.prog 82 [.ipt 2 [[.isl 6 (map zd z.1),.imp (map (rKV (fun x=>iA x)) z.2.1)]] 0 0,sA z.2.2.1,sA z.2.2.2] (bA r)) (fun a hv z r h=>ziU a hv z.1 z.2.1 z.2.2.1 z.2.2.2 h) h
def zcp(b:List za)(c:T2)(a:T0):Option (Bool):=
  (cond ((a == [78])||(a == [84])) (some true) ((zcg b c a a).bind fun d=>some d)).bind fun e=>some e
theorem zdd(f:List za)(i:T2)(e:T0){r:Bool}(h:zcp f i e=some r):zu Tryz.prog 79 [.ipt 2 [[.isl 6 (map zd f),.imp (map (rKV (fun x=>iA x)) i)]] 0 0,sA e] (bA r):=by
 refine zl Tryz.func79 y kz y y ?_
 unfold zcp at h
 refine rg y<|u<|asg y<|zb ?_
 obtain ⟨l,c,h⟩:=bs h
 refine rg y<|u<|mv y<|u<|nep ti y y y y y y<|u<|mv y<|g y y<|mv y<|g y y<|seq ti y y<|g y y<|mv y<|ze6 (j:=5) 2 y y y y y (gps y y y) (fun d=>g y d<|mv y<|g y d<|seq ti y y<|zb (egO [11,12] 2 d y y y y)) orT<|g y y<|mv y<|ze6 (x:=l) (j:=9) 4 y y y y y (gps y y y) (fun a=>by replace c:=bF a c;obtain ⟨n,m,c⟩:=bs c;obtain rfl:=sm c;exact g y a<|mv y<|g y a<|mv y<|g y a<|mv y<|g y a<|pc (zcH f i e e m) y y y<|zb (eg [15,16,17,18] 4 y y y y)) (fun hb=>(sm (bT hb c)).symm)<|u<|pk (b:=true) y y<|u<|asg y<|zb ?_
 refine zg ?_
 obtain rfl:=sm h
 exact ⟨_,y,zB []⟩
def zf0(a:T0)(b:List za)(c:T2):Option (Bool):=
  (zcp b c a).bind fun d=>some d
theorem zko(a:T0)(b:List za)(c:T2){r:Bool}(h:zf0 a b c=some r):zu Tryz.prog 78 [sA a,.ipt 1 [[.ipt 2 [[.isl 6 (map zd b),.imp (map (rKV (fun x=>iA x)) c)]] 0 0]] 0 0] (bA r):=by
 refine zl Tryz.func78 y kz y y ?_
 unfold zf0 at h
 refine rg y<|u<|asg y<|zb ?_
 obtain ⟨e,d,h⟩:=bs h
 refine rg y<|u<|ld ti y y<|u<|mv y<|u<|pc (zdd b c a d) y y y<|u<|asg y<|zb ?_
 refine zg ?_
 obtain rfl:=sm h
 exact ⟨_,y,zB []⟩
def zhv(a:T0)(b:List za)(c:T2):Option (Bool):=
  (zf0 a b c).bind fun d=>some (!d)
theorem zmf(a:T0)(b:List za)(c:T2){r:Bool}(h:zhv a b c=some r):zu Tryz.prog 133 [sA a,.ipt 1 [[.fn (.func 78) [] [.ipt 1 [[.ipt 2 [[.isl 6 (map zd b),.imp (map (rKV (fun x=>iA x)) c)]] 0 0]] 0 0]]] 0 0] (bA r):=by
 refine zl Tryz.func133 y kz y y ?_
 unfold zhv at h
 refine rg y<|u<|asg y<|zb ?_
 obtain ⟨e,d,h⟩:=bs h
 refine rg y<|u<|ld ti y y<|u<|mv y<|u<|pc (zko a b c d) y y y<|u<|nt y<|u<|asg y<|zb ?_
 refine zg ?_
 obtain rfl:=sm h
 exact ⟨_,y,zB []⟩
def zbn:Option (Int):=
  some (-1)
def zac(b:T1)(c:List za)(d:T2)(a:Int):Option (Sum (Int) (Sum (Unit) (Int))):=
  cond (decide (a<(length b:Int))) ((idx b a).bind fun e=>(zhv e c d).bind fun f=>cond f (some (.inr (.inr a))) (some (.inl (IntKind.i64.wrap (a+1))))) (some (.inr (.inl ())))
def zbS(a:T1)(c:List za)(d:T2):Option (Int):=
  (zz (fun z=>zac a c d z) 0).bind fun o=>zaq o (fun b=>zbn) some
theorem zfl(a:T1)(c:List za)(d:T2){r:Int}(h:zbS a c d=some r):zu Tryz.prog 110 [.isl 1 (map zm a),.fn (.func 133) [] [.ipt 1 [[.fn (.func 78) [] [.ipt 1 [[.ipt 2 [[.isl 6 (map zd c),.imp (map (rKV (fun x=>iA x)) d)]] 0 0]] 0 0]]] 0 0]] (iA r):=by
 refine zl Tryz.func110 y kz y y ?_
 unfold zbS at h
 refine rg y<|u<|asg y<|zb ?_
 refine zj ?_
 refine rg y<|u<|mv y<|u<|lnI ti y y<|u<|mv y<|zb ?_
 obtain ⟨o,ho,h⟩:=bs h
 refine zaN (X:=Int) (B:=Unit) (R:=Int) (fun z=>[(0,.isl 1 (map zm a)),(1,.fn (.func 133) [] [.ipt 1 [[.fn (.func 78) [] [.ipt 1 [[.ipt 2 [[.isl 6 (map zd c),.imp (map (rKV (fun x=>iA x)) d)]] 0 0]] 0 0]]] 0 0]),(7,iA (length a:Int)),(8,iA z)]) (fun z=>[]) (fun b=>[]) (fun b=>[]) (fun r env st=>zb6 Tryz.prog Tryz.f110 0 (iA r) [] env st) ho (zq []) ?_ ?_ ?_
 ·
  rintro i r h
  replace h:zac a c d i=some r:=h
  unfold zac at h
  refine rg y<|u<|lss ti y y<|zb ?_
  refine zj ?_
  refine zf y (fun e=>?_) (fun e=>?_)
  ·
   replace h:=bT e h
   refine zi ?_
   refine zj ?_
   refine zr ?_
   refine rg y<|u<|mv y<|u<|asg y<|zb ?_
   obtain ⟨j,g,h⟩:=bs h
   obtain ⟨m,l,h⟩:=bs h
   refine rg y<|u<|mv y<|u<|mv y<|u<|mv y<|u<|ixI ti y ti y y y g<|u<|ldI ti y (zp g).2.2 y<|u<|pc (zmf j c d l) y y y<|zb ?_
   refine zf y (fun f=>?_) (fun f=>?_)
   ·
    replace h:=bT f h
    refine rg y<|u<|mv y<|u<|asg y<|zb ?_
    refine zg ?_
    obtain rfl:=sm h
    exact ⟨_,y,_,y,zB []⟩
   ·
    replace h:=bF f h
    refine zi ?_
    refine rl y<|u<|add ti y y<|u<|mv y<|zb ?_
    obtain rfl:=sm h
    exact ⟨_,y,zq []⟩
  ·
   replace h:=bF e h
   refine zQ ?_
   obtain rfl:=sm h
   exact ⟨y,_,y,zq []⟩
 ·
  rintro ⟨⟩ rfl
  replace h:zbn=some r:=h
  unfold zbn at h
  refine zD ?_
  refine rg y<|u<|asg y<|zb ?_
  refine zg ?_
  obtain rfl:=sm h
  exact ⟨_,y,zB []⟩
 ·
  rintro r' rfl env st hp
  obtain rfl:=sm h
  exact hp
def zbg(a:T1)(b:List za)(c:T2):Option (Bool):=
  (zbS a b c).bind fun d=>some (decide (0≤d))
theorem zeM(a:T1)(b:List za)(c:T2){r:Bool}(h:zbg a b c=some r):zu Tryz.prog 56 [.isl 1 (map zm a),.fn (.func 133) [] [.ipt 1 [[.fn (.func 78) [] [.ipt 1 [[.ipt 2 [[.isl 6 (map zd b),.imp (map (rKV (fun x=>iA x)) c)]] 0 0]] 0 0]]] 0 0]] (bA r):=by
 refine zl Tryz.func56 y kz y y ?_
 unfold zbg at h
 refine rg y<|u<|asg y<|zb ?_
 obtain ⟨e,d,h⟩:=bs h
 refine rg y<|u<|mv y<|u<|mv y<|u<|pc (zfl a b c d) y y y<|u<|geq ti y y<|u<|asg y<|zb ?_
 refine zg ?_
 obtain rfl:=sm h
 exact ⟨_,y,zB []⟩
def zgO(a:T1)(b:List za)(c:T2):Option (Bool):=
  (zbg a b c).bind fun d=>some (!d)
theorem zkr(a:T1)(b:List za)(c:T2){r:Bool}(h:zgO a b c=some r):zu Tryz.prog 81 [.isl 1 (map zm a),.fn (.func 78) [] [.ipt 1 [[.ipt 2 [[.isl 6 (map zd b),.imp (map (rKV (fun x=>iA x)) c)]] 0 0]] 0 0]] (bA r):=by
 refine zl Tryz.func81 y kz y y ?_
 unfold zgO at h
 refine rg y<|u<|bx 0 1 y y y y<|u<|asg y<|zb ?_
 obtain ⟨e,d,h⟩:=bs h
 refine rg y<|u<|mv y<|u<|mf y y<|u<|pcs (zeM a b c d) y y (.cons (si y) (.cons (zd0 t ⟨(zcb y ⟨(si y),t⟩),t⟩) .nil)) zdb<|u<|nt y<|u<|asg y<|zb ?_
 refine zg ?_
 obtain rfl:=sm h
 exact ⟨_,y,zB []⟩
def zhh(a:List za)(b:T2)(c:T0)(d:zc)(e:T1)(f:T1)(g:Bool)(h:Bool):Unit:=
  ()
theorem zo(d:List za)(e:T2)(f:T0)(i:zc)(a:T1)(b:T1)(l:Bool)(m:Bool){r:Unit}(h:zhh d e f i a b l m=r):SC Tryz.prog 80 [.mpt 0 0 0,bA m] [.one 15 (vK d e f i (.msl 1 0 (length a)) (.msl 2 0 (length b)) (bA l)),.many 1 (map zm a),.many 1 (map zm b)] (.tup []) [.one 15 (vK d e f i (.msl 1 0 (length a)) (.msl 2 0 (length b)) (bA (l||(!m)))),.many 1 (map zm a),.many 1 (map zm b)]:=by
 refine ⟨⟨t,zhi (sz:=1) (fun _=>y),zhi (sz:=1) (fun _=>y),t⟩,zbE Tryz.func80 y kz y ?_⟩
 unfold zhh at h
 refine rl y<|u<|mv y<|u<|mv y<|u<|nc y y<|u<|fa ti y y y<|u<|ld ti y y<|u<|mv y<|ze6 (j:=5) 2 y y y y y gpn (fun c=>g y c<|mv y<|g y c<|nt y<|zb (egO [10,11] 2 c y y y y)) orT<|u<|nc y y<|u<|fa ti y y y<|u<|sto ti y y y<|zb ?_
 obtain rfl:=h
 exact ⟨_,y,zB [.old 0,.old 1,.old 2]⟩
def zf1(a:T0)(b:List za)(c:T2):Option (Bool):=
  (zcg b c a a).bind fun d=>some d
theorem zkp(a:T0)(b:List za)(c:T2){r:Bool}(h:zf1 a b c=some r):zu Tryz.prog 83 [sA a,.ipt 1 [[.ipt 2 [[.isl 6 (map zd b),.imp (map (rKV (fun x=>iA x)) c)]] 0 0]] 0 0] (bA r):=by
 refine zl Tryz.func83 y kz y y ?_
 unfold zf1 at h
 refine rg y<|u<|asg y<|zb ?_
 obtain ⟨e,d,h⟩:=bs h
 refine rg y<|u<|ld ti y y<|u<|mv y<|u<|mv y<|u<|pc (zcH b c a a d) y y y<|u<|asg y<|zb ?_
 refine zg ?_
 obtain rfl:=sm h
 exact ⟨_,y,zB []⟩
def zf2(a:T0)(b:List za)(c:T2):Option (Bool):=
  (zf1 a b c).bind fun d=>some (!d)
theorem zkq(a:T0)(b:List za)(c:T2){r:Bool}(h:zf2 a b c=some r):zu Tryz.prog 133 [sA a,.ipt 1 [[.fn (.func 83) [] [.ipt 1 [[.ipt 2 [[.isl 6 (map zd b),.imp (map (rKV (fun x=>iA x)) c)]] 0 0]] 0 0]]] 0 0] (bA r):=by
 refine zl Tryz.func133 y kz y y ?_
 unfold zf2 at h
 refine rg y<|u<|asg y<|zb ?_
 obtain ⟨e,d,h⟩:=bs h
 refine rg y<|u<|ld ti y y<|u<|mv y<|u<|pc (zkp a b c d) y y y<|u<|nt y<|u<|asg y<|zb ?_
 refine zg ?_
 obtain rfl:=sm h
 exact ⟨_,y,zB []⟩
def zbo:Option (Int):=
  some (-1)
def zad(b:T1)(c:List za)(d:T2)(a:Int):Option (Sum (Int) (Sum (Unit) (Int))):=
  cond (decide (a<(length b:Int))) ((idx b a).bind fun e=>(zf2 e c d).bind fun f=>cond f (some (.inr (.inr a))) (some (.inl (IntKind.i64.wrap (a+1))))) (some (.inr (.inl ())))
def zbT(a:T1)(c:List za)(d:T2):Option (Int):=
  (zz (fun z=>zad a c d z) 0).bind fun o=>zaq o (fun b=>zbo) some
theorem zfm(a:T1)(c:List za)(d:T2){r:Int}(h:zbT a c d=some r):zu Tryz.prog 110 [.isl 1 (map zm a),.fn (.func 133) [] [.ipt 1 [[.fn (.func 83) [] [.ipt 1 [[.ipt 2 [[.isl 6 (map zd c),.imp (map (rKV (fun x=>iA x)) d)]] 0 0]] 0 0]]] 0 0]] (iA r):=by
 refine zl Tryz.func110 y kz y y ?_
 unfold zbT at h
 refine rg y<|u<|asg y<|zb ?_
 refine zj ?_
 refine rg y<|u<|mv y<|u<|lnI ti y y<|u<|mv y<|zb ?_
 obtain ⟨o,ho,h⟩:=bs h
 refine zaN (X:=Int) (B:=Unit) (R:=Int) (fun z=>[(0,.isl 1 (map zm a)),(1,.fn (.func 133) [] [.ipt 1 [[.fn (.func 83) [] [.ipt 1 [[.ipt 2 [[.isl 6 (map zd c),.imp (map (rKV (fun x=>iA x)) d)]] 0 0]] 0 0]]] 0 0]),(7,iA (length a:Int)),(8,iA z)]) (fun z=>[]) (fun b=>[]) (fun b=>[]) (fun r env st=>zb6 Tryz.prog Tryz.f110 0 (iA r) [] env st) ho (zq []) ?_ ?_ ?_
 ·
  rintro i r h
  replace h:zad a c d i=some r:=h
  unfold zad at h
  refine rg y<|u<|lss ti y y<|zb ?_
  refine zj ?_
  refine zf y (fun e=>?_) (fun e=>?_)
  ·
   replace h:=bT e h
   refine zi ?_
   refine zj ?_
   refine zr ?_
   refine rg y<|u<|mv y<|u<|asg y<|zb ?_
   obtain ⟨j,g,h⟩:=bs h
   obtain ⟨m,l,h⟩:=bs h
   refine rg y<|u<|mv y<|u<|mv y<|u<|mv y<|u<|ixI ti y ti y y y g<|u<|ldI ti y (zp g).2.2 y<|u<|pc (zkq j c d l) y y y<|zb ?_
   refine zf y (fun f=>?_) (fun f=>?_)
   ·
    replace h:=bT f h
    refine rg y<|u<|mv y<|u<|asg y<|zb ?_
    refine zg ?_
    obtain rfl:=sm h
    exact ⟨_,y,_,y,zB []⟩
   ·
    replace h:=bF f h
    refine zi ?_
    refine rl y<|u<|add ti y y<|u<|mv y<|zb ?_
    obtain rfl:=sm h
    exact ⟨_,y,zq []⟩
  ·
   replace h:=bF e h
   refine zQ ?_
   obtain rfl:=sm h
   exact ⟨y,_,y,zq []⟩
 ·
  rintro ⟨⟩ rfl
  replace h:zbo=some r:=h
  unfold zbo at h
  refine zD ?_
  refine rg y<|u<|asg y<|zb ?_
  refine zg ?_
  obtain rfl:=sm h
  exact ⟨_,y,zB []⟩
 ·
  rintro r' rfl env st hp
  obtain rfl:=sm h
  exact hp
def zbh(a:T1)(b:List za)(c:T2):Option (Bool):=
  (zbT a b c).bind fun d=>some (decide (0≤d))
theorem zeN(a:T1)(b:List za)(c:T2){r:Bool}(h:zbh a b c=some r):zu Tryz.prog 56 [.isl 1 (map zm a),.fn (.func 133) [] [.ipt 1 [[.fn (.func 83) [] [.ipt 1 [[.ipt 2 [[.isl 6 (map zd b),.imp (map (rKV (fun x=>iA x)) c)]] 0 0]] 0 0]]] 0 0]] (bA r):=by
 refine zl Tryz.func56 y kz y y ?_
 unfold zbh at h
 refine rg y<|u<|asg y<|zb ?_
 obtain ⟨e,d,h⟩:=bs h
 refine rg y<|u<|mv y<|u<|mv y<|u<|pc (zfm a b c d) y y y<|u<|geq ti y y<|u<|asg y<|zb ?_
 refine zg ?_
 obtain rfl:=sm h
 exact ⟨_,y,zB []⟩
def zf3(a:T1)(b:List za)(c:T2):Option (Bool):=
  (zbh a b c).bind fun d=>some (!d)
theorem zlg(a:T1)(b:List za)(c:T2){r:Bool}(h:zf3 a b c=some r):zu Tryz.prog 81 [.isl 1 (map zm a),.fn (.func 83) [] [.ipt 1 [[.ipt 2 [[.isl 6 (map zd b),.imp (map (rKV (fun x=>iA x)) c)]] 0 0]] 0 0]] (bA r):=by
 refine zl Tryz.func81 y kz y y ?_
 unfold zf3 at h
 refine rg y<|u<|bx 0 1 y y y y<|u<|asg y<|zb ?_
 obtain ⟨e,d,h⟩:=bs h
 refine rg y<|u<|mv y<|u<|mf y y<|u<|pcs (zeN a b c d) y y (.cons (si y) (.cons (zd0 t ⟨(zcb y ⟨(si y),t⟩),t⟩) .nil)) zdb<|u<|nt y<|u<|asg y<|zb ?_
 refine zg ?_
 obtain rfl:=sm h
 exact ⟨_,y,zB []⟩
def zdB(a:zaA)(b:Int):Bool:=
  (a.At == b)
theorem zhW(a:zaA)(b:Int){r:Bool}(h:zdB a b=r):zu Tryz.prog 212 [.agg (zaG a),.ipt 1 [[iA b]] 0 0] (bA r):=by
 refine zl Tryz.func212 y kz y y ?_
 unfold zdB at h
 refine rg y<|u<|bx 0 3 y y y y<|u<|asg y<|zb ?_
 refine rg y<|u<|fa ti y y y<|u<|ld ti y y<|u<|ld ti y y<|u<|eql ti y y<|u<|asg y<|zb ?_
 refine zg ?_
 obtain rfl:=h
 exact ⟨_,y,zB []⟩
def zbA:Option (Int):=
  some (-1)
def zak(b:List zaA)(c:Int)(a:Int):Option (Sum (Int) (Sum (Unit) (Int))):=
  cond (decide (a<(length b:Int))) ((idx b a).bind fun d=>cond (zdB d c) (some (.inr (.inr a))) (some (.inl (IntKind.i64.wrap (a+1))))) (some (.inr (.inl ())))
def zbY(a:List zaA)(c:Int):Option (Int):=
  (zz (fun z=>zak a c z) 0).bind fun o=>zaq o (fun b=>zbA) some
theorem zfB(a:List zaA)(c:Int){r:Int}(h:zbY a c=some r):zu Tryz.prog 211 [.isl 3 (map zaG a),.fn (.func 212) [] [.ipt 1 [[iA c]] 0 0]] (iA r):=by
 refine zl Tryz.func211 y kz y y ?_
 unfold zbY at h
 refine rg y<|u<|asg y<|zb ?_
 refine zj ?_
 refine rg y<|u<|mv y<|u<|lnI ti y y<|u<|mv y<|zb ?_
 obtain ⟨o,ho,h⟩:=bs h
 refine zaN (X:=Int) (B:=Unit) (R:=Int) (fun z=>[(0,.isl 3 (map zaG a)),(1,.fn (.func 212) [] [.ipt 1 [[iA c]] 0 0]),(7,iA (length a:Int)),(8,iA z)]) (fun z=>[]) (fun b=>[]) (fun b=>[]) (fun r env st=>zb6 Tryz.prog Tryz.f211 0 (iA r) [] env st) ho (zq []) ?_ ?_ ?_
 ·
  rintro g r h
  replace h:zak a c g=some r:=h
  unfold zak at h
  refine rg y<|u<|lss ti y y<|zb ?_
  refine zj ?_
  refine zf y (fun d=>?_) (fun d=>?_)
  ·
   replace h:=bT d h
   refine zi ?_
   refine zj ?_
   refine zr ?_
   refine rg y<|u<|mv y<|u<|asg y<|zb ?_
   obtain ⟨i,f,h⟩:=bs h
   refine rg y<|u<|mv y<|u<|mv y<|u<|mv y<|u<|ixI ti y ti y y y f<|u<|ldI ti y (zp f).2.2 y<|u<|pc (zhW i c y) y y y<|zb ?_
   refine zf y (fun e=>?_) (fun e=>?_)
   ·
    replace h:=bT e h
    refine rg y<|u<|mv y<|u<|asg y<|zb ?_
    refine zg ?_
    obtain rfl:=sm h
    exact ⟨_,y,_,y,zB []⟩
   ·
    replace h:=bF e h
    refine zi ?_
    refine rl y<|u<|add ti y y<|u<|mv y<|zb ?_
    obtain rfl:=sm h
    exact ⟨_,y,zq []⟩
  ·
   replace h:=bF d h
   refine zQ ?_
   obtain rfl:=sm h
   exact ⟨y,_,y,zq []⟩
 ·
  rintro ⟨⟩ rfl
  replace h:zbA=some r:=h
  unfold zbA at h
  refine zD ?_
  refine rg y<|u<|asg y<|zb ?_
  refine zg ?_
  obtain rfl:=sm h
  exact ⟨_,y,zB []⟩
 ·
  rintro r' rfl env st hp
  obtain rfl:=sm h
  exact hp
def zck(e:List za)(f:T2)(g:T0)(a:zc)(h:T1)(i:T1)(j:Bool)(d:Int):Option ((Option zaA)):=
  (zbY a.Maps d).bind fun b=>cond (decide (b<0)) (some none) ((idx a.Maps b).bind fun c=>some (some c))
theorem zer(e:List za)(f:T2)(g:T0)(d:zc)(a:T1)(b:T1)(i:Bool)(j:Int){r:(Option zaA)}(h:zck e f g d a b i j=some r):SC Tryz.prog 137 [.mpt 0 0 0,iA j] [.one 15 (vK e f g d (.msl 1 0 (length a)) (.msl 2 0 (length b)) (bA i)),.many 1 (map zm a),.many 1 (map zm b)] (zjm 3 zaG r) [.one 15 (vK e f g d (.msl 1 0 (length a)) (.msl 2 0 (length b)) (bA i)),.many 1 (map zm a),.many 1 (map zm b)]:=by
 refine ⟨⟨t,zhi (sz:=1) (fun _=>y),zhi (sz:=1) (fun _=>y),t⟩,zbE Tryz.func137 y kz y ?_⟩
 unfold zck at h
 refine rg y<|u<|bx 3 1 y y y y<|u<|asg y<|zb ?_
 obtain ⟨o,m,h⟩:=bs h
 refine rg y<|u<|mv y<|u<|nc y y<|u<|fa ti y y y<|u<|fa ti y y y<|u<|ld ti y y<|u<|mf y y<|u<|pcs (zfB d.Maps j m) y y (.cons (si y) (.cons (zd0 t ⟨(zcb y ⟨(si y),t⟩),t⟩) .nil)) zdb<|u<|asg y<|zb ?_
 refine zj ?_
 refine rg y<|u<|mv y<|u<|lss ti y y<|zb ?_
 refine zf y (fun c=>?_) (fun c=>?_)
 ·
  replace h:=bT c h
  refine rg y<|u<|asg y<|zb ?_
  refine zg ?_
  obtain rfl:=sm h
  exact ⟨_,y,zB [.old 0,.old 1,.old 2]⟩
 ·
  replace h:=bF c h
  refine zi ?_
  obtain ⟨n,l,h⟩:=bs h
  refine rg y<|u<|mv y<|u<|nc y y<|u<|fa ti y y y<|u<|fa ti y y y<|u<|ld ti y y<|u<|mv y<|u<|ixI ti y ti y y y l<|zxU l<|u<|asg y<|zb ?_
  refine zg ?_
  obtain rfl:=sm h
  exact ⟨_,y,zB [.old 0,.old 1,.old 2]⟩
def zeQ(b:List za)(c:T2)(a:T0):Option (Bool):=
  (cond (!(a == [73])) ((zcg b c a a).bind fun d=>some d) (some false)).bind fun e=>some e
theorem zhf(d:List za)(e:T2)(c:T0){r:Bool}(h:zeQ d e c=some r):zu Tryz.prog 252 [.ipt 2 [[.isl 6 (map zd d),.imp (map (rKV (fun x=>iA x)) e)]] 0 0,sA c] (bA r):=by
 refine zl Tryz.func252 y kz y y ?_
 unfold zeQ at h
 refine rg y<|u<|asg y<|zb ?_
 obtain ⟨f,b,h⟩:=bs h
 refine rg y<|u<|mv y<|u<|sne ti y y<|u<|mv y<|zbq (x:=f) (j:=2) 4 y y y y y gpn (fun a=>by replace b:=bT a b;obtain ⟨l,i,b⟩:=bs b;obtain rfl:=sm b;exact g y a<|mv y<|g y a<|mv y<|g y a<|mv y<|g y a<|pc (zcH d e c c i) y y y<|zb (eg [8,9,10,11] 4 y y y y)) (fun hb=>(sm (bF hb b)).symm)<|u<|asg y<|zb ?_
 refine zg ?_
 obtain rfl:=sm h
 exact ⟨_,y,zB []⟩
def zdz(a:List za)(b:T2)(d:T0)(c:T0):Option (Bool):=
  (zcp a b d).bind fun j=>(cond (!j) (some true) ((zcp a b c).bind fun l=>some (!l))).bind fun m=>cond m (some false) (cond ((c == [84])||(d == c)) (some true) (cond (d == [78]) ((zeQ a b c).bind fun n=>some n) ((zeQ a b d).bind fun o=>(cond (!o) (some true) ((zeQ a b c).bind fun e=>some (!e))).bind fun f=>cond f (some false) ((zE a b c).bind fun g=>(cond g.1.Interface (some true) ((zcg a b d c).bind fun h=>some h)).bind fun i=>some i))))
theorem zaK(e:List za)(f:T2)(p:T0)(l:T0){r:Bool}(h:zdz e f p l=some r):zu Tryz.prog 198 [.ipt 2 [[.isl 6 (map zd e),.imp (map (rKV (fun x=>iA x)) f)]] 0 0,sA p,sA l] (bA r):=by
 refine zl Tryz.func198 y kz y y ?_
 unfold zdz at h
 refine rg y<|u<|asg y<|zb ?_
 refine zj ?_
 refine zr ?_
 obtain ⟨M,F,h⟩:=bs h
 obtain ⟨G,o,h⟩:=bs h
 refine rg y<|u<|mv y<|u<|mv y<|u<|pc (zdd e f p F) y y y<|u<|nt y<|u<|mv y<|ze6 (x:=G) (j:=4) 4 y y y y y gpn (fun i=>by replace o:=bF i o;obtain ⟨N,H,o⟩:=bs o;obtain rfl:=sm o;exact g y i<|mv y<|g y i<|mv y<|g y i<|pc (zdd e f l H) y y y<|g y i<|nt y<|zb (eg [15,16,17,18] 4 y y y y)) (fun hb=>(sm (bT hb o)).symm)<|u<|asg y<|zb ?_
 refine zf y (fun q=>?_) (fun q=>?_)
 ·
  replace h:=bT q h
  refine rg y<|u<|asg y<|zb ?_
  refine zg ?_
  obtain rfl:=sm h
  exact ⟨_,y,zB []⟩
 ·
  replace h:=bF q h
  refine rg y<|u<|mv y<|u<|seq ti y y<|u<|mv y<|ze6 (j:=2) 3 y y y y y gpn (fun n=>g y n<|mv y<|g y n<|mv y<|g y n<|seq ti y y<|zb (egO [24,25,26] 3 n y y y y)) orT<|u<|asg y<|zb ?_
  refine zf y (fun s=>?_) (fun s=>?_)
  ·
   replace h:=bT s h
   refine rg y<|u<|asg y<|zb ?_
   refine zg ?_
   obtain rfl:=sm h
   exact ⟨_,y,zB []⟩
  ·
   replace h:=bF s h
   refine rg y<|u<|mv y<|u<|seq ti y y<|u<|asg y<|zb ?_
   refine zf y (fun v=>?_) (fun v=>?_)
   ·
    replace h:=bT v h
    obtain ⟨O,I,h⟩:=bs h
    refine rg y<|u<|mv y<|u<|mv y<|u<|pc (zhf e f l I) y y y<|u<|asg y<|zb ?_
    refine zg ?_
    obtain rfl:=sm h
    exact ⟨_,y,zB []⟩
   ·
    replace h:=bF v h
    obtain ⟨P,z,h⟩:=bs h
    obtain ⟨A,c,h⟩:=bs h
    refine rg y<|u<|mv y<|u<|mv y<|u<|pc (zhf e f p z) y y y<|u<|nt y<|u<|mv y<|ze6 (x:=A) (j:=4) 4 y y y y y gpn (fun a=>by replace c:=bF a c;obtain ⟨J,B,c⟩:=bs c;obtain rfl:=sm c;exact g y a<|mv y<|g y a<|mv y<|g y a<|pc (zhf e f l B) y y y<|g y a<|nt y<|zb (eg [40,41,42,43] 4 y y y y)) (fun hb=>(sm (bT hb c)).symm)<|u<|asg y<|zb ?_
    refine zf y (fun m=>?_) (fun m=>?_)
    ·
     replace h:=bT m h
     refine rg y<|u<|asg y<|zb ?_
     refine zg ?_
     obtain rfl:=sm h
     exact ⟨_,y,zB []⟩
    ·
     replace h:=bF m h
     refine zi ?_
     obtain ⟨K,C,h⟩:=bs h
     refine rg y<|u<|mv y<|u<|mv y<|u<|pc (zG e f l C) y y y<|u<|mv y<|u<|ex y y<|u<|ex y y<|u<|al 0 ti y<|u<|sto ti y y y<|u<|asg y<|zb ?_
     obtain ⟨D,d,h⟩:=bs h
     refine rg y<|u<|fa ti y y y<|u<|ld ti y y<|u<|mv y<|ze6 (x:=D) (j:=2) 4 y y y y y gpn (fun b=>by replace d:=bF b d;obtain ⟨L,E,d⟩:=bs d;obtain rfl:=sm d;exact g y b<|mv y<|g y b<|mv y<|g y b<|mv y<|g y b<|pc (zcH e f p l E) y y y<|zb (eg [54,55,56,57] 4 y y y y)) (fun hb=>(sm (bT hb d)).symm)<|u<|asg y<|zb ?_
     refine zg ?_
     obtain rfl:=sm h
     exact ⟨_,y,zB []⟩
def zhe:Option (Bool):=
  some true
def zcV(f:List za)(g:T2)(b:T1)(h:T1)(a:Int):Option (Sum (Int) (Sum (Unit) (Bool))):=
  cond (decide (a<(length b:Int))) ((idx b a).bind fun c=>(idx h a).bind fun d=>(zdz f g c d).bind fun e=>cond (!e) (some (.inr (.inr false))) (some (.inl (IntKind.i64.wrap (a+1))))) (some (.inr (.inl ())))
def zfH(d:List za)(e:T2)(a:T1)(c:T1):Option (Bool):=
  cond (!((length a:Int) == (length c:Int))) (some false) ((zz (fun z=>zcV d e a c z) 0).bind fun o=>zaq o (fun b=>zhe) some)
theorem zi9(c:List za)(d:T2)(a:T1)(e:T1){r:Bool}(h:zfH c d a e=some r):zu Tryz.prog 199 [.ipt 2 [[.isl 6 (map zd c),.imp (map (rKV (fun x=>iA x)) d)]] 0 0,.isl 1 (map zm a),.isl 1 (map zm e)] (bA r):=by
 refine zl Tryz.func199 y kz y y ?_
 unfold zfH at h
 refine rg y<|u<|asg y<|zb ?_
 refine zj ?_
 refine rg y<|u<|mv y<|u<|lnI ti y y<|u<|mv y<|u<|lnI ti y y<|u<|neq ti y y<|zb ?_
 refine zf y (fun i=>?_) (fun i=>?_)
 ·
  replace h:=bT i h
  refine rg y<|u<|asg y<|zb ?_
  refine zg ?_
  obtain rfl:=sm h
  exact ⟨_,y,zB []⟩
 ·
  replace h:=bF i h
  refine zi ?_
  refine zj ?_
  refine rg y<|u<|mv y<|u<|lnI ti y y<|u<|mv y<|zb ?_
  obtain ⟨o,ho,h⟩:=bs h
  refine zaN (X:=Int) (B:=Unit) (R:=Bool) (fun z=>[(0,.ipt 2 [[.isl 6 (map zd c),.imp (map (rKV (fun x=>iA x)) d)]] 0 0),(1,.isl 1 (map zm a)),(2,.isl 1 (map zm e)),(14,iA (length a:Int)),(15,iA z)]) (fun z=>[]) (fun b=>[]) (fun b=>[]) (fun r env st=>zb6 Tryz.prog Tryz.f199 0 (bA r) [] env st) ho (zq []) ?_ ?_ ?_
  ·
   rintro g r h
   replace h:zcV c d a e g=some r:=h
   unfold zcV at h
   refine rg y<|u<|lss ti y y<|zb ?_
   refine zj ?_
   refine zf y (fun j=>?_) (fun j=>?_)
   ·
    replace h:=bT j h
    refine zi ?_
    refine zj ?_
    refine zr ?_
    refine rg y<|u<|mv y<|u<|asg y<|zb ?_
    obtain ⟨m,p,h⟩:=bs h
    obtain ⟨n,q,h⟩:=bs h
    obtain ⟨l,s,h⟩:=bs h
    refine rdA [(0,.ipt 2 [[.isl 6 (map zd c),.imp (map (rKV (fun x=>iA x)) d)]] 0 0),(1,.isl 1 (map zm a)),(2,.isl 1 (map zm e)),(14,iA (length a:Int)),(15,iA g),(28,bA (!l))] [] [] [10,9,8,7,6,5,4,3,2,1,0] [(28,bA (!l)),(27,bA l),(26,sA n),(25,.ipt 1 (map zm e) (Int.toNat g) 0),(24,iA g),(23,.isl 1 (map zm e)),(22,sA m),(21,.ipt 1 (map zm a) (Int.toNat g) 0),(20,iA g),(19,.isl 1 (map zm a)),(18,.ipt 2 [[.isl 6 (map zd c),.imp (map (rKV (fun x=>iA x)) d)]] 0 0)] 0 (zjh ⟨pe,(pb y (pc (zaK c d m n s) y y y w)),(pb y (ldI ti y (zp q).2.2 y w)),(pb y (ixI ti y ti y y y q w)),pe,pe,(pb y (ldI ti y (zp p).2.2 y w)),(pb y (ixI ti y ti y y y p w)),pe,pe,pe,t⟩ (zq [])) ?_
    refine zf y (fun f=>?_) (fun f=>?_)
    ·
     replace h:=bT f h
     refine rg y<|u<|asg y<|zb ?_
     refine zg ?_
     obtain rfl:=sm h
     exact ⟨_,y,_,y,zB []⟩
    ·
     replace h:=bF f h
     refine zi ?_
     refine rl y<|u<|add ti y y<|u<|mv y<|zb ?_
     obtain rfl:=sm h
     exact ⟨_,y,zq []⟩
   ·
    replace h:=bF j h
    refine zQ ?_
    obtain rfl:=sm h
    exact ⟨y,_,y,zq []⟩
  ·
   rintro ⟨⟩ rfl
   replace h:zhe=some r:=h
   unfold zhe at h
   refine zD ?_
   refine rg y<|u<|asg y<|zb ?_
   refine zg ?_
   obtain rfl:=sm h
   exact ⟨_,y,zB []⟩
  ·
   rintro r' rfl env st hp
   obtain rfl:=sm h
   exact hp
def zdA(a:List za)(b:T2)(c:zaA)(d:T1)(e:T1):Option (Bool):=
  (zfH a b d c.Locals).bind fun f=>(cond f ((zfH a b e c.Stack).bind fun g=>some g) (some false)).bind fun h=>some h
theorem ziy(c:List za)(d:T2)(e:zaA)(f:T1)(i:T1){r:Bool}(h:zdA c d e f i=some r):zu Tryz.prog 150 [.ipt 2 [[.isl 6 (map zd c),.imp (map (rKV (fun x=>iA x)) d)]] 0 0,.agg (zaG e),.isl 1 (map zm f),.isl 1 (map zm i)] (bA r):=by
 refine zl Tryz.func150 y kz y y ?_
 unfold zdA at h
 refine rg y<|u<|bx 0 3 y y y y<|u<|asg y<|zb ?_
 obtain ⟨o,l,h⟩:=bs h
 obtain ⟨m,b,h⟩:=bs h
 refine rg y<|u<|mv y<|u<|mv y<|u<|fa ti y y y<|u<|ld ti y y<|u<|pc (zi9 c d f e.Locals l) y y y<|u<|mv y<|zbq (x:=m) (j:=5) 5 y y y y y gpn (fun a=>by replace b:=bT a b;obtain ⟨p,n,b⟩:=bs b;obtain rfl:=sm b;exact g y a<|mv y<|g y a<|mv y<|g y a<|fa ti y y y<|g y a<|ld ti y y<|g y a<|pc (zi9 c d i e.Stack n) y y y<|zb (eg [15,16,17,18,19] 5 y y y y)) (fun hb=>(sm (bF hb b)).symm)<|u<|asg y<|zb ?_
 refine zg ?_
 obtain rfl:=sm h
 exact ⟨_,y,zB []⟩
def zcJ(b:List za)(c:T2)(h:T0)(i:zc)(d:T1)(e:T1)(a:Bool)(j:Int):Option (Bool):=
  (zck b c h i d e a j).bind fun l=>zsh l (some (a||(!false))) (fun f=>(zdA b c f d e).bind fun g=>some (a||(!g)))
theorem zf5(e:List za)(f:T2)(g:T0)(i:zc)(d:T1)(a:T1)(j:Bool)(m:Int){r:Bool}(h:zcJ e f g i d a j m=some r):SC Tryz.prog 88 [.mpt 0 0 0,iA m,.msl 2 0 (length a)] [.one 15 (vK e f g i (.msl 1 0 (length d)) (.msl 2 0 (length a)) (bA j)),.many 1 (map zm d),.many 1 (map zm a)] (.tup []) [.one 15 (vK e f g i (.msl 1 0 (length d)) (.msl 2 0 (length a)) (bA r)),.many 1 (map zm d),.many 1 (map zm a)]:=by
 refine ⟨⟨t,zhi (sz:=1) (fun _=>y),zhi (sz:=1) (fun _=>y),t⟩,zbE Tryz.func88 y kz y ?_⟩
 unfold zcJ at h
 obtain ⟨n,o,h⟩:=bs h
 refine rg y<|u<|mv y<|u<|mv y<|u<|sx [0,1,2] (zer e f g i d a j m o)<|zxn zss<|zK (env0:=[(0,.mpt 0 0 0),(2,.msl 2 0 (length a)),(9,zjm 3 zaG n)]) (st0:=[some (15,[(vK e f g i (.msl 1 0 (length d)) (.msl 2 0 (length a)) (bA j))]),some (1,map zm d),some (1,map zm a)]) (zq [.old 0,.old 1,.old 2])<|u<|asg y<|zb ?_
 rcases n with _ |c
 ·
  replace h:=oeN h
  refine zoX [] [some (15,[(vK e f g i (.msl 1 0 (length d)) (.msl 2 0 (length a)) (bA (j||(!false))))]),some (1,map zm d),some (1,map zm a)] [18] [17,16,15,14,13,12,11,10,9,8,7,6,5,4,3,2,1,0] [(27,bA false),(26,.lit undef),(25,.lit undef),(24,.lit undef),(23,.lit undef),(22,.lit undef),(21,.lit undef),(20,.lit undef),(19,.lit undef),(18,.lit undef),(17,.lit undef),(16,.lit undef),(15,.lit undef),(14,.lit undef),(13,bA false),(12,bA false),(11,.lit (.pointer none)),(10,.mpt 0 0 0)] 1 (ziH ⟨pe,pe,pe,pe,pe,pe,pe,pe,pe,pe,pe,pe,pe,pe,pe,(pb y (nep ti y y y y y y w)),pe,pe,t⟩ ⟨(fun _ _=>⟨_,y,y,sc [0,1,2] (args:=[.mpt 0 0 0,bA false]) (zo e f g i d a j false y) y y y y ⟨(.mpt y),(rnI y),t⟩ ⟨⟨_,y,(zst y ⟨(.msl y),(.msl y),(rnI y),t⟩)⟩,⟨y,mkI (fun _=>y)⟩,⟨y,mkI (fun _=>y)⟩,t⟩<|⟨(.tup []),[],[(28,.tup [])],y,y,kz,y,zjh ⟨pe,pe,pe,pe,pe,pe,pe,pe,pe,pe,pe,pe,pe,pe,pe,(pb y (nep ti y y y y y y w)),pe,pe,t⟩ (zq [.old 0,.old 1,.old 2])⟩⟩),t⟩) ?_
  obtain rfl:=sm h
  exact ⟨_,y,zB [.old 0,.old 1,.old 2]⟩
 ·
  replace h:=oeS h
  obtain ⟨l,p,h⟩:=bs h
  refine zoX [] [some (15,[(vK e f g i (.msl 1 0 (length d)) (.msl 2 0 (length a)) (bA (j||(!l))))]),some (1,map zm d),some (1,map zm a)] [18] [17,16,15,14,13,12,11,10,9,8,7,6,5,4,3,2,1,0] [(27,bA l),(26,bA l),(25,.msl 2 0 (length a)),(24,.msl 1 0 (length d)),(23,.mpt 0 0 12),(22,.mpt 0 0 0),(21,.mpt 0 0 0),(20,.agg (zaG c)),(19,.ipt 3 [[iA c.At,.isl 1 (map zm c.Locals),.isl 1 (map zm c.Stack)]] 0 0),(18,.ipt 3 [[iA c.At,.isl 1 (map zm c.Locals),.isl 1 (map zm c.Stack)]] 0 0),(17,.ipt 2 [[.isl 6 (map zd e),.imp (map (rKV (fun x=>iA x)) f)]] 0 0),(16,.mpt 0 0 0),(15,.mpt 0 0 0),(14,.mpt 0 0 0),(13,bA true),(12,bA true),(11,.ipt 3 [[iA c.At,.isl 1 (map zm c.Locals),.isl 1 (map zm c.Stack)]] 0 0),(10,.mpt 0 0 0)] 1 (ziH ⟨pe,(fun _=>pag (b:=true) y y y y y y (pcs (ziy e f c d a p) y y (.cons (si y) (.cons (si y) (.cons (zki y (fun _=>y)) (.cons (zki y (fun _=>y)) .nil)))) zdb<|w)),pe,pe,pe,pe,pe,pe,pe,pe,pe,pe,pe,pe,pe,(pb y (nep ti y y y y y y w)),pe,pe,t⟩ ⟨(fun _ _=>⟨_,y,y,sc [0,1,2] (args:=[.mpt 0 0 0,bA l]) (zo e f g i d a j l y) y y y y ⟨(.mpt y),(rnI y),t⟩ ⟨⟨_,y,(zst y ⟨(.msl y),(.msl y),(rnI y),t⟩)⟩,⟨y,mkI (fun _=>y)⟩,⟨y,mkI (fun _=>y)⟩,t⟩<|⟨(.tup []),[],[(28,.tup [])],y,y,kz,y,zjh ⟨pe,pe,pe,pe,pe,pe,pe,pe,pe,pe,pe,pe,pe,pe,pe,(pb y (nep ti y y y y y y w)),pe,pe,t⟩ (zq [.old 0,.old 1,.old 2])⟩⟩),t⟩) ?_
  obtain rfl:=sm h
  exact ⟨_,y,zB [.old 0,.old 1,.old 2]⟩
def zkW(a:T1):Option T1:=ziA 16 ([]:T1) a
theorem zlB(a:T1){r:T1}(h:zkW a=some r):SC Tryz.prog 138 [.isl 1 (map zm a)] [] (.msl 0 0 (length r)) [.many 1 (map zm r)]:=by
 refine ⟨⟨zhi (sz:=1) (fun _=>y),t⟩,zbE Tryz.func138 y kz y ?_⟩
 unfold zkW at h
 refine rg y<|u<|asg y<|zb ?_
 refine zj ?_
 refine rg y<|u<|mv y<|zxk ti y y y<|And.intro ?_ ?_
 · intro hl
   refine zb ?_
   subst hl
   obtain rfl:[]=r:=by simpa [ziA] using h
   refine zf y (fun _=>?_) (fun hx=>by cases hx)
   refine rg y<|u<|asg y<|zb ?_
   refine zg ?_
   exact ⟨_,y,[.fresh 1],.nilown y,y,⟨w,t⟩,y,k⟩
 · refine zb ?_
   refine zf y (fun hx=>by cases hx) (fun _=>?_)
   refine zi ?_
   refine rg y<|u<|bl 0 ti y ti y (by decide) (by decide) y y y<|u<|mv y<|u<|apM (l:=([]:T1)) (f:=zm) 1 ti y ti y y (by decide) ti y y y y roI (fun _=>y) y h<|u<|asg y<|zb ?_
   refine zg ?_
   exact ⟨_,y,zB [.old 1]⟩
def zbB(b:(Option zaA))(c:Bool):Option (T1×T1×Bool):=
  zsh b (none) (fun a=>(zkW a.Locals).bind fun d=>(zkW a.Stack).bind fun e=>some (d,e,c))
def zc8(e:List za)(f:T2)(g:T0)(h:zc)(c:T1)(d:T1)(b:Bool)(i:Int)(j:Bool):Option (T1×T1×Bool):=
  (zck e f g h c d b i).bind fun a=>cond (Option.isNone a) (some (c,d,(b||(!j)))) (cond j ((zcJ e f g h c d b i).bind fun l=>zbB a l) (zbB a b))
theorem zis(d:List za)(e:T2)(f:T0)(g:zc)(b:T1)(c:T1)(j:Bool)(n:Int)(o:Bool){r:T1×T1×Bool}(h:zc8 d e f g b c j n o=some r):SC Tryz.prog 84 [.mpt 0 0 0,iA n,bA o] [.one 15 (vK d e f g (.msl 1 0 (length b)) (.msl 2 0 (length c)) (bA j)),.many 1 (map zm b),.many 1 (map zm c)] (.tup []) [.one 15 (vK d e f g (.msl 3 0 (length r.1)) (.msl 4 0 (length r.2.1)) (bA r.2.2)),.no,.no,.many 1 (map zm r.1),.many 1 (map zm r.2.1)]:=by
 refine ⟨⟨t,t,t,zhi (sz:=1) (fun _=>y),zhi (sz:=1) (fun _=>y),t⟩,zbE Tryz.func84 y kz y ?_⟩
 unfold zc8 at h
 obtain ⟨i,x,h⟩:=bs h
 refine rg y<|u<|mv y<|u<|mv y<|u<|sx [0,1,2] (zer d e f g b c j n x)<|zxn zss<|zK (env0:=[(0,.mpt 0 0 0),(1,iA n),(2,bA o),(9,zjm 3 zaG i)]) (st0:=[some (15,[(vK d e f g (.msl 1 0 (length b)) (.msl 2 0 (length c)) (bA j))]),some (1,map zm b),some (1,map zm c)]) (zq [.old 0,.old 1,.old 2])<|u<|asg y<|zb ?_
 refine zj ?_
 refine rg y<|u<|mv y<|u<|zxN ti y y y<|zb ?_
 refine zf y (fun p=>?_) (fun p=>?_)
 ·
  replace h:=bT p h
  refine rg y<|u<|mv y<|u<|mv y<|u<|sx [0,1,2] (zo d e f g b c j o y)<|zK (env0:=[]) (st0:=[some (15,[(vK d e f g (.msl 1 0 (length b)) (.msl 2 0 (length c)) (bA (j||(!o))))]),some (1,map zm b),some (1,map zm c)]) (zq [.old 0,.old 1,.old 2])<|zb ?_
  refine zg ?_
  obtain rfl:=sm h
  exact ⟨_,y,zB [.old 0,.dead,.dead,.old 1,.old 2]⟩
 ·
  replace h:=bF p h
  refine zi ?_
  refine zdk (X:=Bool) (fun z=>[(0,.mpt 0 0 0),(6,zjm 3 zaG i)]) (fun z=>[some (15,[(vK d e f g (.msl 1 0 (length b)) (.msl 2 0 (length c)) (bA z))]),some (1,map zm b),some (1,map zm c)]) (fun z=>zbB i z=some r) ?_ ?_
  ·
   refine rg y<|u<|mv y<|zb ?_
   refine zf y (fun q=>?_) (fun q=>?_)
   ·
    replace h:=bT q h
    obtain ⟨s,A,h⟩:=bs h
    exact rl y<|u<|mv y<|u<|mv y<|u<|mv y<|u<|nc y y<|u<|fa ti y y y<|u<|ld ti y y<|u<|sx [0,1,2] (zf5 d e f g b c j n A)<|zK (env0:=[(0,.mpt 0 0 0),(6,zjm 3 zaG i)]) (st0:=[some (15,[(vK d e f g (.msl 1 0 (length b)) (.msl 2 0 (length c)) (bA s))]),some (1,map zm b),some (1,map zm c)]) (zq [.old 0,.old 1,.old 2])<|zb (⟨s,h,zq [.old 0,.old 1,.old 2]⟩)
   ·
    replace h:=bF q h
    refine zi ?_
    exact ⟨j,h,zq [.old 0,.old 1,.old 2]⟩
  ·
   rintro v h
   replace h:zbB i v=some r:=h
   unfold zbB at h
   rcases i with _ |a
   ·
    replace h:=oeN h
    cases h
   ·
    replace h:=oeS h
    obtain ⟨l,B,h⟩:=bs h
    obtain ⟨m,C,h⟩:=bs h
    refine zoX [] [some (15,[(vK d e f g (.msl 3 0 (length l)) (.msl 4 0 (length m)) (bA v))]),some (1,map zm b),some (1,map zm c),some (1,map zm l),some (1,map zm m)] [6,11,14,17] [10,9,8,7,5,4,3,2,1,0] [(33,.isl 1 (map zm a.Stack)),(32,.ipt 3 [[iA a.At,.isl 1 (map zm a.Locals),.isl 1 (map zm a.Stack)]] 0 2),(31,.ipt 3 [[iA a.At,.isl 1 (map zm a.Locals),.isl 1 (map zm a.Stack)]] 0 0),(30,.ipt 3 [[iA a.At,.isl 1 (map zm a.Locals),.isl 1 (map zm a.Stack)]] 0 0),(28,.isl 1 (map zm a.Locals)),(27,.ipt 3 [[iA a.At,.isl 1 (map zm a.Locals),.isl 1 (map zm a.Stack)]] 0 1),(26,.ipt 3 [[iA a.At,.isl 1 (map zm a.Locals),.isl 1 (map zm a.Stack)]] 0 0),(25,.ipt 3 [[iA a.At,.isl 1 (map zm a.Locals),.isl 1 (map zm a.Stack)]] 0 0),(24,.mpt 0 0 0),(23,.mpt 0 0 0)] 4 (zkD ⟨(fun _ _=>⟨_,y,y,sx [] (zlB a.Locals B)<|⟨(.msl 3 0 (length l)),[],[(29,.msl 3 0 (length l))],y,y,kz,y,zkD ⟨nv,(fun _ _=>⟨_,y,y,sx [] (zlB a.Stack C)<|⟨(.msl 4 0 (length m)),[13,12],[(36,.mpt 0 0 12),(35,.mpt 0 0 0),(34,.msl 4 0 (length m))],y,y,kz,y,zkD ⟨nv,nv,(fun _ _=>⟨_,y,y,sto ti y y y<|⟨.any,[16,15],[(38,.mpt 0 0 13),(37,.mpt 0 0 0)],y,y,kz,t,zkD ⟨nv,nv,nv,(fun _ _=>⟨_,y,y,sto ti y y y<|⟨.any,[],[],y,y,kz,t,zlb (zq [.old 0,.old 1,.old 2,.old 3,.old 4])⟩⟩),t⟩⟩⟩),nw,t⟩⟩⟩),nw,nw,t⟩⟩⟩),nw,nw,nw,t⟩) ?_
    obtain rfl:=sm h
    exact ⟨_,y,zB [.old 0,.dead,.dead,.old 3,.old 4]⟩
def zcE(b:List za)(c:T2)(h:T0)(i:zc)(d:T1)(j:T1)(a:Bool)(l:Int)(m:T1):Option (Bool):=
  (zck b c h i d j a l).bind fun e=>zsh e (some (a||(!false))) (fun f=>(zdA b c f d m).bind fun g=>some (a||(!g)))
theorem zhD(e:List za)(f:T2)(i:T0)(j:zc)(c:T1)(d:T1)(l:Bool)(o:Int)(g:T1){r:Bool}(h:zcE e f i j c d l o g=some r):SC Tryz.prog 88 [.mpt 0 0 0,iA o,.msl 3 0 (length g)] [.one 15 (vK e f i j (.msl 1 0 (length c)) (.msl 2 0 (length d)) (bA l)),.many 1 (map zm c),.many 1 (map zm d),.many 1 (map zm g)] (.tup []) [.one 15 (vK e f i j (.msl 1 0 (length c)) (.msl 2 0 (length d)) (bA r)),.many 1 (map zm c),.many 1 (map zm d),.many 1 (map zm g)]:=by
 refine ⟨⟨t,zhi (sz:=1) (fun _=>y),zhi (sz:=1) (fun _=>y),zhi (sz:=1) (fun _=>y),t⟩,zbE Tryz.func88 y kz y ?_⟩
 unfold zcE at h
 obtain ⟨n,p,h⟩:=bs h
 refine rg y<|u<|mv y<|u<|mv y<|u<|sx [0,1,2] (zer e f i j c d l o p)<|zxn zss<|zK (env0:=[(0,.mpt 0 0 0),(2,.msl 3 0 (length g)),(9,zjm 3 zaG n)]) (st0:=[some (15,[(vK e f i j (.msl 1 0 (length c)) (.msl 2 0 (length d)) (bA l))]),some (1,map zm c),some (1,map zm d),some (1,map zm g)]) (zq [.old 0,.old 1,.old 2,.old 3])<|u<|asg y<|zb ?_
 rcases n with _ |a
 ·
  replace h:=oeN h
  refine zoX [] [some (15,[(vK e f i j (.msl 1 0 (length c)) (.msl 2 0 (length d)) (bA (l||(!false))))]),some (1,map zm c),some (1,map zm d),some (1,map zm g)] [18] [17,16,15,14,13,12,11,10,9,8,7,6,5,4,3,2,1,0] [(27,bA false),(26,.lit undef),(25,.lit undef),(24,.lit undef),(23,.lit undef),(22,.lit undef),(21,.lit undef),(20,.lit undef),(19,.lit undef),(18,.lit undef),(17,.lit undef),(16,.lit undef),(15,.lit undef),(14,.lit undef),(13,bA false),(12,bA false),(11,.lit (.pointer none)),(10,.mpt 0 0 0)] 1 (ziH ⟨pe,pe,pe,pe,pe,pe,pe,pe,pe,pe,pe,pe,pe,pe,pe,(pb y (nep ti y y y y y y w)),pe,pe,t⟩ ⟨(fun _ _=>⟨_,y,y,sc [0,1,2] (args:=[.mpt 0 0 0,bA false]) (zo e f i j c d l false y) y y y y ⟨(.mpt y),(rnI y),t⟩ ⟨⟨_,y,(zst y ⟨(.msl y),(.msl y),(rnI y),t⟩)⟩,⟨y,mkI (fun _=>y)⟩,⟨y,mkI (fun _=>y)⟩,t⟩<|⟨(.tup []),[],[(28,.tup [])],y,y,kz,y,zjh ⟨pe,pe,pe,pe,pe,pe,pe,pe,pe,pe,pe,pe,pe,pe,pe,(pb y (nep ti y y y y y y w)),pe,pe,t⟩ (zq [.old 0,.old 1,.old 2,.old 3])⟩⟩),t⟩) ?_
  obtain rfl:=sm h
  exact ⟨_,y,zB [.old 0,.old 1,.old 2,.old 3]⟩
 ·
  replace h:=oeS h
  obtain ⟨m,q,h⟩:=bs h
  refine zoX [] [some (15,[(vK e f i j (.msl 1 0 (length c)) (.msl 2 0 (length d)) (bA (l||(!m))))]),some (1,map zm c),some (1,map zm d),some (1,map zm g)] [18] [17,16,15,14,13,12,11,10,9,8,7,6,5,4,3,2,1,0] [(27,bA m),(26,bA m),(25,.msl 3 0 (length g)),(24,.msl 1 0 (length c)),(23,.mpt 0 0 12),(22,.mpt 0 0 0),(21,.mpt 0 0 0),(20,.agg (zaG a)),(19,.ipt 3 [[iA a.At,.isl 1 (map zm a.Locals),.isl 1 (map zm a.Stack)]] 0 0),(18,.ipt 3 [[iA a.At,.isl 1 (map zm a.Locals),.isl 1 (map zm a.Stack)]] 0 0),(17,.ipt 2 [[.isl 6 (map zd e),.imp (map (rKV (fun x=>iA x)) f)]] 0 0),(16,.mpt 0 0 0),(15,.mpt 0 0 0),(14,.mpt 0 0 0),(13,bA true),(12,bA true),(11,.ipt 3 [[iA a.At,.isl 1 (map zm a.Locals),.isl 1 (map zm a.Stack)]] 0 0),(10,.mpt 0 0 0)] 1 (ziH ⟨pe,(fun _=>pag (b:=true) y y y y y y (pcs (ziy e f a c g q) y y (.cons (si y) (.cons (si y) (.cons (zki y (fun _=>y)) (.cons (zki y (fun _=>y)) .nil)))) zdb<|w)),pe,pe,pe,pe,pe,pe,pe,pe,pe,pe,pe,pe,pe,(pb y (nep ti y y y y y y w)),pe,pe,t⟩ ⟨(fun _ _=>⟨_,y,y,sc [0,1,2] (args:=[.mpt 0 0 0,bA m]) (zo e f i j c d l m y) y y y y ⟨(.mpt y),(rnI y),t⟩ ⟨⟨_,y,(zst y ⟨(.msl y),(.msl y),(rnI y),t⟩)⟩,⟨y,mkI (fun _=>y)⟩,⟨y,mkI (fun _=>y)⟩,t⟩<|⟨(.tup []),[],[(28,.tup [])],y,y,kz,y,zjh ⟨pe,pe,pe,pe,pe,pe,pe,pe,pe,pe,pe,pe,pe,pe,pe,(pb y (nep ti y y y y y y w)),pe,pe,t⟩ (zq [.old 0,.old 1,.old 2,.old 3])⟩⟩),t⟩) ?_
  obtain rfl:=sm h
  exact ⟨_,y,zB [.old 0,.old 1,.old 2,.old 3]⟩
def zd5(a:Bool):Option (Bool):=
  some a
def zb9(a:Int)(b:Bool):Option (Sum (Bool×Int) (Sum (Bool) (Bool))):=
  some (.inl (b,(IntKind.i64.wrap (a+1))))
def zbC(f:List za)(g:T2)(j:T0)(l:zc)(m:T1)(n:T1)(h:Int)(b:Bool)(c:Int)(a:zV)(d:T0):Option (Sum (Bool×Int) (Sum (Bool) (Bool))):=
  (zcg f g d [84,104,114,111,119,110]).bind fun e=>cond ((decide (a.From≤h))&&(decide (h<a.To))) ((zcE f g j l m n (b||(!e)) a.At [d]).bind fun i=>zb9 c i) (zb9 c (b||(!e)))
def za4(e:List za)(f:T2)(g:T0)(d:zc)(h:T1)(i:T1)(j:Int)(c:Bool)(a:Int):Option (Sum (Bool×Int) (Sum (Bool) (Bool))):=
  cond (decide (a<(length d.Traps:Int))) ((idx d.Traps a).bind fun b=>cond (b.C == []) (zbC e f g d h i j c a b [84,104,114,111,119,110]) (zbC e f g d h i j c a b b.C)) (some (.inr (.inl c)))
def zc9(a:List za)(c:T2)(d:T0)(e:zc)(f:T1)(g:T1)(h:Bool)(i:Int):Option (Bool):=
  (zz (fun z=>za4 a c d e f g i z.1 z.2) (h,0)).bind fun o=>zaq o (fun b=>zd5 b) some
theorem ziu(e:List za)(f:T2)(i:T0)(a:zc)(c:T1)(d:T1)(F:Bool)(p:Int){r:Bool}(h:zc9 e f i a c d F p=some r):SC Tryz.prog 85 [.mpt 0 0 0,iA p] [.one 15 (vK e f i a (.msl 1 0 (length c)) (.msl 2 0 (length d)) (bA F)),.many 1 (map zm c),.many 1 (map zm d)] (.tup []) [.one 15 (vK e f i a (.msl 1 0 (length c)) (.msl 2 0 (length d)) (bA r)),.many 1 (map zm c),.many 1 (map zm d)]:=by
 refine ⟨⟨t,zhi (sz:=1) (fun _=>y),zhi (sz:=1) (fun _=>y),t⟩,zbE Tryz.func85 y kz y ?_⟩
 unfold zc9 at h
 refine rg y<|u<|mv y<|u<|nc y y<|u<|fa ti y y y<|u<|fa ti y y y<|u<|ld ti y y<|u<|lnI ti y y<|u<|mv y<|zb ?_
 obtain ⟨o,ho,h⟩:=bs h
 refine zaN (X:=Bool×Int) (B:=Bool) (R:=Bool) (fun z=>[(0,.mpt 0 0 0),(1,iA p),(11,.isl 4 (map zap a.Traps)),(12,iA (length a.Traps:Int)),(13,iA z.2)]) (fun z=>[some (15,[(vK e f i a (.msl 1 0 (length c)) (.msl 2 0 (length d)) (bA z.1))]),some (1,map zm c),some (1,map zm d)]) (fun b=>[]) (fun b=>[some (15,[(vK e f i a (.msl 1 0 (length c)) (.msl 2 0 (length d)) (bA b))]),some (1,map zm c),some (1,map zm d)]) (fun r env st=>zb6 Tryz.prog Tryz.f85 3 (.tup []) [some (15,[(vK e f i a (.msl 1 0 (length c)) (.msl 2 0 (length d)) (bA r))]),some (1,map zm c),some (1,map zm d)] env st) ho (zq [.old 0,.old 1,.old 2]) ?_ ?_ ?_
 ·
  rintro ⟨m,l⟩ r h
  replace h:za4 e f i a c d p m l=some r:=h
  unfold za4 at h
  refine rg y<|u<|lss ti y y<|zb ?_
  refine zj ?_
  refine zf y (fun D=>?_) (fun D=>?_)
  ·
   replace h:=bT D h
   refine zi ?_
   refine zdk (X:=Bool) (fun z=>[(0,.mpt 0 0 0),(1,iA p),(11,.isl 4 (map zap a.Traps)),(12,iA (length a.Traps:Int)),(13,iA l)]) (fun z=>[some (15,[(vK e f i a (.msl 1 0 (length c)) (.msl 2 0 (length d)) (bA z))]),some (1,map zm c),some (1,map zm d)]) (fun z=>zb9 l z=some r) ?_ ?_
   ·
    refine zr ?_
    obtain ⟨q,G,h⟩:=bs h
    refine rg y<|u<|ixI ti y ti y y y G<|u<|ldI ti y (zp G).2.2 y<|u<|al 3 ti y<|u<|sto ti y y y<|zb ?_
    refine rg y<|u<|fa ti y y y<|u<|ld ti y y<|u<|asg y<|zb ?_
    refine zdk (X:=T0) (fun z=>[(0,.mpt 0 0 0),(1,iA p),(5,.mpt 3 0 0),(6,sA z),(11,.isl 4 (map zap a.Traps)),(12,iA (length a.Traps:Int)),(13,iA l)]) (fun z=>[some (15,[(vK e f i a (.msl 1 0 (length c)) (.msl 2 0 (length d)) (bA m))]),some (1,map zm c),some (1,map zm d),some (4,[(zap q)])]) (fun z=>zbC e f i a c d p m l q z=some r) ?_ ?_
    ·
     refine rg y<|u<|mv y<|u<|seq ti y y<|zb ?_
     refine zf y (fun s=>?_) (fun s=>?_)
     ·
      replace h:=bT s h
      exact rl y<|u<|asg y<|zb (⟨[84,104,114,111,119,110],h,zq [.old 0,.old 1,.old 2,.old 3]⟩)
     ·
      replace h:=bF s h
      refine zi ?_
      exact ⟨q.C,h,zq [.old 0,.old 1,.old 2,.old 3]⟩
    ·
     rintro x h
     replace h:zbC e f i a c d p m l q x=some r:=h
     unfold zbC at h
     obtain ⟨A,H,h⟩:=bs h
     refine rg y<|u<|mv y<|u<|mv y<|u<|nc y y<|u<|fa ti y y y<|u<|ld ti y y<|u<|mv y<|u<|pc (zcH e f x [84,104,114,111,119,110] H) y y y<|u<|sx [0,1,2] (zo e f i a c d m A y)<|zK (env0:=[(0,.mpt 0 0 0),(1,iA p),(5,.mpt 3 0 0),(6,sA x),(11,.isl 4 (map zap a.Traps)),(12,iA (length a.Traps:Int)),(13,iA l)]) (st0:=[some (15,[(vK e f i a (.msl 1 0 (length c)) (.msl 2 0 (length d)) (bA (m||(!A))))]),some (1,map zm c),some (1,map zm d),some (4,[(zap q)])]) (zq [.old 0,.old 1,.old 2,.old 3])<|zb ?_
     refine rg y<|u<|fa ti y y y<|u<|ld ti y y<|u<|mv y<|u<|leq ti y y<|u<|mv y<|zbq (j:=4) 4 y y y y y gpn (fun n=>g y n<|mv y<|g y n<|fa ti y y y<|g y n<|ld ti y y<|g y n<|lss ti y y<|zb (egA [34,35,36,37] 4 n y y y y)) zhn<|zb ?_
     refine zf y (fun v=>?_) (fun v=>?_)
     ·
      replace h:=bT v h
      obtain ⟨E,I,h⟩:=bs h
      exact rl y<|u<|mv y<|u<|fa ti y y y<|u<|ld ti y y<|u<|mv y<|u<|bl 4 ti y ti y (by decide) (by decide) y y y<|u<|sx [0,1,2,4] (zhD e f i a c d (m||(!A)) q.At [x] I)<|zK (env0:=[(0,.mpt 0 0 0),(1,iA p),(11,.isl 4 (map zap a.Traps)),(12,iA (length a.Traps:Int)),(13,iA l)]) (st0:=[some (15,[(vK e f i a (.msl 1 0 (length c)) (.msl 2 0 (length d)) (bA E))]),some (1,map zm c),some (1,map zm d)]) (zq [.old 0,.old 1,.old 2])<|zb (⟨E,h,zq [.old 0,.old 1,.old 2]⟩)
     ·
      replace h:=bF v h
      refine zi ?_
      exact ⟨(m||(!A)),h,zq [.old 0,.old 1,.old 2]⟩
   ·
    rintro J h
    replace h:zb9 l J=some r:=h
    unfold zb9 at h
    refine rl y<|u<|add ti y y<|u<|mv y<|zb ?_
    obtain rfl:=sm h
    exact ⟨_,y,zq [.old 0,.old 1,.old 2]⟩
  ·
   replace h:=bF D h
   refine zQ ?_
   obtain rfl:=sm h
   exact ⟨y,_,y,zq [.old 0,.old 1,.old 2]⟩
 ·
  rintro K rfl
  replace h:zd5 K=some r:=h
  unfold zd5 at h
  refine zD ?_
  obtain rfl:=sm h
  exact ⟨_,y,zB [.old 0,.old 1,.old 2]⟩
 ·
  rintro r' rfl env st hp
  obtain rfl:=sm h
  exact hp
def zaV(a:Int)(b:Int)(c:Int):Bool:=
  ((decide (b≤a))&&(decide (a≤c)))
theorem zbH(b:Int)(c:Int)(d:Int){r:Bool}(h:zaV b c d=r):zu Tryz.prog 139 [iA b,iA c,iA d] (bA r):=by
 refine zl Tryz.func139 y kz y y ?_
 unfold zaV at h
 refine rg y<|u<|asg y<|zb ?_
 refine rg y<|u<|mv y<|u<|mv y<|u<|geq ti y y<|u<|mv y<|zbq (j:=3) 3 y y y y y gpn (fun a=>g y a<|mv y<|g y a<|mv y<|g y a<|leq ti y y<|zb (egA [11,12,13] 3 a y y y y)) zhn<|u<|asg y<|zb ?_
 refine zg ?_
 obtain rfl:=h
 exact ⟨_,y,zB []⟩
def zt(d:List za)(e:T2)(f:T0)(g:zc)(h:T1)(a:T1)(i:Bool)(b:T0):Option (T1):=
  (ziA 16 a [b]).bind fun c=>some c
theorem zs(b:List za)(c:T2)(d:T0)(e:zc)(a:T1)(g:T1)(i:Bool)(j:T0){r:T1}(h:zt b c d e a g i j=some r):SC Tryz.prog 142 [.mpt 0 0 0,sA j] [.one 15 (vK b c d e (.msl 1 0 (length a)) (.msl 2 0 (length g)) (bA i)),.many 1 (map zm a),.many 1 (map zm g)] (.tup []) [.one 15 (vK b c d e (.msl 1 0 (length a)) (.msl 3 0 (length r)) (bA i)),.many 1 (map zm a),.no,.many 1 (map zm r)]:=by
 refine ⟨⟨t,zhi (sz:=1) (fun _=>y),t,zhi (sz:=1) (fun _=>y),t⟩,zbE Tryz.func142 y kz y ?_⟩
 unfold zt at h
 obtain ⟨m,l,h⟩:=bs h
 refine rl y<|u<|mv y<|u<|mv y<|u<|nc y y<|u<|fa ti y y y<|u<|ld ti y y<|u<|mv y<|u<|bl 3 ti y ti y (by decide) (by decide) y y y<|u<|apM 4 ti y ti y y (by decide) ti y y y y (roX (f:=zm) (z:=[j]) y y) (fun _=>y) y l<|u<|nc y y<|u<|fa ti y y y<|u<|sto ti y y y<|zb ?_
 obtain rfl:=sm h
 exact ⟨_,y,zB [.old 0,.old 1,.dead,.old 4]⟩
def zah(e:List za)(f:T2)(g:T0)(h:zc)(i:T1)(a:T1)(b:Bool):Option (T0×T1×Bool):=
  cond (((length a):Int) == (0:Int)) (some ([84],a,true)) ((idx a (IntKind.i64.wrap (((length a):Int)-1))).bind fun c=>(zj3 a 0 (IntKind.i64.wrap (((length a):Int)-1))).bind fun d=>some (c,d,b))
theorem zaF(e:List za)(g:T2)(i:T0)(j:zc)(d:T1)(a:T1)(n:Bool){r:T0×T1×Bool}(h:zah e g i j d a n=some r):SC Tryz.prog 213 [.mpt 0 0 0] [.one 15 (vK e g i j (.msl 1 0 (length d)) (.msl 2 0 (length a)) (bA n)),.many 1 (map zm d),.many 1 (map zm a)] (sA r.1) [.one 15 (vK e g i j (.msl 1 0 (length d)) (.msl 2 0 (length r.2.1)) (bA r.2.2)),.many 1 (map zm d),.many 1 (map zm r.2.1)]:=by
 refine ⟨⟨t,zhi (sz:=1) (fun _=>y),zhi (sz:=1) (fun _=>y),t⟩,zbE Tryz.func213 y kz y ?_⟩
 unfold zah at h
 refine rg y<|u<|asg y<|zb ?_
 refine zj ?_
 refine rg y<|u<|mv y<|u<|nc y y<|u<|fa ti y y y<|u<|ld ti y y<|u<|lnM ti y y y<|u<|eql ti y y<|zb ?_
 refine zf y (fun m=>?_) (fun m=>?_)
 ·
  replace h:=bT m h
  refine rg y<|u<|mv y<|u<|nc y y<|u<|fa ti y y y<|u<|sto ti y y y<|zb ?_
  refine rg y<|u<|asg y<|zb ?_
  refine zg ?_
  obtain rfl:=sm h
  exact ⟨_,y,zB [.old 0,.old 1,.old 2]⟩
 ·
  replace h:=bF m h
  refine zi ?_
  obtain ⟨o,q,h⟩:=bs h
  refine rdA [(0,.mpt 0 0 0),(3,sA o)] [some (15,[(vK e g i j (.msl 1 0 (length d)) (.msl 2 0 (length a)) (bA n))]),some (1,map zm d),some (1,map zm a)] [] [12,11,10,9,8,7,6,5,4,3,2,1,0] [(3,sA o),(24,sA o),(23,.mpt 2 (Int.toNat (IntKind.i64.wrap (((length a):Int)-1))) 0),(22,iA (IntKind.i64.wrap (((length a):Int)-1))),(21,iA ((length a):Int)),(20,.msl 2 0 (length a)),(19,.mpt 0 0 13),(18,.mpt 0 0 0),(17,.mpt 0 0 0),(16,.msl 2 0 (length a)),(15,.mpt 0 0 13),(14,.mpt 0 0 0),(13,.mpt 0 0 0)] 0 (zjh ⟨pe,(pb y (ldM ti y y (zp q).2.2 y w)),(pb y (ixM ti y ti y y y y q w)),(pb y (sub ti y y w)),(pb y (lnM ti y y y w)),pe,pe,pe,pe,pe,pe,pe,pe,t⟩ (zq [.old 0,.old 1,.old 2])) ?_
  obtain ⟨s,p,h⟩:=bs h
  refine rdA [(3,sA o)] [some (15,[(vK e g i j (.msl 1 0 (length d)) (.msl 2 0 (length s)) (bA n))]),some (1,map zm d),some (1,map zm a)] [14] [13,12,11,10,9,8,7,6,5,4,3,2,1,0] [(38,.mpt 0 0 13),(37,.mpt 0 0 0),(36,.msl 2 0 (length s)),(35,iA (IntKind.i64.wrap (((length a):Int)-1))),(34,iA ((length a):Int)),(33,.msl 2 0 (length a)),(32,.mpt 0 0 13),(31,.mpt 0 0 0),(30,.mpt 0 0 0),(29,.msl 2 0 (length a)),(28,.mpt 0 0 13),(27,.mpt 0 0 0),(26,.mpt 0 0 0),(25,.mpt 0 0 0)] 1 (ziH ⟨pe,pe,(pb y (slM (l:=a) (c:=(IntKind.i64.wrap (((length a):Int)-1))) ti y ti y y y (zob y p) p w)),(pb y (sub ti y y w)),(pb y (lnM ti y y y w)),pe,pe,pe,pe,pe,pe,pe,pe,pe,t⟩ ⟨(fun _ _=>⟨_,y,y,sto ti y y y<|⟨.any,[],[],y,y,kz,t,zlb (zq [.old 0,.old 1,.old 2])⟩⟩),t⟩) ?_
  refine zxr (b:=2) (l:=a) (f:=zm) (c:=(IntKind.i64.wrap (((length a):Int)-1))) y y p ?_
  refine rg y<|u<|mv y<|u<|asg y<|zb ?_
  refine zg ?_
  obtain rfl:=sm h
  exact ⟨_,y,zB [.old 0,.old 1,.old 2]⟩
def zcF(g:List za)(h:T2)(i:T0)(j:zc)(a:T1)(b:T1)(c:Bool)(l:zn)(d:Bool):Option (T1×T1×Bool):=
  cond d (some (a,b,true)) ((idx a l.A).bind fun e=>(zt g h i j a b c e).bind fun f=>some (a,f,c))
def zcK(c:List za)(d:T2)(e:T0)(f:zc)(a:T1)(i:T1)(g:Bool)(b:zn):Option (T1×T1×Bool):=
  cond (b.Op == (1:Int)) ((zt c d e f a i g [73]).bind fun x=>some (a,x,g)) (cond (b.Op == (2:Int)) ((zt c d e f a i g [78]).bind fun p=>some (a,p,g)) (cond (b.Op == (3:Int)) (cond (decide (((length a):Int)≤b.A)) (zcF c d e f a i g b true) ((idx a b.A).bind fun q=>zcF c d e f a i g b (q == [84]))) (cond (b.Op == (4:Int)) ((zah c d e f a i g).bind fun l=>cond (decide (((length a):Int)≤b.A)) (some (a,l.2.1,true)) ((zkW a).bind fun n=>(idx n b.A).bind fun z=>some ((List.set n (Int.toNat b.A) l.1),l.2.1,l.2.2))) (cond (b.Op == (5:Int)) ((zah c d e f a i g).bind fun o=>some (a,o.2.1,o.2.2)) (cond (b.Op == (6:Int)) ((zah c d e f a i g).bind fun h=>(zt c d e f a h.2.1 h.2.2 h.1).bind fun r=>(zt c d e f a r h.2.2 h.1).bind fun s=>some (a,s,h.2.2)) (cond (b.Op == (7:Int)) ((zah c d e f a i g).bind fun m=>(zah c d e f a m.2.1 m.2.2).bind fun j=>(zt c d e f a j.2.1 j.2.2 m.1).bind fun u=>(zt c d e f a u j.2.2 j.1).bind fun v=>some (a,v,j.2.2)) (some (a,i,g))))))))
theorem ziF(d:List za)(e:T2)(f:T0)(g:zc)(a:T1)(n:T1)(m:Bool)(i:zn){r:T1×T1×Bool}(h:zcK d e f g a n m i=some r):SC Tryz.prog 140 [.mpt 0 0 0,.agg (zx i)] [.one 15 (vK d e f g (.msl 1 0 (length a)) (.msl 2 0 (length n)) (bA m)),.many 1 (map zm a),.many 1 (map zm n)] (.tup []) [.one 15 (vK d e f g (.msl 3 0 (length r.1)) (.msl 4 0 (length r.2.1)) (bA r.2.2)),.no,.no,.many 1 (map zm r.1),.many 1 (map zm r.2.1)]:=by
 refine ⟨⟨t,t,t,zhi (sz:=1) (fun _=>y),zhi (sz:=1) (fun _=>y),t⟩,zbE Tryz.func140 y kz y ?_⟩
 unfold zcK at h
 refine rg y<|u<|bx 3 4 y y y y<|zb ?_
 refine rg y<|u<|fa ti y y y<|u<|ld ti y y<|zb ?_
 refine zr ?_
 refine rg y<|u<|eql ti y y<|u<|asg y<|zb ?_
 refine zf y (fun E=>?_) (fun E=>?_)
 ·
  replace h:=bT E h
  obtain ⟨S,q2,h⟩:=bs h
  refine rl y<|u<|mv y<|u<|sx [0,1,2] (zs d e f g a n m [73] q2)<|zK (env0:=[]) (st0:=[some (15,[(vK d e f g (.msl 1 0 (length a)) (.msl 3 0 (length S)) (bA m))]),some (1,map zm a),none,some (1,map zm S)]) (zq [.old 0,.old 1,.dead,.old 4])<|zb ?_
  obtain rfl:=sm h
  exact ⟨_,y,zB [.old 0,.dead,.dead,.old 1,.old 3]⟩
 ·
  replace h:=bF E h
  refine rg y<|u<|eql ti y y<|u<|asg y<|zb ?_
  refine zf y (fun F=>?_) (fun F=>?_)
  ·
   replace h:=bT F h
   obtain ⟨L,q4,h⟩:=bs h
   refine rl y<|u<|mv y<|u<|sx [0,1,2] (zs d e f g a n m [78] q4)<|zK (env0:=[]) (st0:=[some (15,[(vK d e f g (.msl 1 0 (length a)) (.msl 3 0 (length L)) (bA m))]),some (1,map zm a),none,some (1,map zm L)]) (zq [.old 0,.old 1,.dead,.old 4])<|zb ?_
   obtain rfl:=sm h
   exact ⟨_,y,zB [.old 0,.dead,.dead,.old 1,.old 3]⟩
  ·
   replace h:=bF F h
   refine rg y<|u<|eql ti y y<|u<|asg y<|zb ?_
   refine zf y (fun G=>?_) (fun G=>?_)
   ·
    replace h:=bT G h
    refine zj ?_
    refine zdk (X:=Bool) (fun z=>[(0,.mpt 0 0 0),(3,.mpt 3 0 0),(38,bA z)]) (fun z=>[some (15,[(vK d e f g (.msl 1 0 (length a)) (.msl 2 0 (length n)) (bA m))]),some (1,map zm a),some (1,map zm n),some (4,[(zx i)])]) (fun z=>zcF d e f g a n m i z=some r) ?_ ?_
    ·
     rcases bb (decide (((length a):Int)≤i.A)) with p |p
     ·
      replace h:=bT p h
      exact zb5 [] [18,17,16,15,14,13,12,11,10,9,8,7,6,5,4,3,2,1,0] [(38,bA true),(37,.lit undef),(36,.lit undef),(35,.lit undef),(34,.lit undef),(33,.lit undef),(32,.lit undef),(31,.lit undef),(30,.lit undef),(29,.lit undef),(28,bA (decide (((length a):Int)≤i.A))),(27,bA (decide (((length a):Int)≤i.A))),(26,iA ((length a):Int)),(25,.msl 1 0 (length a)),(24,.mpt 0 0 12),(23,.mpt 0 0 0),(22,.mpt 0 0 0),(21,iA i.A),(20,.mpt 3 0 1)] 0 kz kz y kz (zjh ⟨pe,pe,pe,pe,pe,pe,pe,pe,pe,pe,pe,pe,(pb y (lnM ti y y y w)),pe,pe,pe,pe,pe,pe,t⟩ ⟨true,h,zq [.old 0,.old 1,.old 2,.old 3]⟩)
     ·
      replace h:=bF p h
      obtain ⟨D,T,h⟩:=bs h
      exact zb5 [] [18,17,16,15,14,13,12,11,10,9,8,7,6,5,4,3,2,1,0] [(38,bA (D == [84])),(37,bA (D == [84])),(36,sA D),(35,.mpt 1 (Int.toNat i.A) 0),(34,iA i.A),(33,.mpt 3 0 1),(32,.msl 1 0 (length a)),(31,.mpt 0 0 12),(30,.mpt 0 0 0),(29,.mpt 0 0 0),(28,bA (decide (((length a):Int)≤i.A))),(27,bA (decide (((length a):Int)≤i.A))),(26,iA ((length a):Int)),(25,.msl 1 0 (length a)),(24,.mpt 0 0 12),(23,.mpt 0 0 0),(22,.mpt 0 0 0),(21,iA i.A),(20,.mpt 3 0 1)] 0 kz kz y kz (zjh ⟨pe,pe,(fun _=>pag (b:=(decide (((length a):Int)≤i.A))) y y y y p y (ldM ti y y (zp T).2.2 y<|w)),(fun _=>pag (b:=(decide (((length a):Int)≤i.A))) y y y y p y (ixM ti y ti y y y y T<|w)),pe,pe,pe,pe,pe,pe,pe,pe,(pb y (lnM ti y y y w)),pe,pe,pe,pe,pe,pe,t⟩ ⟨(D == [84]),h,zq [.old 0,.old 1,.old 2,.old 3]⟩)
    ·
     rintro U h
     replace h:zcF d e f g a n m i U=some r:=h
     unfold zcF at h
     refine zf y (fun H=>?_) (fun H=>?_)
     ·
      replace h:=bT H h
      refine rg y<|u<|mv y<|u<|nc y y<|u<|fa ti y y y<|u<|sto ti y y y<|zb ?_
      refine zg ?_
      obtain rfl:=sm h
      exact ⟨_,y,zB [.old 0,.dead,.dead,.old 1,.old 2]⟩
     ·
      replace h:=bF H h
      refine zi ?_
      obtain ⟨M,R,h⟩:=bs h
      obtain ⟨N,V,h⟩:=bs h
      refine zoX [] [some (15,[(vK d e f g (.msl 1 0 (length a)) (.msl 3 0 (length N)) (bA m))]),some (1,map zm a),none,some (1,map zm N)] [9] [8,7,6,5,4,3,2,1,0] [(50,sA M),(49,.mpt 1 (Int.toNat i.A) 0),(48,iA i.A),(47,.mpt 3 0 1),(46,.msl 1 0 (length a)),(45,.mpt 0 0 12),(44,.mpt 0 0 0),(43,.mpt 0 0 0),(42,.mpt 0 0 0)] 1 (ziH ⟨(pb y (ldM ti y y (zp R).2.2 y w)),(pb y (ixM ti y ti y y y y R w)),pe,pe,pe,pe,pe,pe,pe,t⟩ ⟨(fun _ _=>⟨_,y,y,sx [0,1,2] (zs d e f g a n m M V)<|⟨(.tup []),[],[(51,.tup [])],y,y,kz,y,zjh ⟨pe,(pb y (ixM ti y ti y y y y R w)),pe,pe,pe,pe,pe,pe,pe,t⟩ (zq [.old 0,.old 1,.dead,.old 4])⟩⟩),t⟩) ?_
      obtain rfl:=sm h
      exact ⟨_,y,zB [.old 0,.dead,.dead,.old 1,.old 3]⟩
   ·
    replace h:=bF G h
    refine rg y<|u<|eql ti y y<|u<|asg y<|zb ?_
    refine zf y (fun s=>?_) (fun s=>?_)
    ·
     replace h:=bT s h
     obtain ⟨c,W,h⟩:=bs h
     refine rg y<|u<|mv y<|u<|sx [0,1,2] (zaF d e f g a n m W)<|zK (env0:=[(0,.mpt 0 0 0),(3,.mpt 3 0 0),(55,sA c.1)]) (st0:=[some (15,[(vK d e f g (.msl 1 0 (length a)) (.msl 2 0 (length c.2.1)) (bA c.2.2))]),some (1,map zm a),some (1,map zm c.2.1),some (4,[(zx i)])]) (zq [.old 0,.old 1,.old 2,.old 3])<|u<|asg y<|zb ?_
     refine zj ?_
     refine rdA [(0,.mpt 0 0 0),(3,.mpt 3 0 0),(4,sA c.1),(63,bA (decide (((length a):Int)≤i.A)))] [some (15,[(vK d e f g (.msl 1 0 (length a)) (.msl 2 0 (length c.2.1)) (bA c.2.2))]),some (1,map zm a),some (1,map zm c.2.1),some (4,[(zx i)])] [] [7,6,5,4,3,2,1,0] [(63,bA (decide (((length a):Int)≤i.A))),(62,iA ((length a):Int)),(61,.msl 1 0 (length a)),(60,.mpt 0 0 12),(59,.mpt 0 0 0),(58,.mpt 0 0 0),(57,iA i.A),(56,.mpt 3 0 1)] 0 (zjh ⟨pe,(pb y (lnM ti y y y w)),pe,pe,pe,pe,pe,pe,t⟩ (zq [.old 0,.old 1,.old 2,.old 3])) ?_
     refine zf y (fun v=>?_) (fun v=>?_)
     ·
      replace h:=bT v h
      refine rg y<|u<|mv y<|u<|nc y y<|u<|fa ti y y y<|u<|sto ti y y y<|zb ?_
      refine zg ?_
      obtain rfl:=sm h
      exact ⟨_,y,zB [.old 0,.dead,.dead,.old 1,.old 2]⟩
     ·
      replace h:=bF v h
      refine zi ?_
      obtain ⟨q,Y,h⟩:=bs h
      refine rg y<|u<|mv y<|u<|mv y<|u<|nc y y<|u<|fa ti y y y<|u<|ld ti y y<|zK (env0:=[(0,.mpt 0 0 0),(3,.mpt 3 0 0),(4,sA c.1),(67,.mpt 0 0 0),(71,.isl 1 (map zm a))]) (st0:=[some (15,[(vK d e f g (.isl 1 (map zm a)) (.msl 2 0 (length c.2.1)) (bA c.2.2))]),none,some (1,map zm c.2.1),some (4,[(zx i)])]) (zq [.old 0,.dead,.old 2,.old 3])<|u<|sx [] (zlB a Y)<|zK (env0:=[(0,.mpt 0 0 0),(3,.mpt 3 0 0),(4,sA c.1),(67,.mpt 0 0 0),(72,.msl 4 0 (length q))]) (st0:=[some (15,[(vK d e f g (.isl 1 (map zm a)) (.msl 2 0 (length c.2.1)) (bA c.2.2))]),none,some (1,map zm c.2.1),some (4,[(zx i)]),some (1,map zm q)]) (zq [.old 0,.dead,.old 2,.old 3,.old 4])<|u<|nc y y<|u<|fa ti y y y<|u<|sto ti y y y<|zb ?_
      obtain ⟨v17,O,h⟩:=bs h
      refine zoX [] [some (15,[(vK d e f g (.msl 3 0 (length (List.set q (Int.toNat i.A) c.1))) (.msl 2 0 (length c.2.1)) (bA c.2.2))]),none,some (1,map zm c.2.1),some (1,map zm (List.set q (Int.toNat i.A) c.1))] [8] [7,6,5,4,3,2,1,0] [(82,.mpt 4 (Int.toNat i.A) 0),(81,sA c.1),(80,iA i.A),(79,.mpt 3 0 1),(78,.msl 4 0 (length q)),(77,.mpt 0 0 12),(76,.mpt 0 0 0),(75,.mpt 0 0 0)] 1 (ziH ⟨(pb y (ixM ti y ti y y y y O w)),pe,pe,pe,pe,pe,pe,pe,t⟩ ⟨(fun _ _=>⟨_,y,y,zxY (c':=c.1) ti y y (zp O).2.2 y y y y y<|⟨.any,[],[],y,y,kz,t,zlb ⟨[.old 0,.dead,.old 2,.old 4],cn,y,⟨⟨_,y,zl8 (zvK y (by exact ⟨zxE (by simp) y,.msl y,ci y,t⟩))⟩,⟨_,y,zmG (fun _=>y)⟩,⟨_,y,zmG (fun _=>y)⟩,t⟩,y,k⟩⟩⟩),t⟩) ?_
      obtain rfl:=sm h
      exact ⟨_,y,zB [.old 0,.dead,.dead,.old 3,.old 2]⟩
    ·
     replace h:=bF s h
     refine rg y<|u<|eql ti y y<|u<|asg y<|zb ?_
     refine zf y (fun x=>?_) (fun x=>?_)
     ·
      replace h:=bT x h
      obtain ⟨I,Z,h⟩:=bs h
      refine rl y<|u<|mv y<|u<|sx [0,1,2] (zaF d e f g a n m Z)<|zK (env0:=[]) (st0:=[some (15,[(vK d e f g (.msl 1 0 (length a)) (.msl 2 0 (length I.2.1)) (bA I.2.2))]),some (1,map zm a),some (1,map zm I.2.1)]) (zq [.old 0,.old 1,.old 2])<|zb ?_
      obtain rfl:=sm h
      exact ⟨_,y,zB [.old 0,.dead,.dead,.old 1,.old 2]⟩
     ·
      replace h:=bF x h
      refine rg y<|u<|eql ti y y<|u<|asg y<|zb ?_
      refine zf y (fun B=>?_) (fun B=>?_)
      ·
       replace h:=bT B h
       obtain ⟨j,q19,h⟩:=bs h
       refine rg y<|u<|mv y<|u<|sx [0,1,2] (zaF d e f g a n m q19)<|zK (env0:=[(0,.mpt 0 0 0),(90,sA j.1)]) (st0:=[some (15,[(vK d e f g (.msl 1 0 (length a)) (.msl 2 0 (length j.2.1)) (bA j.2.2))]),some (1,map zm a),some (1,map zm j.2.1)]) (zq [.old 0,.old 1,.old 2])<|u<|asg y<|zb ?_
       obtain ⟨J,q20,h⟩:=bs h
       refine rg y<|u<|mv y<|u<|mv y<|u<|sx [0,1,2] (zs d e f g a j.2.1 j.2.2 j.1 q20)<|zK (env0:=[(0,.mpt 0 0 0),(5,sA j.1)]) (st0:=[some (15,[(vK d e f g (.msl 1 0 (length a)) (.msl 3 0 (length J)) (bA j.2.2))]),some (1,map zm a),none,some (1,map zm J)]) (zq [.old 0,.old 1,.dead,.old 3])<|zb ?_
       obtain ⟨P,q21,h⟩:=bs h
       refine rl y<|u<|mv y<|u<|mv y<|u<|sx [0,1,3] (zs d e f g a J j.2.2 j.1 q21)<|zK (env0:=[]) (st0:=[some (15,[(vK d e f g (.msl 1 0 (length a)) (.msl 3 0 (length P)) (bA j.2.2))]),some (1,map zm a),none,some (1,map zm P)]) (zq [.old 0,.old 1,.dead,.old 4])<|zb ?_
       obtain rfl:=sm h
       exact ⟨_,y,zB [.old 0,.dead,.dead,.old 1,.old 3]⟩
      ·
       replace h:=bF B h
       refine rg y<|u<|eql ti y y<|u<|asg y<|zb ?_
       refine zf y (fun C=>?_) (fun C=>?_)
       ·
        replace h:=bT C h
        obtain ⟨o,q23,h⟩:=bs h
        obtain ⟨l,q24,h⟩:=bs h
        refine rg y<|u<|mv y<|u<|sx [0,1,2] (zaF d e f g a n m q23)<|zK (env0:=[(0,.mpt 0 0 0),(100,sA o.1)]) (st0:=[some (15,[(vK d e f g (.msl 1 0 (length a)) (.msl 2 0 (length o.2.1)) (bA o.2.2))]),some (1,map zm a),some (1,map zm o.2.1)]) (zq [.old 0,.old 1,.old 2])<|u<|mv y<|u<|sx [0,1,2] (zaF d e f g a o.2.1 o.2.2 q24)<|zK (env0:=[(0,.mpt 0 0 0),(100,sA o.1),(102,sA l.1)]) (st0:=[some (15,[(vK d e f g (.msl 1 0 (length a)) (.msl 2 0 (length l.2.1)) (bA l.2.2))]),some (1,map zm a),some (1,map zm l.2.1)]) (zq [.old 0,.old 1,.old 2])<|u<|asg y<|u<|asg y<|zb ?_
        obtain ⟨K,q25,h⟩:=bs h
        refine rg y<|u<|mv y<|u<|mv y<|u<|sx [0,1,2] (zs d e f g a l.2.1 l.2.2 o.1 q25)<|zK (env0:=[(0,.mpt 0 0 0),(7,sA l.1)]) (st0:=[some (15,[(vK d e f g (.msl 1 0 (length a)) (.msl 3 0 (length K)) (bA l.2.2))]),some (1,map zm a),none,some (1,map zm K)]) (zq [.old 0,.old 1,.dead,.old 3])<|zb ?_
        obtain ⟨Q,q26,h⟩:=bs h
        refine rl y<|u<|mv y<|u<|mv y<|u<|sx [0,1,3] (zs d e f g a K l.2.2 l.1 q26)<|zK (env0:=[]) (st0:=[some (15,[(vK d e f g (.msl 1 0 (length a)) (.msl 3 0 (length Q)) (bA l.2.2))]),some (1,map zm a),none,some (1,map zm Q)]) (zq [.old 0,.old 1,.dead,.old 4])<|zb ?_
        obtain rfl:=sm h
        exact ⟨_,y,zB [.old 0,.dead,.dead,.old 1,.old 3]⟩
       ·
        replace h:=bF C h
        refine zi ?_
        obtain rfl:=sm h
        exact ⟨_,y,zB [.old 0,.dead,.dead,.old 1,.old 2]⟩
def zes(a:T1)(b:Bool):Option (T1×Bool):=
  some (a,b)
def zag(e:List za)(f:T2)(i:T0)(j:zc)(l:T1)(m:T1)(c:T1)(d:Bool)(a:Int):Option (Sum (T1×Bool×Int) (Sum (T1×Bool) (T1×Bool))):=
  cond (decide (0≤a)) ((idx m a).bind fun g=>(zah e f i j l c d).bind fun b=>(zdz e f b.1 g).bind fun h=>some (.inl (b.2.1,(b.2.2||(!h)),(IntKind.i64.wrap (a-1))))) (some (.inr (.inl (c,d))))
def zv(c:List za)(d:T2)(e:T0)(f:zc)(g:T1)(h:T1)(i:Bool)(a:T1):Option (T1×Bool):=
  (zz (fun z=>zag c d e f g a z.1 z.2.1 z.2.2) (h,i,(IntKind.i64.wrap ((length a:Int)-1)))).bind fun o=>zaq o (fun b=>zes b.1 b.2) some
theorem zw(d:List za)(e:T2)(f:T0)(g:zc)(a:T1)(v:T1)(A:Bool)(i:T1){r:T1×Bool}(h:zv d e f g a v A i=some r):SC Tryz.prog 141 [.mpt 0 0 0,.isl 1 (map zm i)] [.one 15 (vK d e f g (.msl 1 0 (length a)) (.msl 2 0 (length v)) (bA A)),.many 1 (map zm a),.many 1 (map zm v)] (.tup []) [.one 15 (vK d e f g (.msl 1 0 (length a)) (.msl 2 0 (length r.1)) (bA r.2)),.many 1 (map zm a),.many 1 (map zm r.1)]:=by
 refine ⟨⟨t,zhi (sz:=1) (fun _=>y),zhi (sz:=1) (fun _=>y),t⟩,zbE Tryz.func141 y kz y ?_⟩
 unfold zv at h
 refine rg y<|u<|mv y<|u<|lnI ti y y<|u<|sub ti y y<|u<|asg y<|zb ?_
 obtain ⟨o,ho,h⟩:=bs h
 refine zaN (X:=T1×Bool×Int) (B:=T1×Bool) (R:=T1×Bool) (fun z=>[(0,.mpt 0 0 0),(1,.isl 1 (map zm i)),(4,iA z.2.2)]) (fun z=>[some (15,[(vK d e f g (.msl 1 0 (length a)) (.msl 2 0 (length z.1)) (bA z.2.1))]),some (1,map zm a),some (1,map zm z.1)]) (fun b=>[]) (fun b=>[some (15,[(vK d e f g (.msl 1 0 (length a)) (.msl 2 0 (length b.1)) (bA b.2))]),some (1,map zm a),some (1,map zm b.1)]) (fun r env st=>zb6 Tryz.prog Tryz.f141 3 (.tup []) [some (15,[(vK d e f g (.msl 1 0 (length a)) (.msl 2 0 (length r.1)) (bA r.2))]),some (1,map zm a),some (1,map zm r.1)] env st) ho (zq [.old 0,.old 1,.old 2]) ?_ ?_ ?_
 ·
  rintro ⟨p,q,j⟩ r h
  replace h:zag d e f g a i p q j=some r:=h
  unfold zag at h
  refine zj ?_
  refine rg y<|u<|mv y<|u<|geq ti y y<|zb ?_
  refine zf y (fun m=>?_) (fun m=>?_)
  ·
   replace h:=bT m h
   refine zi ?_
   refine zj ?_
   refine zr ?_
   obtain ⟨s,l,h⟩:=bs h
   obtain ⟨c,E,h⟩:=bs h
   obtain ⟨n,F,h⟩:=bs h
   refine zoX [(0,.mpt 0 0 0),(1,.isl 1 (map zm i)),(4,iA j)] [some (15,[(vK d e f g (.msl 1 0 (length a)) (.msl 2 0 (length c.2.1)) (bA (c.2.2||(!n))))]),some (1,map zm a),some (1,map zm c.2.1)] [6,12] [10,9,8,7,5,4,3,2,1,0] [(22,sA s),(21,.ipt 1 (map zm i) (Int.toNat j) 0),(20,iA j),(19,.isl 1 (map zm i)),(17,.mpt 0 0 0),(16,.ipt 2 [[.isl 6 (map zd d),.imp (map (rKV (fun x=>iA x)) e)]] 0 0),(15,.mpt 0 0 0),(14,.mpt 0 0 0),(13,.mpt 0 0 0),(12,.mpt 0 0 0)] 2 (ziH ⟨(pb y (ldI ti y (zp l).2.2 y w)),(pb y (ixI ti y ti y y y l w)),pe,pe,pe,pe,pe,pe,pe,pe,t⟩ ⟨(fun _ _=>⟨_,y,y,sx [0,1,2] (zaF d e f g a p q E)<|⟨(sA c.1),[11],[(23,bA n),(18,sA c.1)],y,y,kz,y,ziH ⟨(pb y (pc (zaK d e c.1 s F) y y y w)),(pb y (ldI ti y (zp l).2.2 y w)),(pb y (ixI ti y ti y y y l w)),pe,pe,pe,pe,pe,pe,pe,pe,t⟩ ⟨nv,(fun _ _=>⟨_,y,y,sx [0,1,2] (zo d e f g a c.2.1 c.2.2 n y)<|⟨(.tup []),[],[(24,.tup [])],y,y,kz,y,zjh ⟨pe,(pb y (ldI ti y (zp l).2.2 y w)),(pb y (ixI ti y ti y y y l w)),pe,pe,pe,pe,pe,pe,pe,pe,t⟩ (zq [.old 0,.old 1,.old 2])⟩⟩),t⟩⟩⟩),nw,t⟩) ?_
   refine rl y<|u<|mv y<|u<|sub ti y y<|u<|asg y<|zb ?_
   obtain rfl:=sm h
   exact ⟨_,y,zq [.old 0,.old 1,.old 2]⟩
  ·
   replace h:=bF m h
   refine zQ ?_
   obtain rfl:=sm h
   exact ⟨y,_,y,zq [.old 0,.old 1,.old 2]⟩
 ·
  rintro ⟨C,D⟩ rfl
  replace h:zes C D=some r:=h
  unfold zes at h
  refine zD ?_
  obtain rfl:=sm h
  exact ⟨_,y,zB [.old 0,.old 1,.old 2]⟩
 ·
  rintro r' rfl env st hp
  obtain rfl:=sm h
  exact hp

end
end Go.Proofs.YtjbdfkapnffjnaaGreat
