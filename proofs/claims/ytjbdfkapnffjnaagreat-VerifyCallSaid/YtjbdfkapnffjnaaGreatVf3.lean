/- What the proofs of this seat's laws rest on: how the program's functions compute, each for every input. No further condition. Part 3 of 8. -/
import Derived.Test.YtjbdfkapnffjnaaGreatVf2
namespace Go.Proofs.YtjbdfkapnffjnaaGreat
noncomputable section
open List (length map)
set_option linter.unusedSimpArgs false
set_option linter.unusedVariables false
set_option maxRecDepth 100000
set_option maxHeartbeats 4000000
structure zp where
  Op:Int
  A:Int
  C:T0
  M:T0
def zu(x:zp):List AV:=[iA x.Op,iA x.A,sA x.C,sA x.M]
def zc5(a:UInt8):Bool:=
  ((decide (97≤(a.toNat:Int)))&&(decide ((a.toNat:Int)≤122)))
theorem znp(b:UInt8){r:Bool}(h:zc5 b=r):zG Tryz.prog 179 [.lit (.int .u8 (b.toNat:Int))] (bA r):=by
 refine zr Tryz.func179 y kz y y ?_
 unfold zc5 at h
 refine rg y<|u<|asg y<|zb ?_
 refine rg y<|u<|mv y<|u<|geq ti y y<|u<|mv y<|z7 (j:=2) 2 y y y y y gpn (fun a=>g y a<|mv y<|g y a<|leq ti y y<|zb (egA [6,7] 2 a y y y y)) ze3<|u<|asg y<|zb ?_
 refine zj ?_
 obtain rfl:=h
 exact ⟨_,y,zz []⟩
def zdP(a:UInt8):Bool:=
  ((decide (65≤(a.toNat:Int)))&&(decide ((a.toNat:Int)≤90)))
theorem zno(b:UInt8){r:Bool}(h:zdP b=r):zG Tryz.prog 191 [.lit (.int .u8 (b.toNat:Int))] (bA r):=by
 refine zr Tryz.func191 y kz y y ?_
 unfold zdP at h
 refine rg y<|u<|asg y<|zb ?_
 refine rg y<|u<|mv y<|u<|geq ti y y<|u<|mv y<|z7 (j:=2) 2 y y y y y gpn (fun a=>g y a<|mv y<|g y a<|leq ti y y<|zb (egA [6,7] 2 a y y y y)) ze3<|u<|asg y<|zb ?_
 refine zj ?_
 obtain rfl:=h
 exact ⟨_,y,zz []⟩
def zht(a:UInt8):Bool:=
  ((decide (48≤(a.toNat:Int)))&&(decide ((a.toNat:Int)≤57)))
theorem zro(b:UInt8){r:Bool}(h:zht b=r):zG Tryz.prog 242 [.lit (.int .u8 (b.toNat:Int))] (bA r):=by
 refine zr Tryz.func242 y kz y y ?_
 unfold zht at h
 refine rg y<|u<|asg y<|zb ?_
 refine rg y<|u<|mv y<|u<|geq ti y y<|u<|mv y<|z7 (j:=2) 2 y y y y y gpn (fun a=>g y a<|mv y<|g y a<|leq ti y y<|zb (egA [6,7] 2 a y y y y)) ze3<|u<|asg y<|zb ?_
 refine zj ?_
 obtain rfl:=h
 exact ⟨_,y,zz []⟩
def zlv(a:T0):Option (Bool):=
  some ((!(a == []))&&(decide ((length a:Int)≤8)))
def ze5(b:T0)(a:Int):Option (Sum (Int) (Sum (Unit) (Bool))):=
  cond (decide (a<(length b:Int))) ((idx b a).bind fun g=>(cond (!(zc5 g)) ((idx b a).bind fun c=>some (!(zdP c))) (some false)).bind fun d=>(cond d ((idx b a).bind fun e=>some (!(zht e))) (some false)).bind fun f=>cond f (some (.inr (.inr false))) (some (.inl (IntKind.i64.wrap (a+1))))) (some (.inr (.inl ())))
def zjY(a:T0):Option (Bool):=
  (zw (fun z=>ze5 a z) 0).bind fun o=>zU o (fun b=>zlv a) some
theorem zoA(i:T0){r:Bool}(h:zjY i=some r):zG Tryz.prog 178 [sA i] (bA r):=by
 refine zr Tryz.func178 y kz y y ?_
 unfold zjY at h
 refine rg y<|u<|asg y<|zb ?_
 refine zi ?_
 refine rg y<|u<|mv y<|u<|lnS ti y y<|u<|mv y<|zb ?_
 obtain ⟨o,ho,h⟩:=bs h
 refine zY (X:=Int) (B:=Unit) (R:=Bool) (fun z=>[(0,sA i),(5,iA (length i:Int)),(6,iA z)]) (fun z=>[]) (fun b=>[(0,sA i)]) (fun b=>[]) (fun r env st=>zaO Tryz.prog Tryz.f178 0 (bA r) [] env st) ho (zo []) ?_ ?_ ?_
 ·
  rintro D r h
  replace h:ze5 i D=some r:=h
  unfold ze5 at h
  refine rg y<|u<|lss ti y y<|zb ?_
  refine zi ?_
  refine ze y (fun l=>?_) (fun l=>?_)
  ·
   replace h:=bT l h
   refine zg ?_
   refine zi ?_
   refine zs ?_
   refine rg y<|u<|mv y<|u<|asg y<|zb ?_
   obtain ⟨E,n,h⟩:=bs h
   obtain ⟨p,d,h⟩:=bs h
   obtain ⟨q,e,h⟩:=bs h
   refine rg y<|u<|mv y<|u<|mv y<|u<|ixS ti y y y n<|u<|pc (znp E y) y y y<|u<|nt y<|u<|mv y<|z7 (x:=p) (j:=5) 5 y y y y y gpn (fun a=>by replace d:=bT a d;obtain ⟨s,v,d⟩:=bs d;obtain rfl:=sm d;exact g y a<|mv y<|g y a<|mv y<|g y a<|ixS ti y y y v<|g y a<|pc (zno s y) y y y<|g y a<|nt y<|zb (eg [15,16,17,18,19] 5 y y y y)) (fun hb=>(sm (bF hb d)).symm)<|u<|mv y<|z7 (x:=q) (j:=12) 5 y y y y y gpn (fun c=>by replace e:=bT c e;obtain ⟨A,C,e⟩:=bs e;obtain rfl:=sm e;exact g y c<|mv y<|g y c<|mv y<|g y c<|ixS ti y y y C<|g y c<|pc (zro A y) y y y<|g y c<|nt y<|zb (eg [22,23,24,25,26] 5 y y y y)) (fun hb=>(sm (bF hb e)).symm)<|zb ?_
   refine ze y (fun m=>?_) (fun m=>?_)
   ·
    replace h:=bT m h
    refine rg y<|u<|asg y<|zb ?_
    refine zj ?_
    obtain rfl:=sm h
    exact ⟨_,y,_,y,zz []⟩
   ·
    replace h:=bF m h
    refine zg ?_
    refine rl y<|u<|add ti y y<|u<|mv y<|zb ?_
    obtain rfl:=sm h
    exact ⟨_,y,zo []⟩
  ·
   replace h:=bF l h
   refine zE ?_
   obtain rfl:=sm h
   exact ⟨y,_,y,zo []⟩
 ·
  rintro ⟨⟩ rfl
  replace h:zlv i=some r:=h
  unfold zlv at h
  refine zy ?_
  refine rg y<|u<|mv y<|u<|sne ti y y<|u<|mv y<|z7 (j:=2) 3 y y y y y gpn (fun f=>g y f<|mv y<|g y f<|lnS ti y y<|g y f<|leq ti y y<|zb (egA [32,33,34] 3 f y y y y)) ze3<|u<|asg y<|zb ?_
  refine zj ?_
  obtain rfl:=sm h
  exact ⟨_,y,zz []⟩
 ·
  rintro r' rfl env st hp
  obtain rfl:=sm h
  exact hp
def zfB(a:T0):Option (Bool):=
  (zjY a).bind fun b=>(cond (b&&(decide (1<(length a:Int)))) ((idx a 0).bind fun c=>some (zdP c)) (some false)).bind fun d=>some d
theorem zgp(d:T0){r:Bool}(h:zfB d=some r):zG Tryz.prog 107 [sA d] (bA r):=by
 refine zr Tryz.func107 y kz y y ?_
 unfold zfB at h
 refine rg y<|u<|asg y<|zb ?_
 obtain ⟨m,e,h⟩:=bs h
 obtain ⟨f,c,h⟩:=bs h
 refine rg y<|u<|mv y<|u<|pc (zoA d e) y y y<|u<|mv y<|z7 (j:=2) 3 y y y y y gpn (fun a=>g y a<|mv y<|g y a<|lnS ti y y<|g y a<|gtr ti y y<|zb (egA [6,7,8] 3 a y y y y)) ze3<|u<|mv y<|z7 (x:=f) (j:=7) 3 y y y y y gpn (fun b=>by replace c:=bT b c;obtain ⟨i,l,c⟩:=bs c;obtain rfl:=sm c;exact g y b<|mv y<|g y b<|ixS ti y y y l<|g y b<|pc (zno i y) y y y<|zb (eg [11,12,13] 3 y y y y)) (fun hb=>(sm (bF hb c)).symm)<|u<|asg y<|zb ?_
 refine zj ?_
 obtain rfl:=sm h
 exact ⟨_,y,zz []⟩
def zi7(a:T0):Option (Bool):=
  (cond (a == [36,105,110,105,116]) (some true) ((zjY a).bind fun b=>(cond b ((idx a 0).bind fun c=>some (zc5 c)) (some false)).bind fun d=>some d)).bind fun e=>some e
theorem zlu(e:T0){r:Bool}(h:zi7 e=some r):zG Tryz.prog 101 [sA e] (bA r):=by
 refine zr Tryz.func101 y kz y y ?_
 unfold zi7 at h
 refine rg y<|u<|asg y<|zb ?_
 obtain ⟨f,a,h⟩:=bs h
 refine rg y<|u<|mv y<|u<|seq ti y y<|u<|mv y<|zcU (x:=f) (j:=2) 7 y y y y y gpn (fun b=>by replace a:=bF b a;obtain ⟨o,i,a⟩:=bs a;obtain ⟨l,d,a⟩:=bs a;obtain rfl:=sm a;exact g y b<|mv y<|g y b<|pc (zoA e i) y y y<|g y b<|mv y<|z7 (x:=l) (j:=5) 3 y y y y y (gps y y b) (fun c=>by replace d:=bT c d;obtain ⟨m,n,d⟩:=bs d;obtain rfl:=sm d;exact g y c<|mv y<|g y c<|ixS ti y y y n<|g y c<|pc (znp m y) y y y<|zb (eg [9,10,11] 3 y y y y)) (fun hb=>(sm (bF hb d)).symm)<|zb (eg [6,7,8,9,10,11,12] 4 y y y y)) (fun hb=>(sm (bT hb a)).symm)<|u<|asg y<|zb ?_
 refine zj ?_
 obtain rfl:=sm h
 exact ⟨_,y,zz []⟩
def zcp(b:T0)(a:T0):Option (Bool):=
  (cond (decide ((length a:Int)≤(length b:Int))) ((zkh b 0 (length a:Int)).bind fun c=>some (c == a)) (some false)).bind fun d=>some d
theorem zhG(f:T0)(e:T0){r:Bool}(h:zcp f e=some r):zG Tryz.prog 271 [sA f,sA e] (bA r):=by
 refine zr Tryz.func271 y kz y y ?_
 unfold zcp at h
 refine rg y<|u<|asg y<|zb ?_
 obtain ⟨l,d,h⟩:=bs h
 refine rg y<|u<|mv y<|u<|lnS ti y y<|u<|mv y<|u<|lnS ti y y<|u<|geq ti y y<|u<|mv y<|z7 (x:=l) (j:=5) 6 y y y y y gpn (fun c=>by replace d:=bT c d;obtain ⟨m,i,d⟩:=bs d;obtain rfl:=sm d;exact g y c<|mv y<|g y c<|mv y<|g y c<|lnS ti y y<|g y c<|slS (a:=0) (b:=(length e:Int)) ti y y y (zov y i) i<|g y c<|mv y<|g y c<|seq ti y y<|zb (eg [11,12,13,14,15,16] 6 y y y y)) (fun hb=>(sm (bF hb d)).symm)<|u<|asg y<|zb ?_
 refine zj ?_
 obtain rfl:=sm h
 exact ⟨_,y,zz []⟩
def zcl(a:T0)(b:T0):Option (T0):=
  (zcp a b).bind fun c=>cond c ((zkh a (length b:Int) (length a:Int)).bind fun d=>some d) (some a)
theorem zhz(d:T0)(e:T0){r:T0}(h:zcl d e=some r):zG Tryz.prog 243 [sA d,sA e] (sA r):=by
 refine zr Tryz.func243 y kz y y ?_
 unfold zcl at h
 refine rg y<|u<|asg y<|zb ?_
 refine zi ?_
 obtain ⟨i,g,h⟩:=bs h
 refine rg y<|u<|mv y<|u<|mv y<|u<|pc (zhG d e g) y y y<|zb ?_
 refine ze y (fun c=>?_) (fun c=>?_)
 ·
  replace h:=bT c h
  obtain ⟨j,f,h⟩:=bs h
  refine rg y<|u<|mv y<|u<|mv y<|u<|lnS ti y y<|u<|slS (a:=(length e:Int)) (b:=(length d:Int)) ti y y (zmn y f) y f<|u<|asg y<|zb ?_
  refine zj ?_
  obtain rfl:=sm h
  exact ⟨_,y,zz []⟩
 ·
  replace h:=bF c h
  refine zg ?_
  refine rg y<|u<|mv y<|u<|asg y<|zb ?_
  refine zj ?_
  obtain rfl:=sm h
  exact ⟨_,y,zz []⟩
def zdS(a:T0)(b:T0):Option (T0):=
  (zcl a b).bind fun c=>some c
theorem ziA(a:T0)(b:T0){r:T0}(h:zdS a b=some r):zG Tryz.prog 180 [sA a,sA b] (sA r):=by
 refine zr Tryz.func180 y kz y y ?_
 unfold zdS at h
 refine rg y<|u<|asg y<|zb ?_
 obtain ⟨d,c,h⟩:=bs h
 refine rg y<|u<|mv y<|u<|mv y<|u<|pc (zhz a b c) y y y<|u<|asg y<|zb ?_
 refine zj ?_
 obtain rfl:=sm h
 exact ⟨_,y,zz []⟩
def zhH(b:T0):Option (Bool):=
  (zdS b [91]).bind fun c=>(zdS c [91]).bind fun a=>(cond (a == [73]) (some true) ((zfB a).bind fun d=>some d)).bind fun e=>some e
theorem zhc(c:T0){r:Bool}(h:zhH c=some r):zG Tryz.prog 102 [sA c] (bA r):=by
 refine zr Tryz.func102 y kz y y ?_
 unfold zhH at h
 refine rg y<|u<|asg y<|zb ?_
 obtain ⟨d,e,h⟩:=bs h
 obtain ⟨f,i,h⟩:=bs h
 refine rg y<|u<|mv y<|u<|pc (ziA c [91] e) y y y<|u<|pc (ziA d [91] i) y y y<|u<|asg y<|zb ?_
 obtain ⟨l,a,h⟩:=bs h
 refine rg y<|u<|mv y<|u<|seq ti y y<|u<|mv y<|zcU (x:=l) (j:=2) 2 y y y y y gpn (fun b=>by replace a:=bF b a;obtain ⟨n,m,a⟩:=bs a;obtain rfl:=sm a;exact g y b<|mv y<|g y b<|pc (zgp f m) y y y<|zb (eg [9,10] 2 y y y y)) (fun hb=>(sm (bT hb a)).symm)<|u<|asg y<|zb ?_
 refine zj ?_
 obtain rfl:=sm h
 exact ⟨_,y,zz []⟩
def zjt(a:T0):Option (Bool):=
  (cond (!(a == [73])) ((zhH a).bind fun b=>some b) (some false)).bind fun c=>some c
theorem zkC(c:T0){r:Bool}(h:zjt c=some r):zG Tryz.prog 64 [sA c] (bA r):=by
 refine zr Tryz.func64 y kz y y ?_
 unfold zjt at h
 refine rg y<|u<|asg y<|zb ?_
 obtain ⟨d,a,h⟩:=bs h
 refine rg y<|u<|mv y<|u<|sne ti y y<|u<|mv y<|z7 (x:=d) (j:=2) 2 y y y y y gpn (fun b=>by replace a:=bT b a;obtain ⟨f,e,a⟩:=bs a;obtain rfl:=sm a;exact g y b<|mv y<|g y b<|pc (zhc c e) y y y<|zb (eg [6,7] 2 y y y y)) (fun hb=>(sm (bF hb a)).symm)<|u<|asg y<|zb ?_
 refine zj ?_
 obtain rfl:=sm h
 exact ⟨_,y,zz []⟩
def zea(a:Int)(b:Int)(c:Int):Bool:=
  ((decide (b≤a))&&(decide (a≤c)))
theorem zgs(b:Int)(c:Int)(d:Int){r:Bool}(h:zea b c d=r):zG Tryz.prog 149 [iA b,iA c,iA d] (bA r):=by
 refine zr Tryz.func149 y kz y y ?_
 unfold zea at h
 refine rg y<|u<|asg y<|zb ?_
 refine rg y<|u<|mv y<|u<|mv y<|u<|geq ti y y<|u<|mv y<|z7 (j:=3) 3 y y y y y gpn (fun a=>g y a<|mv y<|g y a<|mv y<|g y a<|leq ti y y<|zb (egA [11,12,13] 3 a y y y y)) ze3<|u<|asg y<|zb ?_
 refine zj ?_
 obtain rfl:=h
 exact ⟨_,y,zz []⟩
def zkG(a:Int):Bool:=
  (zea a 1 61)
theorem ztQ(a:Int){r:Bool}(h:zkG a=r):zG Tryz.prog 272 [iA a] (bA r):=by
 refine zr Tryz.func272 y kz y y ?_
 unfold zkG at h
 refine rg y<|u<|asg y<|zb ?_
 refine rg y<|u<|mv y<|u<|pc (zgs a 1 61 y) y y y<|u<|asg y<|zb ?_
 refine zj ?_
 obtain rfl:=h
 exact ⟨_,y,zz []⟩
def zeN(a:Int):Bool:=
  (zea a 20 36)
theorem zmZ(a:Int){r:Bool}(h:zeN a=r):zG Tryz.prog 87 [iA a] (bA r):=by
 refine zr Tryz.func87 y kz y y ?_
 unfold zeN at h
 refine rg y<|u<|asg y<|zb ?_
 refine rg y<|u<|mv y<|u<|pc (zgs a 20 36 y) y y y<|u<|asg y<|zb ?_
 refine zj ?_
 obtain rfl:=h
 exact ⟨_,y,zz []⟩
def zjI(a:Int)(b:Int):Bool:=
  cond (a == (1:Int)) ((zea b (-2147483648) 2147483647)) (cond ((a == (3:Int))||(a == (4:Int))) ((zea b 0 15)) (cond (zeN a) ((zea b 0 99)) ((b == (0:Int)))))
theorem zvO(f:Int)(a:Int){r:Bool}(h:zjI f a=r):zG Tryz.prog 273 [iA f,iA a] (bA r):=by
 refine zr Tryz.func273 y kz y y ?_
 unfold zjI at h
 refine rg y<|u<|asg y<|zb ?_
 refine zi ?_
 refine zs ?_
 refine rg y<|u<|mv y<|u<|eql ti y y<|u<|asg y<|zb ?_
 refine ze y (fun b=>?_) (fun b=>?_)
 ·
  replace h:=bT b h
  refine rg y<|u<|mv y<|u<|pc (zgs a (-2147483648) 2147483647 y) y y y<|u<|asg y<|zb ?_
  refine zj ?_
  obtain rfl:=h
  exact ⟨_,y,zz []⟩
 ·
  replace h:=bF b h
  refine rg y<|u<|mv y<|u<|eql ti y y<|u<|mv y<|zcU (j:=2) 2 y y y y y gpn (fun c=>g y c<|mv y<|g y c<|eql ti y y<|zb (egO [14,15] 2 c y y y y)) orT<|u<|asg y<|zb ?_
  refine ze y (fun d=>?_) (fun d=>?_)
  ·
   replace h:=bT d h
   refine rg y<|u<|mv y<|u<|pc (zgs a 0 15 y) y y y<|u<|asg y<|zb ?_
   refine zj ?_
   obtain rfl:=h
   exact ⟨_,y,zz []⟩
  ·
   replace h:=bF d h
   refine rg y<|u<|mv y<|u<|pc (zmZ f y) y y y<|u<|asg y<|zb ?_
   refine ze y (fun e=>?_) (fun e=>?_)
   ·
    replace h:=bT e h
    refine rg y<|u<|mv y<|u<|pc (zgs a 0 99 y) y y y<|u<|asg y<|zb ?_
    refine zj ?_
    obtain rfl:=h
    exact ⟨_,y,zz []⟩
   ·
    replace h:=bF e h
    refine zg ?_
    refine rg y<|u<|mv y<|u<|eql ti y y<|u<|asg y<|zb ?_
    refine zj ?_
    obtain rfl:=h
    exact ⟨_,y,zz []⟩
def zhM(a:Int):Bool:=
  (((a == (50:Int))||(a == (56:Int)))||(a == (57:Int)))
theorem zpM(c:Int){r:Bool}(h:zhM c=r):zG Tryz.prog 292 [iA c] (bA r):=by
 refine zr Tryz.func292 y kz y y ?_
 unfold zhM at h
 refine rg y<|u<|asg y<|zb ?_
 refine rg y<|u<|mv y<|u<|eql ti y y<|u<|mv y<|zcU (j:=2) 2 y y y y y gpn (fun a=>g y a<|mv y<|g y a<|eql ti y y<|zb (egO [6,7] 2 a y y y y)) orT<|u<|mv y<|zcU (j:=6) 2 y y y y y gpn (fun b=>g y b<|mv y<|g y b<|eql ti y y<|zb (egO [10,11] 2 b y y y y)) orT<|u<|asg y<|zb ?_
 refine zj ?_
 obtain rfl:=h
 exact ⟨_,y,zz []⟩
def zAm(a:Int):Bool:=
  (zea a 38 45)
theorem zxE(a:Int){r:Bool}(h:zAm a=r):zG Tryz.prog 294 [iA a] (bA r):=by
 refine zr Tryz.func294 y kz y y ?_
 unfold zAm at h
 refine rg y<|u<|asg y<|zb ?_
 refine rg y<|u<|mv y<|u<|pc (zgs a 38 45 y) y y y<|u<|asg y<|zb ?_
 refine zj ?_
 obtain rfl:=h
 exact ⟨_,y,zz []⟩
def zAl(a:Int):Bool:=
  (((a == (37:Int))||(zAm a))||(zhM a))
theorem zBn(c:Int){r:Bool}(h:zAl c=r):zG Tryz.prog 293 [iA c] (bA r):=by
 refine zr Tryz.func293 y kz y y ?_
 unfold zAl at h
 refine rg y<|u<|asg y<|zb ?_
 refine rg y<|u<|mv y<|u<|eql ti y y<|u<|mv y<|zcU (j:=2) 2 y y y y y gpn (fun a=>g y a<|mv y<|g y a<|pc (zxE c y) y y y<|zb (egO [6,7] 2 a y y y y)) orT<|u<|mv y<|zcU (j:=6) 2 y y y y y gpn (fun b=>g y b<|mv y<|g y b<|pc (zpM c y) y y y<|zb (egO [10,11] 2 b y y y y)) orT<|u<|asg y<|zb ?_
 refine zj ?_
 obtain rfl:=h
 exact ⟨_,y,zz []⟩
def zpK(b:Int)(a:T0):Option (Bool):=
  cond (zhM b) ((zjt a).bind fun c=>some c) (cond (zAl b) ((zfB a).bind fun d=>some d) (some (a == [])))
theorem zvQ(c:Int)(d:T0){r:Bool}(h:zpK c d=some r):zG Tryz.prog 274 [iA c,sA d] (bA r):=by
 refine zr Tryz.func274 y kz y y ?_
 unfold zpK at h
 refine rg y<|u<|asg y<|zb ?_
 refine zi ?_
 refine zs ?_
 refine rg y<|u<|mv y<|u<|pc (zpM c y) y y y<|u<|asg y<|zb ?_
 refine ze y (fun a=>?_) (fun a=>?_)
 ·
  replace h:=bT a h
  obtain ⟨g,e,h⟩:=bs h
  refine rg y<|u<|mv y<|u<|pc (zkC d e) y y y<|u<|asg y<|zb ?_
  refine zj ?_
  obtain rfl:=sm h
  exact ⟨_,y,zz []⟩
 ·
  replace h:=bF a h
  refine rg y<|u<|mv y<|u<|pc (zBn c y) y y y<|u<|asg y<|zb ?_
  refine ze y (fun b=>?_) (fun b=>?_)
  ·
   replace h:=bT b h
   obtain ⟨i,f,h⟩:=bs h
   refine rg y<|u<|mv y<|u<|pc (zgp d f) y y y<|u<|asg y<|zb ?_
   refine zj ?_
   obtain rfl:=sm h
   exact ⟨_,y,zz []⟩
  ·
   replace h:=bF b h
   refine zg ?_
   refine rg y<|u<|mv y<|u<|seq ti y y<|u<|asg y<|zb ?_
   refine zj ?_
   obtain rfl:=sm h
   exact ⟨_,y,zz []⟩
def zpL(b:Int)(a:T0):Option (Bool):=
  cond (zAm b) ((zi7 a).bind fun c=>some (c&&(!(a == [36,105,110,105,116])))) (some (a == []))
theorem zvS(c:Int)(d:T0){r:Bool}(h:zpL c d=some r):zG Tryz.prog 275 [iA c,sA d] (bA r):=by
 refine zr Tryz.func275 y kz y y ?_
 unfold zpL at h
 refine rg y<|u<|asg y<|zb ?_
 refine zi ?_
 refine rg y<|u<|mv y<|u<|pc (zxE c y) y y y<|zb ?_
 refine ze y (fun a=>?_) (fun a=>?_)
 ·
  replace h:=bT a h
  obtain ⟨f,e,h⟩:=bs h
  refine rg y<|u<|mv y<|u<|pc (zlu d e) y y y<|u<|mv y<|z7 (j:=2) 2 y y y y y gpn (fun b=>g y b<|mv y<|g y b<|sne ti y y<|zb (egA [10,11] 2 b y y y y)) ze3<|u<|asg y<|zb ?_
  refine zj ?_
  obtain rfl:=sm h
  exact ⟨_,y,zz []⟩
 ·
  replace h:=bF a h
  refine zg ?_
  refine rg y<|u<|mv y<|u<|seq ti y y<|u<|asg y<|zb ?_
  refine zj ?_
  obtain rfl:=sm h
  exact ⟨_,y,zz []⟩
def zsJ(a:zp):Option (Bool):=
  (cond ((zkG a.Op)&&(zjI a.Op a.A)) ((zpK a.Op a.C).bind fun b=>some b) (some false)).bind fun c=>(cond c ((zpL a.Op a.M).bind fun d=>some d) (some false)).bind fun e=>some e
theorem zxA(d:zp){r:Bool}(h:zsJ d=some r):zG Tryz.prog 247 [.agg (zu d)] (bA r):=by
 refine zr Tryz.func247 y kz y y ?_
 unfold zsJ at h
 refine rg y<|u<|bx 0 4 y y y y<|u<|asg y<|zb ?_
 obtain ⟨i,e,h⟩:=bs h
 obtain ⟨l,f,h⟩:=bs h
 refine rg y<|u<|fa ti y y y<|u<|ld ti y y<|u<|pc (ztQ d.Op y) y y y<|u<|mv y<|z7 (j:=3) 5 y y y y y gpn (fun a=>g y a<|fa ti y y y<|g y a<|ld ti y y<|g y a<|fa ti y y y<|g y a<|ld ti y y<|g y a<|pc (zvO d.Op d.A y) y y y<|zb (egA [7,8,9,10,11] 5 a y y y y)) ze3<|u<|mv y<|z7 (x:=i) (j:=10) 5 y y y y y gpn (fun b=>by replace e:=bT b e;obtain ⟨o,m,e⟩:=bs e;obtain rfl:=sm e;exact g y b<|fa ti y y y<|g y b<|ld ti y y<|g y b<|fa ti y y y<|g y b<|ld ti y y<|g y b<|pc (zvQ d.Op d.C m) y y y<|zb (eg [14,15,16,17,18] 5 y y y y)) (fun hb=>(sm (bF hb e)).symm)<|u<|mv y<|z7 (x:=l) (j:=17) 5 y y y y y gpn (fun c=>by replace f:=bT c f;obtain ⟨p,n,f⟩:=bs f;obtain rfl:=sm f;exact g y c<|fa ti y y y<|g y c<|ld ti y y<|g y c<|fa ti y y y<|g y c<|ld ti y y<|g y c<|pc (zvS d.Op d.M n) y y y<|zb (eg [21,22,23,24,25] 5 y y y y)) (fun hb=>(sm (bF hb f)).symm)<|u<|asg y<|zb ?_
 refine zj ?_
 obtain rfl:=sm h
 exact ⟨_,y,zz []⟩
def zj8(a:UInt8):Bool:=
  ((decide (65≤(a.toNat:Int)))&&(decide ((a.toNat:Int)≤90)))
theorem znG(b:UInt8){r:Bool}(h:zj8 b=r):zG Tryz.prog 151 [.lit (.int .u8 (b.toNat:Int))] (bA r):=by
 refine zr Tryz.func151 y kz y y ?_
 unfold zj8 at h
 refine rg y<|u<|asg y<|zb ?_
 refine rg y<|u<|mv y<|u<|geq ti y y<|u<|mv y<|z7 (j:=2) 2 y y y y y gpn (fun a=>g y a<|mv y<|g y a<|leq ti y y<|zb (egA [6,7] 2 a y y y y)) ze3<|u<|asg y<|zb ?_
 refine zj ?_
 obtain rfl:=h
 exact ⟨_,y,zz []⟩
def zjg(a:UInt8):Bool:=
  ((decide (97≤(a.toNat:Int)))&&(decide ((a.toNat:Int)≤122)))
theorem zmx(b:UInt8){r:Bool}(h:zjg b=r):zG Tryz.prog 152 [.lit (.int .u8 (b.toNat:Int))] (bA r):=by
 refine zr Tryz.func152 y kz y y ?_
 unfold zjg at h
 refine rg y<|u<|asg y<|zb ?_
 refine rg y<|u<|mv y<|u<|geq ti y y<|u<|mv y<|z7 (j:=2) 2 y y y y y gpn (fun a=>g y a<|mv y<|g y a<|leq ti y y<|zb (egA [6,7] 2 a y y y y)) ze3<|u<|asg y<|zb ?_
 refine zj ?_
 obtain rfl:=h
 exact ⟨_,y,zz []⟩
def zj7(a:UInt8):Bool:=
  ((decide (48≤(a.toNat:Int)))&&(decide ((a.toNat:Int)≤57)))
theorem znF(b:UInt8){r:Bool}(h:zj7 b=r):zG Tryz.prog 153 [.lit (.int .u8 (b.toNat:Int))] (bA r):=by
 refine zr Tryz.func153 y kz y y ?_
 unfold zj7 at h
 refine rg y<|u<|asg y<|zb ?_
 refine rg y<|u<|mv y<|u<|geq ti y y<|u<|mv y<|z7 (j:=2) 2 y y y y y gpn (fun a=>g y a<|mv y<|g y a<|leq ti y y<|zb (egA [6,7] 2 a y y y y)) ze3<|u<|asg y<|zb ?_
 refine zj ?_
 obtain rfl:=h
 exact ⟨_,y,zz []⟩
def zkI(a:T0):Option (Bool):=
  some ((decide (2≤(length a:Int)))&&(decide ((length a:Int)≤8)))
def zc0(b:T0)(a:Int):Option (Sum (Int) (Sum (Unit) (Bool))):=
  cond (decide (a<(length b:Int))) ((idx b a).bind fun c=>(cond (!(zj8 c)) ((cond (a == (0:Int)) (some true) ((idx b a).bind fun d=>(cond (!(zjg d)) ((idx b a).bind fun e=>some (!(zj7 e))) (some false)).bind fun f=>some f)).bind fun g=>some g) (some false)).bind fun h=>cond h (some (.inr (.inr false))) (some (.inl (IntKind.i64.wrap (a+1))))) (some (.inr (.inl ())))
def zfC(a:T0):Option (Bool):=
  (zw (fun z=>zc0 a z) 0).bind fun o=>zU o (fun b=>zkI a) some
theorem zgu(p:T0){r:Bool}(h:zfC p=some r):zG Tryz.prog 90 [sA p] (bA r):=by
 refine zr Tryz.func90 y kz y y ?_
 unfold zfC at h
 refine rg y<|u<|asg y<|zb ?_
 refine zi ?_
 refine rg y<|u<|asg y<|zb ?_
 obtain ⟨o,ho,h⟩:=bs h
 refine zY (X:=Int) (B:=Unit) (R:=Bool) (fun z=>[(0,sA p),(3,iA z)]) (fun z=>[]) (fun b=>[(0,sA p)]) (fun b=>[]) (fun r env st=>zaO Tryz.prog Tryz.f90 0 (bA r) [] env st) ho (zo []) ?_ ?_ ?_
 ·
  rintro H r h
  replace h:zc0 p H=some r:=h
  unfold zc0 at h
  refine zi ?_
  refine rg y<|u<|mv y<|u<|mv y<|u<|lnS ti y y<|u<|lss ti y y<|zb ?_
  refine ze y (fun m=>?_) (fun m=>?_)
  ·
   replace h:=bT m h
   refine zg ?_
   refine zi ?_
   refine zs ?_
   obtain ⟨q,s,h⟩:=bs h
   obtain ⟨v,f,h⟩:=bs h
   refine rg y<|u<|mv y<|u<|mv y<|u<|ixS ti y y y s<|u<|pc (znG q y) y y y<|u<|nt y<|u<|mv y<|z7 (x:=v) (j:=5) 16 y y y y y gpn (fun e=>by replace f:=bT e f;obtain ⟨A,d,f⟩:=bs f;obtain rfl:=sm f;exact g y e<|mv y<|g y e<|eql ti y y<|g y e<|mv y<|zcU (x:=A) (j:=8) 12 y y y y y (gps y y e) (fun a=>by replace d:=bF a d;obtain ⟨C,D,d⟩:=bs d;obtain ⟨E,i,d⟩:=bs d;obtain rfl:=sm d;exact g y a<|mv y<|g y a<|mv y<|g y a<|ixS ti y y y D<|g y a<|pc (zmx C y) y y y<|g y a<|nt y<|g y a<|mv y<|z7 (x:=E) (j:=14) 5 y y y y y (gps y y a) (fun c=>by replace i:=bT c i;obtain ⟨F,G,i⟩:=bs i;obtain rfl:=sm i;exact g y c<|mv y<|g y c<|mv y<|g y c<|ixS ti y y y G<|g y c<|pc (znF F y) y y y<|g y c<|nt y<|zb (eg [25,26,27,28,29] 5 y y y y)) (fun hb=>(sm (bF hb i)).symm)<|zb (eg [19,20,21,22,23,24,25,26,27,28,29,30] 7 y y y y)) (fun hb=>(sm (bT hb d)).symm)<|zb (eg [16,17,18,19,20,21,22,23,24,25,26,27,28,29,30,31] 4 y y y y)) (fun hb=>(sm (bF hb f)).symm)<|zb ?_
   refine ze y (fun n=>?_) (fun n=>?_)
   ·
    replace h:=bT n h
    refine rg y<|u<|asg y<|zb ?_
    refine zj ?_
    obtain rfl:=sm h
    exact ⟨_,y,_,y,zz []⟩
   ·
    replace h:=bF n h
    refine zg ?_
    refine rl y<|u<|mv y<|u<|add ti y y<|u<|asg y<|zb ?_
    obtain rfl:=sm h
    exact ⟨_,y,zo []⟩
  ·
   replace h:=bF m h
   refine zE ?_
   obtain rfl:=sm h
   exact ⟨y,_,y,zo []⟩
 ·
  rintro ⟨⟩ rfl
  replace h:zkI p=some r:=h
  unfold zkI at h
  refine zy ?_
  refine rg y<|u<|mv y<|u<|lnS ti y y<|u<|geq ti y y<|u<|mv y<|z7 (j:=3) 3 y y y y y gpn (fun l=>g y l<|mv y<|g y l<|lnS ti y y<|g y l<|leq ti y y<|zb (egA [37,38,39] 3 l y y y y)) ze3<|u<|asg y<|zb ?_
  refine zj ?_
  obtain rfl:=sm h
  exact ⟨_,y,zz []⟩
 ·
  rintro r' rfl env st hp
  obtain rfl:=sm h
  exact hp
def zic(a:Int):Bool:=
  ((decide (20≤a))&&(decide (a≤36)))
theorem zkJ(b:Int){r:Bool}(h:zic b=r):zG Tryz.prog 251 [iA b] (bA r):=by
 refine zr Tryz.func251 y kz y y ?_
 unfold zic at h
 refine rg y<|u<|asg y<|zb ?_
 refine rg y<|u<|mv y<|u<|geq ti y y<|u<|mv y<|z7 (j:=2) 2 y y y y y gpn (fun a=>g y a<|mv y<|g y a<|leq ti y y<|zb (egA [6,7] 2 a y y y y)) ze3<|u<|asg y<|zb ?_
 refine zj ?_
 obtain rfl:=h
 exact ⟨_,y,zz []⟩
def zgw(a:Bool):Bool×Int×Bool:=
  cond a ((false,2,false)) ((false,0,false))
def zff(a:Int)(b:Bool):Bool×Int×Bool:=
  cond b ((true,0,false)) (cond (a == (37:Int)) ((false,1,false)) (cond ((decide (38≤a))&&(decide (a≤45))) ((false,1,true)) (cond (a == (50:Int)) (zgw (a == (50:Int))) (cond (a == (56:Int)) (zgw (a == (56:Int))) (zgw (a == (57:Int)))))))
def zeV(a:Int):Bool×Int×Bool:=
  cond (a == (1:Int)) (zff a (a == (1:Int))) (cond (a == (3:Int)) (zff a (a == (3:Int))) (cond (a == (4:Int)) (zff a (a == (4:Int))) (zff a (zic a))))
theorem zrN(a:Int){r:Bool×Int×Bool}(h:zeV a=r):zG Tryz.prog 276 [iA a] (.tup [bA r.1,iA r.2.1,bA r.2.2]):=by
 refine zr Tryz.func276 y kz y y ?_
 unfold zeV at h
 refine rg y<|u<|asg y<|u<|asg y<|u<|asg y<|zb ?_
 refine zi ?_
 refine zs ?_
 refine zaX (X:=Bool) (fun z=>[(0,iA a),(5,bA z)]) (fun z=>[]) (fun z=>zff a z=r) ?_ ?_
 ·
  refine rg y<|u<|mv y<|u<|eql ti y y<|u<|asg y<|zb ?_
  refine ze y (fun c=>?_) (fun c=>?_)
  ·
   replace h:=bT c h
   refine zg ?_
   exact ⟨(a == (1:Int)),h,zo []⟩
  ·
   replace h:=bF c h
   refine rg y<|u<|mv y<|u<|eql ti y y<|u<|asg y<|zb ?_
   refine ze y (fun d=>?_) (fun d=>?_)
   ·
    replace h:=bT d h
    refine zg ?_
    exact ⟨(a == (3:Int)),h,zo []⟩
   ·
    replace h:=bF d h
    refine rg y<|u<|mv y<|u<|eql ti y y<|u<|asg y<|zb ?_
    refine ze y (fun e=>?_) (fun e=>?_)
    ·
     replace h:=bT e h
     refine zg ?_
     exact ⟨(a == (4:Int)),h,zo []⟩
    ·
     replace h:=bF e h
     exact rl y<|u<|mv y<|u<|pc (zkJ a y) y y y<|u<|asg y<|zb (⟨(zic a),h,zo []⟩)
 ·
  rintro p h
  replace h:zff a p=r:=h
  unfold zff at h
  refine ze y (fun f=>?_) (fun f=>?_)
  ·
   replace h:=bT f h
   refine rg y<|u<|asg y<|u<|asg y<|u<|asg y<|zb ?_
   refine zj ?_
   obtain rfl:=h
   exact ⟨_,y,zz []⟩
  ·
   replace h:=bF f h
   refine rg y<|u<|mv y<|u<|eql ti y y<|u<|asg y<|zb ?_
   refine ze y (fun i=>?_) (fun i=>?_)
   ·
    replace h:=bT i h
    refine rg y<|u<|asg y<|u<|asg y<|u<|asg y<|zb ?_
    refine zj ?_
    obtain rfl:=h
    exact ⟨_,y,zz []⟩
   ·
    replace h:=bF i h
    refine rg y<|u<|mv y<|u<|geq ti y y<|u<|mv y<|z7 (j:=2) 2 y y y y y gpn (fun l=>g y l<|mv y<|g y l<|leq ti y y<|zb (egA [21,22] 2 l y y y y)) ze3<|u<|asg y<|zb ?_
    refine ze y (fun m=>?_) (fun m=>?_)
    ·
     replace h:=bT m h
     refine rg y<|u<|asg y<|u<|asg y<|u<|asg y<|zb ?_
     refine zj ?_
     obtain rfl:=h
     exact ⟨_,y,zz []⟩
    ·
     replace h:=bF m h
     refine zaX (X:=Bool) (fun z=>[(24,bA z)]) (fun z=>[]) (fun z=>zgw z=r) ?_ ?_
     ·
      refine rg y<|u<|mv y<|u<|eql ti y y<|u<|asg y<|zb ?_
      refine ze y (fun n=>?_) (fun n=>?_)
      ·
       replace h:=bT n h
       refine zg ?_
       exact ⟨(a == (50:Int)),h,zo []⟩
      ·
       replace h:=bF n h
       refine rg y<|u<|mv y<|u<|eql ti y y<|u<|asg y<|zb ?_
       refine ze y (fun o=>?_) (fun o=>?_)
       ·
        replace h:=bT o h
        refine zg ?_
        exact ⟨(a == (56:Int)),h,zo []⟩
       ·
        replace h:=bF o h
        exact rl y<|u<|mv y<|u<|eql ti y y<|u<|asg y<|zb (⟨(a == (57:Int)),h,zo []⟩)
     ·
      rintro q h
      replace h:zgw q=r:=h
      unfold zgw at h
      refine ze y (fun b=>?_) (fun b=>?_)
      ·
       replace h:=bT b h
       refine rg y<|u<|asg y<|u<|asg y<|u<|asg y<|zb ?_
       refine zj ?_
       obtain rfl:=h
       exact ⟨_,y,zz []⟩
      ·
       replace h:=bF b h
       refine zg ?_
       refine rg y<|u<|asg y<|u<|asg y<|u<|asg y<|zb ?_
       refine zj ?_
       obtain rfl:=h
       exact ⟨_,y,zz []⟩
def zie(b:Int)(a:Int):Bool:=
  cond (b == (1:Int)) (((decide ((-2147483648)≤a))&&(decide (a<2147483648)))) (cond (zic b) (((decide (0≤a))&&(decide (a<100)))) (((decide (0≤a))&&(decide (a<16)))))
theorem zqs(f:Int)(i:Int){r:Bool}(h:zie f i=r):zG Tryz.prog 277 [iA f,iA i] (bA r):=by
 refine zr Tryz.func277 y kz y y ?_
 unfold zie at h
 refine rg y<|u<|asg y<|zb ?_
 refine zi ?_
 refine zs ?_
 refine rg y<|u<|mv y<|u<|eql ti y y<|u<|asg y<|zb ?_
 refine ze y (fun a=>?_) (fun a=>?_)
 ·
  replace h:=bT a h
  refine rg y<|u<|mv y<|u<|geq ti y y<|u<|mv y<|z7 (j:=2) 2 y y y y y gpn (fun b=>g y b<|mv y<|g y b<|lss ti y y<|zb (egA [11,12] 2 b y y y y)) ze3<|u<|asg y<|zb ?_
  refine zj ?_
  obtain rfl:=h
  exact ⟨_,y,zz []⟩
 ·
  replace h:=bF a h
  refine rg y<|u<|mv y<|u<|pc (zkJ f y) y y y<|u<|asg y<|zb ?_
  refine ze y (fun c=>?_) (fun c=>?_)
  ·
   replace h:=bT c h
   refine rg y<|u<|mv y<|u<|geq ti y y<|u<|mv y<|z7 (j:=2) 2 y y y y y gpn (fun d=>g y d<|mv y<|g y d<|lss ti y y<|zb (egA [20,21] 2 d y y y y)) ze3<|u<|asg y<|zb ?_
   refine zj ?_
   obtain rfl:=h
   exact ⟨_,y,zz []⟩
  ·
   replace h:=bF c h
   refine zg ?_
   refine rg y<|u<|mv y<|u<|geq ti y y<|u<|mv y<|z7 (j:=2) 2 y y y y y gpn (fun e=>g y e<|mv y<|g y e<|lss ti y y<|zb (egA [26,27] 2 e y y y y)) ze3<|u<|asg y<|zb ?_
   refine zj ?_
   obtain rfl:=h
   exact ⟨_,y,zz []⟩
def zje(a:T0):Option (Bool):=
  (cond (a == [73]) (some true) ((zfC a).bind fun b=>some b)).bind fun c=>some c
def zf4(a:T0)(b:Int):Option (Sum (T0×Int) (Sum (T0) (Bool))):=
  (cond ((decide (b<2))&&(decide (0<(length a:Int)))) ((idx a 0).bind fun e=>some ((e.toNat:Int) == (91:Int))) (some false)).bind fun c=>cond c ((zkh a 1 (length a:Int)).bind fun d=>some (.inl (d,(IntKind.i64.wrap (b+1))))) (some (.inr (.inl a)))
def zfe(a:T0):Option (Bool):=
  (zw (fun z=>zf4 z.1 z.2) (a,0)).bind fun o=>zU o (fun b=>zje b) some
theorem zee(p:T0){r:Bool}(h:zfe p=some r):zG Tryz.prog 43 [sA p] (bA r):=by
 refine zr Tryz.func43 y kz y y ?_
 unfold zfe at h
 refine rg y<|u<|asg y<|zb ?_
 refine zi ?_
 refine rg y<|u<|asg y<|zb ?_
 obtain ⟨o,ho,h⟩:=bs h
 refine zY (X:=T0×Int) (B:=T0) (R:=Bool) (fun z=>[(0,sA z.1),(3,iA z.2)]) (fun z=>[]) (fun b=>[(0,sA b)]) (fun b=>[]) (fun r env st=>zaO Tryz.prog Tryz.f43 0 (bA r) [] env st) ho (zo []) ?_ ?_ ?_
 ·
  rintro ⟨q,C⟩ r h
  replace h:zf4 q C=some r:=h
  unfold zf4 at h
  refine zi ?_
  obtain ⟨s,c,h⟩:=bs h
  refine rg y<|u<|mv y<|u<|lss ti y y<|u<|mv y<|z7 (j:=2) 3 y y y y y gpn (fun i=>g y i<|mv y<|g y i<|lnS ti y y<|g y i<|gtr ti y y<|zb (egA [7,8,9] 3 i y y y y)) ze3<|u<|mv y<|z7 (x:=s) (j:=7) 3 y y y y y gpn (fun l=>by replace c:=bT l c;obtain ⟨G,D,c⟩:=bs c;obtain rfl:=sm c;exact g y l<|mv y<|g y l<|ixS ti y y y D<|g y l<|eql ti y y<|zb (eg [12,13,14] 3 y y y y)) (fun hb=>(sm (bF hb c)).symm)<|zb ?_
  refine ze y (fun e=>?_) (fun e=>?_)
  ·
   replace h:=bT e h
   refine zg ?_
   refine zi ?_
   refine zs ?_
   obtain ⟨E,m,h⟩:=bs h
   refine rl y<|u<|mv y<|u<|slS (a:=1) (b:=(length q:Int)) ti y y (zmn y m) y m<|u<|asg y<|zb ?_
   refine rl y<|u<|mv y<|u<|add ti y y<|u<|asg y<|zb ?_
   obtain rfl:=sm h
   exact ⟨_,y,zo []⟩
  ·
   replace h:=bF e h
   refine zE ?_
   obtain rfl:=sm h
   exact ⟨y,_,y,zo []⟩
 ·
  rintro n rfl
  replace h:zje n=some r:=h
  unfold zje at h
  refine zy ?_
  obtain ⟨v,d,h⟩:=bs h
  refine rg y<|u<|mv y<|u<|seq ti y y<|u<|mv y<|zcU (x:=v) (j:=2) 2 y y y y y gpn (fun f=>by replace d:=bF f d;obtain ⟨F,A,d⟩:=bs d;obtain rfl:=sm d;exact g y f<|mv y<|g y f<|pc (zgu n A) y y y<|zb (eg [23,24] 2 y y y y)) (fun hb=>(sm (bT hb d)).symm)<|u<|asg y<|zb ?_
  refine zj ?_
  obtain rfl:=sm h
  exact ⟨_,y,zz []⟩
 ·
  rintro r' rfl env st hp
  obtain rfl:=sm h
  exact hp
def znD(a:T0):Option (Bool):=
  (cond (!(a == [73])) ((zfe a).bind fun b=>some b) (some false)).bind fun c=>some c
theorem ztV(c:T0){r:Bool}(h:znD c=some r):zG Tryz.prog 278 [sA c] (bA r):=by
 refine zr Tryz.func278 y kz y y ?_
 unfold znD at h
 refine rg y<|u<|asg y<|zb ?_
 obtain ⟨d,a,h⟩:=bs h
 refine rg y<|u<|mv y<|u<|sne ti y y<|u<|mv y<|z7 (x:=d) (j:=2) 2 y y y y y gpn (fun b=>by replace a:=bT b a;obtain ⟨f,e,a⟩:=bs a;obtain rfl:=sm a;exact g y b<|mv y<|g y b<|pc (zee c e) y y y<|zb (eg [6,7] 2 y y y y)) (fun hb=>(sm (bF hb a)).symm)<|u<|asg y<|zb ?_
 refine zj ?_
 obtain rfl:=sm h
 exact ⟨_,y,zz []⟩
def zlF(a:T0):Option (Bool):=
  some ((decide (1≤(length a:Int)))&&(decide ((length a:Int)≤8)))
def zdH(b:T0)(a:Int):Option (Sum (Int) (Sum (Unit) (Bool))):=
  cond (decide (a<(length b:Int))) ((idx b a).bind fun c=>(cond (!(zjg c)) ((cond (a == (0:Int)) (some true) ((idx b a).bind fun d=>(cond (!(zj8 d)) ((idx b a).bind fun e=>some (!(zj7 e))) (some false)).bind fun f=>some f)).bind fun g=>some g) (some false)).bind fun h=>cond h (some (.inr (.inr false))) (some (.inl (IntKind.i64.wrap (a+1))))) (some (.inr (.inl ())))
def zjf(a:T0):Option (Bool):=
  cond (a == [36,105,110,105,116]) (some true) ((zw (fun z=>zdH a z) 0).bind fun o=>zU o (fun b=>zlF a) some)
theorem zlG(p:T0){r:Bool}(h:zjf p=some r):zG Tryz.prog 117 [sA p] (bA r):=by
 refine zr Tryz.func117 y kz y y ?_
 unfold zjf at h
 refine rg y<|u<|asg y<|zb ?_
 refine zi ?_
 refine rg y<|u<|mv y<|u<|seq ti y y<|zb ?_
 refine ze y (fun q=>?_) (fun q=>?_)
 ·
  replace h:=bT q h
  refine rg y<|u<|asg y<|zb ?_
  refine zj ?_
  obtain rfl:=sm h
  exact ⟨_,y,zz []⟩
 ·
  replace h:=bF q h
  refine zg ?_
  refine zi ?_
  refine rg y<|u<|asg y<|zb ?_
  obtain ⟨o,ho,h⟩:=bs h
  refine zY (X:=Int) (B:=Unit) (R:=Bool) (fun z=>[(0,sA p),(3,iA z)]) (fun z=>[]) (fun b=>[(0,sA p)]) (fun b=>[]) (fun r env st=>zaO Tryz.prog Tryz.f117 0 (bA r) [] env st) ho (zo []) ?_ ?_ ?_
  ·
   rintro I r h
   replace h:zdH p I=some r:=h
   unfold zdH at h
   refine zi ?_
   refine rg y<|u<|mv y<|u<|mv y<|u<|lnS ti y y<|u<|lss ti y y<|zb ?_
   refine ze y (fun m=>?_) (fun m=>?_)
   ·
    replace h:=bT m h
    refine zg ?_
    refine zi ?_
    refine zs ?_
    obtain ⟨s,v,h⟩:=bs h
    obtain ⟨A,f,h⟩:=bs h
    refine rg y<|u<|mv y<|u<|mv y<|u<|ixS ti y y y v<|u<|pc (zmx s y) y y y<|u<|nt y<|u<|mv y<|z7 (x:=A) (j:=5) 16 y y y y y gpn (fun e=>by replace f:=bT e f;obtain ⟨C,d,f⟩:=bs f;obtain rfl:=sm f;exact g y e<|mv y<|g y e<|eql ti y y<|g y e<|mv y<|zcU (x:=C) (j:=8) 12 y y y y y (gps y y e) (fun a=>by replace d:=bF a d;obtain ⟨D,E,d⟩:=bs d;obtain ⟨F,i,d⟩:=bs d;obtain rfl:=sm d;exact g y a<|mv y<|g y a<|mv y<|g y a<|ixS ti y y y E<|g y a<|pc (znG D y) y y y<|g y a<|nt y<|g y a<|mv y<|z7 (x:=F) (j:=14) 5 y y y y y (gps y y a) (fun c=>by replace i:=bT c i;obtain ⟨G,H,i⟩:=bs i;obtain rfl:=sm i;exact g y c<|mv y<|g y c<|mv y<|g y c<|ixS ti y y y H<|g y c<|pc (znF G y) y y y<|g y c<|nt y<|zb (eg [27,28,29,30,31] 5 y y y y)) (fun hb=>(sm (bF hb i)).symm)<|zb (eg [21,22,23,24,25,26,27,28,29,30,31,32] 7 y y y y)) (fun hb=>(sm (bT hb d)).symm)<|zb (eg [18,19,20,21,22,23,24,25,26,27,28,29,30,31,32,33] 4 y y y y)) (fun hb=>(sm (bF hb f)).symm)<|zb ?_
    refine ze y (fun n=>?_) (fun n=>?_)
    ·
     replace h:=bT n h
     refine rg y<|u<|asg y<|zb ?_
     refine zj ?_
     obtain rfl:=sm h
     exact ⟨_,y,_,y,zz []⟩
    ·
     replace h:=bF n h
     refine zg ?_
     refine rl y<|u<|mv y<|u<|add ti y y<|u<|asg y<|zb ?_
     obtain rfl:=sm h
     exact ⟨_,y,zo []⟩
   ·
    replace h:=bF m h
    refine zE ?_
    obtain rfl:=sm h
    exact ⟨y,_,y,zo []⟩
  ·
   rintro ⟨⟩ rfl
   replace h:zlF p=some r:=h
   unfold zlF at h
   refine zy ?_
   refine rg y<|u<|mv y<|u<|lnS ti y y<|u<|geq ti y y<|u<|mv y<|z7 (j:=3) 3 y y y y y gpn (fun l=>g y l<|mv y<|g y l<|lnS ti y y<|g y l<|leq ti y y<|zb (egA [39,40,41] 3 l y y y y)) ze3<|u<|asg y<|zb ?_
   refine zj ?_
   obtain rfl:=sm h
   exact ⟨_,y,zz []⟩
  ·
   rintro r' rfl env st hp
   obtain rfl:=sm h
   exact hp
def zjd(a:zp):Option (Bool):=
  cond ((decide (a.Op<1))||(decide (61<a.Op))) (some false) (cond ((((zeV a.Op).1)&&(!(zie a.Op a.A)))||((!((zeV a.Op).1))&&(!(a.A == (0:Int))))) (some false) ((cond ((((zeV a.Op).2.1) == (0:Int))&&(!(a.C == []))) (some true) ((cond (((zeV a.Op).2.1) == (1:Int)) ((zfC a.C).bind fun b=>some (!b)) (some false)).bind fun c=>some c)).bind fun d=>(cond d (some true) ((cond (((zeV a.Op).2.1) == (2:Int)) ((znD a.C).bind fun e=>some (!e)) (some false)).bind fun f=>some f)).bind fun g=>cond g (some false) (cond ((zeV a.Op).2.2) ((zjf a.M).bind fun h=>some (h&&(!(a.M == [36,105,110,105,116])))) (some (a.M == [])))))
theorem zqr(m:zp){r:Bool}(h:zjd m=some r):zG Tryz.prog 250 [.agg (zu m)] (bA r):=by
 refine zr Tryz.func250 y kz y y ?_
 unfold zjd at h
 refine rg y<|u<|bx 0 4 y y y y<|u<|asg y<|zb ?_
 refine rg y<|u<|fa ti y y y<|u<|ld ti y y<|u<|pc (zrN m.Op y) y y y<|u<|mv y<|u<|ex y y<|u<|ex y y<|u<|ex y y<|u<|asg y<|u<|asg y<|u<|asg y<|zb ?_
 refine zi ?_
 refine zs ?_
 refine rg y<|u<|fa ti y y y<|u<|ld ti y y<|u<|lss ti y y<|u<|mv y<|zcU (j:=3) 3 y y y y y gpn (fun v=>g y v<|fa ti y y y<|g y v<|ld ti y y<|g y v<|gtr ti y y<|zb (egO [18,19,20] 3 v y y y y)) orT<|u<|asg y<|zb ?_
 refine ze y (fun D=>?_) (fun D=>?_)
 ·
  replace h:=bT D h
  refine rg y<|u<|asg y<|zb ?_
  refine zj ?_
  obtain rfl:=sm h
  exact ⟨_,y,zz []⟩
 ·
  replace h:=bF D h
  refine rg y<|u<|mv y<|u<|mv y<|z7 (j:=1) 6 y y y y y gpn (fun a=>g y a<|fa ti y y y<|g y a<|ld ti y y<|g y a<|fa ti y y y<|g y a<|ld ti y y<|g y a<|pc (zqs m.Op m.A y) y y y<|g y a<|nt y<|zb (egA [25,26,27,28,29,30] 6 a y y y y)) ze3<|u<|mv y<|zcU (j:=9) 7 y y y y y gpn (fun n=>g y n<|mv y<|g y n<|nt y<|g y n<|mv y<|z7 (j:=12) 3 y y y y y (gps y y n) (fun z=>g y z<|fa ti y y y<|g y z<|ld ti y y<|g y z<|neq ti y y<|zb (egA [36,37,38] 3 z y y y y)) ze3<|zb (egO [33,34,35,36,37,38,39] 4 n y y y y)) orT<|u<|asg y<|zb ?_
  refine ze y (fun E=>?_) (fun E=>?_)
  ·
   replace h:=bT E h
   refine rg y<|u<|asg y<|zb ?_
   refine zj ?_
   obtain rfl:=sm h
   exact ⟨_,y,zz []⟩
  ·
   replace h:=bF E h
   obtain ⟨I,d,h⟩:=bs h
   obtain ⟨J,e,h⟩:=bs h
   refine rg y<|u<|mv y<|u<|eql ti y y<|u<|mv y<|z7 (j:=2) 3 y y y y y gpn (fun B=>g y B<|fa ti y y y<|g y B<|ld ti y y<|g y B<|sne ti y y<|zb (egA [45,46,47] 3 B y y y y)) ze3<|u<|mv y<|zcU (x:=I) (j:=7) 8 y y y y y gpn (fun o=>by replace d:=bF o d;obtain ⟨K,f,d⟩:=bs d;obtain rfl:=sm d;exact g y o<|mv y<|g y o<|eql ti y y<|g y o<|mv y<|z7 (x:=K) (j:=10) 4 y y y y y (gps y y o) (fun p=>by replace f:=bT p f;obtain ⟨N,F,f⟩:=bs f;obtain rfl:=sm f;exact g y p<|fa ti y y y<|g y p<|ld ti y y<|g y p<|pc (zgu m.C F) y y y<|g y p<|nt y<|zb (eg [53,54,55,56] 4 y y y y)) (fun hb=>(sm (bF hb f)).symm)<|zb (eg [50,51,52,53,54,55,56,57] 4 y y y y)) (fun hb=>(sm (bT hb d)).symm)<|u<|mv y<|zcU (x:=J) (j:=17) 8 y y y y y gpn (fun b=>by replace e:=bF b e;obtain ⟨L,i,e⟩:=bs e;obtain rfl:=sm e;exact g y b<|mv y<|g y b<|eql ti y y<|g y b<|mv y<|z7 (x:=L) (j:=20) 4 y y y y y (gps y y b) (fun c=>by replace i:=bT c i;obtain ⟨O,G,i⟩:=bs i;obtain rfl:=sm i;exact g y c<|fa ti y y y<|g y c<|ld ti y y<|g y c<|pc (ztV m.C G) y y y<|g y c<|nt y<|zb (eg [63,64,65,66] 4 y y y y)) (fun hb=>(sm (bF hb i)).symm)<|zb (eg [60,61,62,63,64,65,66,67] 4 y y y y)) (fun hb=>(sm (bT hb e)).symm)<|u<|asg y<|zb ?_
   refine ze y (fun q=>?_) (fun q=>?_)
   ·
    replace h:=bT q h
    refine rg y<|u<|asg y<|zb ?_
    refine zj ?_
    obtain rfl:=sm h
    exact ⟨_,y,zz []⟩
   ·
    replace h:=bF q h
    refine rg y<|u<|mv y<|u<|asg y<|zb ?_
    refine ze y (fun s=>?_) (fun s=>?_)
    ·
     replace h:=bT s h
     obtain ⟨P,H,h⟩:=bs h
     refine rg y<|u<|fa ti y y y<|u<|ld ti y y<|u<|pc (zlG m.M H) y y y<|u<|mv y<|z7 (j:=3) 3 y y y y y gpn (fun l=>g y l<|fa ti y y y<|g y l<|ld ti y y<|g y l<|sne ti y y<|zb (egA [75,76,77] 3 l y y y y)) ze3<|u<|asg y<|zb ?_
     refine zj ?_
     obtain rfl:=sm h
     exact ⟨_,y,zz []⟩
    ·
     replace h:=bF s h
     refine zg ?_
     refine rg y<|u<|fa ti y y y<|u<|ld ti y y<|u<|seq ti y y<|u<|asg y<|zb ?_
     refine zj ?_
     obtain rfl:=sm h
     exact ⟨_,y,zz []⟩
def zgr(a:Bool):Bool:=
  cond a (true) (false)
def ziE(a:Int):Bool:=
  cond (a == (20:Int)) (zgr (a == (20:Int))) (cond (a == (46:Int)) (zgr (a == (46:Int))) (cond (a == (47:Int)) (zgr (a == (47:Int))) (cond (a == (48:Int)) (zgr (a == (48:Int))) (cond (a == (58:Int)) (zgr (a == (58:Int))) (zgr (a == (61:Int)))))))
theorem zqR(a:Int){r:Bool}(h:ziE a=r):zG Tryz.prog 89 [iA a] (bA r):=by
 refine zr Tryz.func89 y kz y y ?_
 unfold ziE at h
 refine rg y<|u<|asg y<|zb ?_
 refine zi ?_
 refine rg y<|u<|mv y<|zb ?_
 refine zs ?_
 refine zaX (X:=Bool) (fun z=>[(4,bA z)]) (fun z=>[]) (fun z=>zgr z=r) ?_ ?_
 ·
  refine rg y<|u<|eql ti y y<|u<|asg y<|zb ?_
  refine ze y (fun b=>?_) (fun b=>?_)
  ·
   replace h:=bT b h
   refine zg ?_
   exact ⟨(a == (20:Int)),h,zo []⟩
  ·
   replace h:=bF b h
   refine rg y<|u<|eql ti y y<|u<|asg y<|zb ?_
   refine ze y (fun c=>?_) (fun c=>?_)
   ·
    replace h:=bT c h
    refine zg ?_
    exact ⟨(a == (46:Int)),h,zo []⟩
   ·
    replace h:=bF c h
    refine rg y<|u<|eql ti y y<|u<|asg y<|zb ?_
    refine ze y (fun d=>?_) (fun d=>?_)
    ·
     replace h:=bT d h
     refine zg ?_
     exact ⟨(a == (47:Int)),h,zo []⟩
    ·
     replace h:=bF d h
     refine rg y<|u<|eql ti y y<|u<|asg y<|zb ?_
     refine ze y (fun e=>?_) (fun e=>?_)
     ·
      replace h:=bT e h
      refine zg ?_
      exact ⟨(a == (48:Int)),h,zo []⟩
     ·
      replace h:=bF e h
      refine rg y<|u<|eql ti y y<|u<|asg y<|zb ?_
      refine ze y (fun f=>?_) (fun f=>?_)
      ·
       replace h:=bT f h
       refine zg ?_
       exact ⟨(a == (58:Int)),h,zo []⟩
      ·
       replace h:=bF f h
       exact rl y<|u<|eql ti y y<|u<|asg y<|zb (⟨(a == (61:Int)),h,zo []⟩)
 ·
  rintro i h
  replace h:zgr i=r:=h
  unfold zgr at h
  refine ze y (fun g=>?_) (fun g=>?_)
  ·
   replace h:=bT g h
   refine rg y<|u<|asg y<|zb ?_
   refine zj ?_
   obtain rfl:=h
   exact ⟨_,y,zz []⟩
  ·
   replace h:=bF g h
   refine zg ?_
   refine rg y<|u<|asg y<|zb ?_
   refine zj ?_
   obtain rfl:=h
   exact ⟨_,y,zz []⟩
def zez(a:Bool):Bool:=
  cond a (true) (false)
def zhN(a:Int):Bool:=
  cond (a == (20:Int)) (zez (a == (20:Int))) (cond (a == (46:Int)) (zez (a == (46:Int))) (cond (a == (47:Int)) (zez (a == (47:Int))) (cond (a == (48:Int)) (zez (a == (48:Int))) (cond (a == (58:Int)) (zez (a == (58:Int))) (zez (a == (61:Int)))))))
theorem zoG(a:Int){r:Bool}(h:zhN a=r):zG Tryz.prog 132 [iA a] (bA r):=by
 refine zr Tryz.func132 y kz y y ?_
 unfold zhN at h
 refine rg y<|u<|asg y<|zb ?_
 refine zi ?_
 refine rg y<|u<|mv y<|zb ?_
 refine zs ?_
 refine zaX (X:=Bool) (fun z=>[(4,bA z)]) (fun z=>[]) (fun z=>zez z=r) ?_ ?_
 ·
  refine rg y<|u<|eql ti y y<|u<|asg y<|zb ?_
  refine ze y (fun b=>?_) (fun b=>?_)
  ·
   replace h:=bT b h
   refine zg ?_
   exact ⟨(a == (20:Int)),h,zo []⟩
  ·
   replace h:=bF b h
   refine rg y<|u<|eql ti y y<|u<|asg y<|zb ?_
   refine ze y (fun c=>?_) (fun c=>?_)
   ·
    replace h:=bT c h
    refine zg ?_
    exact ⟨(a == (46:Int)),h,zo []⟩
   ·
    replace h:=bF c h
    refine rg y<|u<|eql ti y y<|u<|asg y<|zb ?_
    refine ze y (fun d=>?_) (fun d=>?_)
    ·
     replace h:=bT d h
     refine zg ?_
     exact ⟨(a == (47:Int)),h,zo []⟩
    ·
     replace h:=bF d h
     refine rg y<|u<|eql ti y y<|u<|asg y<|zb ?_
     refine ze y (fun e=>?_) (fun e=>?_)
     ·
      replace h:=bT e h
      refine zg ?_
      exact ⟨(a == (48:Int)),h,zo []⟩
     ·
      replace h:=bF e h
      refine rg y<|u<|eql ti y y<|u<|asg y<|zb ?_
      refine ze y (fun f=>?_) (fun f=>?_)
      ·
       replace h:=bT f h
       refine zg ?_
       exact ⟨(a == (58:Int)),h,zo []⟩
      ·
       replace h:=bF f h
       exact rl y<|u<|eql ti y y<|u<|asg y<|zb (⟨(a == (61:Int)),h,zo []⟩)
 ·
  rintro i h
  replace h:zez i=r:=h
  unfold zez at h
  refine ze y (fun g=>?_) (fun g=>?_)
  ·
   replace h:=bT g h
   refine rg y<|u<|asg y<|zb ?_
   refine zj ?_
   obtain rfl:=h
   exact ⟨_,y,zz []⟩
  ·
   replace h:=bF g h
   refine zg ?_
   refine rg y<|u<|asg y<|zb ?_
   refine zj ?_
   obtain rfl:=h
   exact ⟨_,y,zz []⟩
def zfZ(a:T0):Option (T0×Bool):=
  (zhH a).bind fun b=>(cond (!b) (some true) ((idx a 0).bind fun c=>some (!((c.toNat:Int) == (91:Int))))).bind fun d=>cond d (some ([],false)) ((zkh a 1 (length a:Int)).bind fun e=>some (e,true))
theorem zhs(f:T0){r:T0×Bool}(h:zfZ f=some r):zG Tryz.prog 135 [sA f] (.tup [sA r.1,bA r.2]):=by
 refine zr Tryz.func135 y kz y y ?_
 unfold zfZ at h
 refine rg y<|u<|asg y<|u<|asg y<|zb ?_
 refine zi ?_
 obtain ⟨o,l,h⟩:=bs h
 obtain ⟨m,d,h⟩:=bs h
 refine rg y<|u<|mv y<|u<|pc (zhc f l) y y y<|u<|nt y<|u<|mv y<|zcU (x:=m) (j:=3) 3 y y y y y gpn (fun c=>by replace d:=bF c d;obtain ⟨p,n,d⟩:=bs d;obtain rfl:=sm d;exact g y c<|mv y<|g y c<|ixS ti y y y n<|g y c<|neq ti y y<|zb (eg [8,9,10] 3 y y y y)) (fun hb=>(sm (bT hb d)).symm)<|zb ?_
 refine ze y (fun e=>?_) (fun e=>?_)
 ·
  replace h:=bT e h
  refine rg y<|u<|asg y<|u<|asg y<|zb ?_
  refine zj ?_
  obtain rfl:=sm h
  exact ⟨_,y,zz []⟩
 ·
  replace h:=bF e h
  refine zg ?_
  obtain ⟨q,i,h⟩:=bs h
  refine rg y<|u<|mv y<|u<|slS (a:=1) (b:=(length f:Int)) ti y y (zmn y i) y i<|u<|asg y<|u<|asg y<|zb ?_
  refine zj ?_
  obtain rfl:=sm h
  exact ⟨_,y,zz []⟩
structure zt where
  Name:T0
  Type_:T0
  Static:Bool
def zJ(x:zt):List AV:=[sA x.Name,sA x.Type_,bA x.Static]
structure z8 where
  At:Int
  Locals:T1
  Stack:T1
def zL(x:z8):List AV:=[iA x.At,.isl 1 (map zf x.Locals),.isl 1 (map zf x.Stack)]
structure zaF where
  From:Int
  To:Int
  At:Int
  C:T0
def za9(x:zaF):List AV:=[iA x.From,iA x.To,iA x.At,sA x.C]
structure zc where
  Name:T0
  Params:T1
  Ret:T0
  Static:Bool
  Abstract:Bool
  Locals:Int
  Stack:Int
  Code:List zp
  Maps:List z8
  Traps:List zaF
def zh(x:zc):List AV:=[sA x.Name,.isl 1 (map zf x.Params),sA x.Ret,bA x.Static,bA x.Abstract,iA x.Locals,iA x.Stack,.isl 4 (map zu x.Code),.isl 3 (map zL x.Maps),.isl 4 (map za9 x.Traps)]
structure za where
  Name:T0
  Super:T0
  Interface:Bool
  Impl:T1
  Fields:List zt
  Methods:List zc
def zd(x:za):List AV:=[sA x.Name,sA x.Super,bA x.Interface,.isl 1 (map zf x.Impl),.isl 3 (map zJ x.Fields),.isl 10 (map zh x.Methods)]
def zi2(a:zt):Option (Bool):=
  (zi7 a.Name).bind fun b=>(cond (b&&(!(a.Name == [36,105,110,105,116]))) ((zhH a.Type_).bind fun c=>some c) (some false)).bind fun d=>some d
theorem zqb(d:zt){r:Bool}(h:zi2 d=some r):zG Tryz.prog 100 [.agg (zJ d)] (bA r):=by
 refine zr Tryz.func100 y kz y y ?_
 unfold zi2 at h
 refine rg y<|u<|bx 0 3 y y y y<|u<|asg y<|zb ?_
 obtain ⟨l,e,h⟩:=bs h
 obtain ⟨f,c,h⟩:=bs h
 refine rg y<|u<|fa ti y y y<|u<|ld ti y y<|u<|pc (zlu d.Name e) y y y<|u<|mv y<|z7 (j:=3) 3 y y y y y gpn (fun a=>g y a<|fa ti y y y<|g y a<|ld ti y y<|g y a<|sne ti y y<|zb (egA [7,8,9] 3 a y y y y)) ze3<|u<|mv y<|z7 (x:=f) (j:=8) 3 y y y y y gpn (fun b=>by replace c:=bT b c;obtain ⟨m,i,c⟩:=bs c;obtain rfl:=sm c;exact g y b<|fa ti y y y<|g y b<|ld ti y y<|g y b<|pc (zhc d.Type_ i) y y y<|zb (eg [12,13,14] 3 y y y y)) (fun hb=>(sm (bF hb c)).symm)<|u<|asg y<|zb ?_
 refine zj ?_
 obtain rfl:=sm h
 exact ⟨_,y,zz []⟩
def zdT(a:zt):T0:=
  a.Name
theorem zmr(a:zt){r:T0}(h:zdT a=r):zG Tryz.prog 99 [.agg (zJ a)] (sA r):=by
 refine zr Tryz.func99 y kz y y ?_
 unfold zdT at h
 refine rg y<|u<|bx 0 3 y y y y<|u<|asg y<|zb ?_
 refine rg y<|u<|fa ti y y y<|u<|ld ti y y<|u<|asg y<|zb ?_
 refine zj ?_
 obtain rfl:=h
 exact ⟨_,y,zz []⟩
def zfS(a:zt)(b:T0)(c:T0)(d:Bool):Bool:=
  ((zdT (zt.mk b c d)) == (zdT a))
theorem zjR(a:zt)(b:T0)(c:T0)(d:Bool){r:Bool}(h:zfS a b c d=r):zG Tryz.prog 177 [.agg (zJ a),.ipt 1 [[.fn (.func 99) [] []]] 0 0,.ipt 3 [[sA b,sA c,bA d]] 0 0] (bA r):=by
 refine zr Tryz.func177 y kz y y ?_
 unfold zfS at h
 refine rg y<|u<|bx 0 3 y y y y<|u<|asg y<|zb ?_
 refine rdA [(4,bA ((zdT (zt.mk b c d)) == (zdT a)))] [] [] [7,6,5,4,3,2,1,0] [(4,bA ((zdT (zt.mk b c d)) == (zdT a))),(11,bA ((zdT (zt.mk b c d)) == (zdT a))),(10,sA (zdT a)),(9,.agg (zJ a)),(8,.fn (.func 99) [] []),(7,sA (zdT (zt.mk b c d))),(6,.agg [sA b,sA c,bA d]),(5,.fn (.func 99) [] [])] 0 (zhA ⟨pe,pe,(pb y (pc (zmr a y) y y y w)),pe,pe,(pb y (pc (zmr (zt.mk b c d) y) y y y w)),pe,pe,t⟩ (zo [])) ?_
 refine zj ?_
 obtain rfl:=h
 exact ⟨_,y,zz []⟩
def zbc:Option (Int):=
  some (-1)
def zac(b:List zt)(c:T0)(d:T0)(e:Bool)(a:Int):Option (Sum (Int) (Sum (Unit) (Int))):=
  cond (decide (a<(length b:Int))) ((idx b a).bind fun f=>cond (zfS f c d e) (some (.inr (.inr a))) (some (.inl (IntKind.i64.wrap (a+1))))) (some (.inr (.inl ())))
def zbp(a:List zt)(c:T0)(d:T0)(e:Bool):Option (Int):=
  (zw (fun z=>zac a c d e z) 0).bind fun o=>zU o (fun b=>zbc) some
theorem zgk(a:List zt)(c:T0)(d:T0)(e:Bool){r:Int}(h:zbp a c d e=some r):zG Tryz.prog 241 [.isl 3 (map zJ a),.fn (.func 177) [] [.ipt 1 [[.fn (.func 99) [] []]] 0 0,.ipt 3 [[sA c,sA d,bA e]] 0 0]] (iA r):=by
 refine zr Tryz.func241 y kz y y ?_
 unfold zbp at h
 refine rg y<|u<|asg y<|zb ?_
 refine zi ?_
 refine rg y<|u<|mv y<|u<|lnI ti y y<|u<|mv y<|zb ?_
 obtain ⟨o,ho,h⟩:=bs h
 refine zY (X:=Int) (B:=Unit) (R:=Int) (fun z=>[(0,.isl 3 (map zJ a)),(1,.fn (.func 177) [] [.ipt 1 [[.fn (.func 99) [] []]] 0 0,.ipt 3 [[sA c,sA d,bA e]] 0 0]),(7,iA (length a:Int)),(8,iA z)]) (fun z=>[]) (fun b=>[]) (fun b=>[]) (fun r env st=>zaO Tryz.prog Tryz.f241 0 (iA r) [] env st) ho (zo []) ?_ ?_ ?_
 ·
  rintro j r h
  replace h:zac a c d e j=some r:=h
  unfold zac at h
  refine rg y<|u<|lss ti y y<|zb ?_
  refine zi ?_
  refine ze y (fun f=>?_) (fun f=>?_)
  ·
   replace h:=bT f h
   refine zg ?_
   refine zi ?_
   refine zs ?_
   refine rg y<|u<|mv y<|u<|asg y<|zb ?_
   obtain ⟨l,i,h⟩:=bs h
   refine rg y<|u<|mv y<|u<|mv y<|u<|mv y<|u<|ixI ti y ti y y y i<|u<|ldI ti y (zl i).2.2 y<|u<|pc (zjR l c d e y) y y y<|zb ?_
   refine ze y (fun g=>?_) (fun g=>?_)
   ·
    replace h:=bT g h
    refine rg y<|u<|mv y<|u<|asg y<|zb ?_
    refine zj ?_
    obtain rfl:=sm h
    exact ⟨_,y,_,y,zz []⟩
   ·
    replace h:=bF g h
    refine zg ?_
    refine rl y<|u<|add ti y y<|u<|mv y<|zb ?_
    obtain rfl:=sm h
    exact ⟨_,y,zo []⟩
  ·
   replace h:=bF f h
   refine zE ?_
   obtain rfl:=sm h
   exact ⟨y,_,y,zo []⟩
 ·
  rintro ⟨⟩ rfl
  replace h:zbc=some r:=h
  unfold zbc at h
  refine zy ?_
  refine rg y<|u<|asg y<|zb ?_
  refine zj ?_
  obtain rfl:=sm h
  exact ⟨_,y,zz []⟩
 ·
  rintro r' rfl env st hp
  obtain rfl:=sm h
  exact hp
def zax(a:List zt)(b:T0)(c:T0)(d:Bool):Option (Bool):=
  (zbp a b c d).bind fun e=>some (decide (0≤e))
theorem zfv(a:List zt)(b:T0)(c:T0)(d:Bool){r:Bool}(h:zax a b c d=some r):zG Tryz.prog 176 [.isl 3 (map zJ a),.fn (.func 177) [] [.ipt 1 [[.fn (.func 99) [] []]] 0 0,.ipt 3 [[sA b,sA c,bA d]] 0 0]] (bA r):=by
 refine zr Tryz.func176 y kz y y ?_
 unfold zax at h
 refine rg y<|u<|asg y<|zb ?_
 obtain ⟨f,e,h⟩:=bs h
 refine rg y<|u<|mv y<|u<|mv y<|u<|pc (zgk a b c d e) y y y<|u<|geq ti y y<|u<|asg y<|zb ?_
 refine zj ?_
 obtain rfl:=sm h
 exact ⟨_,y,zz []⟩
def zfE(a:List zt)(b:Int):Option (Bool):=
  some (decide ((length a:Int)≤b))
def zdj(c:List zt)(b:Int):Option (Sum (Int) (Sum (Unit) (Bool))):=
  cond (decide (b<(length c:Int))) ((idx c b).bind fun a=>(zi2 a).bind fun d=>(cond (!d) (some true) ((zkh c 0 b).bind fun e=>(zax e a.Name a.Type_ a.Static).bind fun f=>some f)).bind fun g=>cond g (some (.inr (.inr false))) (some (.inl (IntKind.i64.wrap (b+1))))) (some (.inr (.inl ())))
def zeb(a:List zt)(c:Int):Option (Bool):=
  (zw (fun z=>zdj a z) 0).bind fun o=>zU o (fun b=>zfE a c) some
theorem zk6(e:List zt)(l:Int){r:Bool}(h:zeb e l=some r):zG Tryz.prog 98 [.isl 3 (map zJ e),iA l,.fn (.func 99) [] [],.fn (.func 100) [] []] (bA r):=by
 refine zr Tryz.func98 y kz y y ?_
 unfold zeb at h
 refine rg y<|u<|bx 0 1 y y y y<|u<|asg y<|zb ?_
 refine zi ?_
 refine rg y<|u<|mv y<|u<|lnI ti y y<|u<|mv y<|zb ?_
 obtain ⟨o,ho,h⟩:=bs h
 refine zY (X:=Int) (B:=Unit) (R:=Bool) (fun z=>[(0,.isl 3 (map zJ e)),(1,iA l),(3,.fn (.func 100) [] []),(6,.mpt 0 0 0),(11,.isl 3 (map zJ e)),(12,iA (length e:Int)),(13,iA z)]) (fun z=>[some (1,[[.fn (.func 99) [] []]])]) (fun b=>[(0,.isl 3 (map zJ e)),(1,iA l)]) (fun b=>[]) (fun r env st=>zaO Tryz.prog Tryz.f98 0 (bA r) [] env st) ho (zo [.old 0]) ?_ ?_ ?_
 ·
  rintro q r h
  replace h:zdj e q=some r:=h
  unfold zdj at h
  refine rg y<|u<|lss ti y y<|zb ?_
  refine zi ?_
  refine ze y (fun m=>?_) (fun m=>?_)
  ·
   replace h:=bT m h
   refine zg ?_
   refine zi ?_
   refine zs ?_
   obtain ⟨i,n,h⟩:=bs h
   refine rg y<|u<|mv y<|u<|ixI ti y ti y y y n<|u<|ldI ti y (zl n).2.2 y<|u<|al 1 ti y<|u<|asg y<|u<|sto ti y y y<|zb ?_
   obtain ⟨D,s,h⟩:=bs h
   obtain ⟨v,d,h⟩:=bs h
   refine rg y<|u<|mv y<|u<|ld ti y y<|u<|pc (zqb i s) y y y<|u<|nt y<|u<|mv y<|zcU (x:=v) (j:=4) 5 y y y y y gpn (fun c=>by replace d:=bF c d;obtain ⟨A,p,d⟩:=bs d;obtain ⟨E,C,d⟩:=bs d;obtain rfl:=sm d;exact g y c<|mv y<|g y c<|mv y<|g y c<|slI (a:=0) (b:=q) ti y ti y y y (zov y p) p<|g y c<|mf y y<|g y c<|pcs (zfv A i.Name i.Type_ i.Static C) y y (.cons (si y) (.cons (zh4 t ⟨(zcT y ⟨(si y),t⟩),(zcT y ⟨(si y),(si y),(si y),t⟩),t⟩) .nil)) zcn<|zb (eg [23,24,25,26,27] 5 y y y y)) (fun hb=>(sm (bT hb d)).symm)<|zb ?_
   refine ze y (fun f=>?_) (fun f=>?_)
   ·
    replace h:=bT f h
    refine rg y<|u<|asg y<|zb ?_
    refine zj ?_
    obtain rfl:=sm h
    exact ⟨_,y,_,y,zz []⟩
   ·
    replace h:=bF f h
    refine zg ?_
    refine rl y<|u<|add ti y y<|u<|mv y<|zb ?_
    obtain rfl:=sm h
    exact ⟨_,y,zo [.old 0]⟩
  ·
   replace h:=bF m h
   refine zE ?_
   obtain rfl:=sm h
   exact ⟨y,_,y,zo []⟩
 ·
  rintro ⟨⟩ rfl
  replace h:zfE e l=some r:=h
  unfold zfE at h
  refine zy ?_
  refine rg y<|u<|mv y<|u<|lnI ti y y<|u<|mv y<|u<|leq ti y y<|u<|asg y<|zb ?_
  refine zj ?_
  obtain rfl:=sm h
  exact ⟨_,y,zz []⟩
 ·
  rintro r' rfl env st hp
  obtain rfl:=sm h
  exact hp
def ziM(a:T0):Option (Bool):=
  (zhH a).bind fun b=>some (!b)
theorem zoP(a:T0){r:Bool}(h:ziM a=some r):zG Tryz.prog 245 [sA a,.ipt 1 [[.fn (.func 102) [] []]] 0 0] (bA r):=by
 refine zr Tryz.func245 y kz y y ?_
 unfold ziM at h
 refine rg y<|u<|asg y<|zb ?_
 obtain ⟨c,b,h⟩:=bs h
 refine rg y<|u<|ld ti y y<|u<|mv y<|u<|pc (zhc a b) y y y<|u<|nt y<|u<|asg y<|zb ?_
 refine zj ?_
 obtain rfl:=sm h
 exact ⟨_,y,zz []⟩
def zbT:Option (Int):=
  some (-1)
def zaA(b:T1)(a:Int):Option (Sum (Int) (Sum (Unit) (Int))):=
  cond (decide (a<(length b:Int))) ((idx b a).bind fun c=>(ziM c).bind fun d=>cond d (some (.inr (.inr a))) (some (.inl (IntKind.i64.wrap (a+1))))) (some (.inr (.inl ())))
def zcu(a:T1):Option (Int):=
  (zw (fun z=>zaA a z) 0).bind fun o=>zU o (fun b=>zbT) some
theorem zhU(a:T1){r:Int}(h:zcu a=some r):zG Tryz.prog 110 [.isl 1 (map zf a),.fn (.func 245) [] [.ipt 1 [[.fn (.func 102) [] []]] 0 0]] (iA r):=by
 refine zr Tryz.func110 y kz y y ?_
 unfold zcu at h
 refine rg y<|u<|asg y<|zb ?_
 refine zi ?_
 refine rg y<|u<|mv y<|u<|lnI ti y y<|u<|mv y<|zb ?_
 obtain ⟨o,ho,h⟩:=bs h
 refine zY (X:=Int) (B:=Unit) (R:=Int) (fun z=>[(0,.isl 1 (map zf a)),(1,.fn (.func 245) [] [.ipt 1 [[.fn (.func 102) [] []]] 0 0]),(7,iA (length a:Int)),(8,iA z)]) (fun z=>[]) (fun b=>[]) (fun b=>[]) (fun r env st=>zaO Tryz.prog Tryz.f110 0 (iA r) [] env st) ho (zo []) ?_ ?_ ?_
 ·
  rintro f r h
  replace h:zaA a f=some r:=h
  unfold zaA at h
  refine rg y<|u<|lss ti y y<|zb ?_
  refine zi ?_
  refine ze y (fun c=>?_) (fun c=>?_)
  ·
   replace h:=bT c h
   refine zg ?_
   refine zi ?_
   refine zs ?_
   refine rg y<|u<|mv y<|u<|asg y<|zb ?_
   obtain ⟨g,e,h⟩:=bs h
   obtain ⟨j,i,h⟩:=bs h
   refine rg y<|u<|mv y<|u<|mv y<|u<|mv y<|u<|ixI ti y ti y y y e<|u<|ldI ti y (zl e).2.2 y<|u<|pc (zoP g i) y y y<|zb ?_
   refine ze y (fun d=>?_) (fun d=>?_)
   ·
    replace h:=bT d h
    refine rg y<|u<|mv y<|u<|asg y<|zb ?_
    refine zj ?_
    obtain rfl:=sm h
    exact ⟨_,y,_,y,zz []⟩
   ·
    replace h:=bF d h
    refine zg ?_
    refine rl y<|u<|add ti y y<|u<|mv y<|zb ?_
    obtain rfl:=sm h
    exact ⟨_,y,zo []⟩
  ·
   replace h:=bF c h
   refine zE ?_
   obtain rfl:=sm h
   exact ⟨y,_,y,zo []⟩
 ·
  rintro ⟨⟩ rfl
  replace h:zbT=some r:=h
  unfold zbT at h
  refine zy ?_
  refine rg y<|u<|asg y<|zb ?_
  refine zj ?_
  obtain rfl:=sm h
  exact ⟨_,y,zz []⟩
 ·
  rintro r' rfl env st hp
  obtain rfl:=sm h
  exact hp
def zbS(a:T1):Option (Bool):=
  (zcu a).bind fun b=>some (decide (0≤b))
theorem zgQ(a:T1){r:Bool}(h:zbS a=some r):zG Tryz.prog 56 [.isl 1 (map zf a),.fn (.func 245) [] [.ipt 1 [[.fn (.func 102) [] []]] 0 0]] (bA r):=by
 refine zr Tryz.func56 y kz y y ?_
 unfold zbS at h
 refine rg y<|u<|asg y<|zb ?_
 obtain ⟨c,b,h⟩:=bs h
 refine rg y<|u<|mv y<|u<|mv y<|u<|pc (zhU a b) y y y<|u<|geq ti y y<|u<|asg y<|zb ?_
 refine zj ?_
 obtain rfl:=sm h
 exact ⟨_,y,zz []⟩
def zi4(a:T1):Option (Bool):=
  (zbS a).bind fun b=>some (!b)
theorem zqh(a:T1){r:Bool}(h:zi4 a=some r):zG Tryz.prog 183 [.isl 1 (map zf a),.fn (.func 102) [] []] (bA r):=by
 refine zr Tryz.func183 y kz y y ?_
 unfold zi4 at h
 refine rg y<|u<|bx 0 1 y y y y<|u<|asg y<|zb ?_
 obtain ⟨c,b,h⟩:=bs h
 refine rg y<|u<|mv y<|u<|mf y y<|u<|pcs (zgQ a b) y y (.cons (si y) (.cons (zh4 t ⟨(zcT y ⟨(si y),t⟩),t⟩) .nil)) zcn<|u<|nt y<|u<|asg y<|zb ?_
 refine zj ?_
 obtain rfl:=sm h
 exact ⟨_,y,zz []⟩
def znn(a:T0):Option (Bool):=
  (cond (a == [86]) (some true) ((zhH a).bind fun b=>some b)).bind fun c=>some c
theorem ztB(c:T0){r:Bool}(h:znn c=some r):zG Tryz.prog 184 [sA c] (bA r):=by
 refine zr Tryz.func184 y kz y y ?_
 unfold znn at h
 refine rg y<|u<|asg y<|zb ?_
 obtain ⟨d,a,h⟩:=bs h
 refine rg y<|u<|mv y<|u<|seq ti y y<|u<|mv y<|zcU (x:=d) (j:=2) 2 y y y y y gpn (fun b=>by replace a:=bF b a;obtain ⟨f,e,a⟩:=bs a;obtain rfl:=sm a;exact g y b<|mv y<|g y b<|pc (zhc c e) y y y<|zb (eg [6,7] 2 y y y y)) (fun hb=>(sm (bT hb a)).symm)<|u<|asg y<|zb ?_
 refine zj ?_
 obtain rfl:=sm h
 exact ⟨_,y,zz []⟩
def zfT(a:zc):Bool:=
  (((((!a.Static)&&(!(a.Name == [36,105,110,105,116])))&&(a.Locals == (0:Int)))&&(a.Stack == (0:Int)))&&((IntKind.i64.wrap ((IntKind.i64.wrap ((length a.Code:Int)+(length a.Maps:Int)))+(length a.Traps:Int))) == (0:Int)))
theorem zqd(e:zc){r:Bool}(h:zfT e=r):zG Tryz.prog 185 [.agg (zh e)] (bA r):=by
 refine zr Tryz.func185 y kz y y ?_
 unfold zfT at h
 refine rg y<|u<|bx 0 10 y y y y<|u<|asg y<|zb ?_
 refine rg y<|u<|fa ti y y y<|u<|ld ti y y<|u<|nt y<|u<|mv y<|z7 (j:=3) 3 y y y y y gpn (fun b=>g y b<|fa ti y y y<|g y b<|ld ti y y<|g y b<|sne ti y y<|zb (egA [7,8,9] 3 b y y y y)) ze3<|u<|mv y<|z7 (j:=8) 3 y y y y y gpn (fun c=>g y c<|fa ti y y y<|g y c<|ld ti y y<|g y c<|eql ti y y<|zb (egA [12,13,14] 3 c y y y y)) ze3<|u<|mv y<|z7 (j:=13) 3 y y y y y gpn (fun d=>g y d<|fa ti y y y<|g y d<|ld ti y y<|g y d<|eql ti y y<|zb (egA [17,18,19] 3 d y y y y)) ze3<|u<|mv y<|z7 (j:=18) 12 y y y y y gpn (fun a=>g y a<|fa ti y y y<|g y a<|ld ti y y<|g y a<|lnI ti y y<|g y a<|fa ti y y y<|g y a<|ld ti y y<|g y a<|lnI ti y y<|g y a<|add ti y y<|g y a<|fa ti y y y<|g y a<|ld ti y y<|g y a<|lnI ti y y<|g y a<|add ti y y<|g y a<|eql ti y y<|zb (egA [22,23,24,25,26,27,28,29,30,31,32,33] 12 a y y y y)) ze3<|u<|asg y<|zb ?_
 refine zj ?_
 obtain rfl:=h
 exact ⟨_,y,zz []⟩
def zaa(a:zc):Int:=
  cond a.Static ((length a.Params:Int)) ((IntKind.i64.wrap ((length a.Params:Int)+1)))
theorem zhD(b:zc){r:Int}(h:zaa b=r):zG Tryz.prog 187 [.agg (zh b)] (iA r):=by
 refine zr Tryz.func187 y kz y y ?_
 unfold zaa at h
 refine rg y<|u<|bx 0 10 y y y y<|u<|asg y<|zb ?_
 refine zi ?_
 refine rg y<|u<|fa ti y y y<|u<|ld ti y y<|zb ?_
 refine ze y (fun a=>?_) (fun a=>?_)
 ·
  replace h:=bT a h
  refine rg y<|u<|fa ti y y y<|u<|ld ti y y<|u<|lnI ti y y<|u<|asg y<|zb ?_
  refine zj ?_
  obtain rfl:=h
  exact ⟨_,y,zz []⟩
 ·
  replace h:=bF a h
  refine zg ?_
  refine rg y<|u<|fa ti y y y<|u<|ld ti y y<|u<|lnI ti y y<|u<|add ti y y<|u<|asg y<|zb ?_
  refine zj ?_
  obtain rfl:=h
  exact ⟨_,y,zz []⟩
def zn(a:Int)(b:Int)(c:Int):Bool:=
  ((decide (b≤a))&&(decide (a≤c)))
theorem zaP(b:Int)(c:Int)(d:Int){r:Bool}(h:zn b c d=r):zG Tryz.prog 186 [iA b,iA c,iA d] (bA r):=by
 refine zr Tryz.func186 y kz y y ?_
 unfold zn at h
 refine rg y<|u<|asg y<|zb ?_
 refine rg y<|u<|mv y<|u<|mv y<|u<|geq ti y y<|u<|mv y<|z7 (j:=3) 3 y y y y y gpn (fun a=>g y a<|mv y<|g y a<|mv y<|g y a<|leq ti y y<|zb (egA [11,12,13] 3 a y y y y)) ze3<|u<|asg y<|zb ?_
 refine zj ?_
 obtain rfl:=h
 exact ⟨_,y,zz []⟩
def zeM(a:zp)(b:Int):Option (Bool):=
  (zsJ a).bind fun c=>some ((!c)||((zeN a.Op)&&(decide (b≤a.A))))
theorem zkn(c:zp)(d:Int){r:Bool}(h:zeM c d=some r):zG Tryz.prog 246 [.agg (zu c),.ipt 1 [[iA d]] 0 0] (bA r):=by
 refine zr Tryz.func246 y kz y y ?_
 unfold zeM at h
 refine rg y<|u<|bx 0 4 y y y y<|u<|asg y<|zb ?_
 obtain ⟨f,e,h⟩:=bs h
 refine rg y<|u<|ld ti y y<|u<|pc (zxA c e) y y y<|u<|nt y<|u<|mv y<|zcU (j:=3) 9 y y y y y gpn (fun a=>g y a<|fa ti y y y<|g y a<|ld ti y y<|g y a<|pc (zmZ c.Op y) y y y<|g y a<|mv y<|z7 (j:=7) 4 y y y y y (gps y y a) (fun b=>g y b<|fa ti y y y<|g y b<|ld ti y y<|g y b<|ld ti y y<|g y b<|geq ti y y<|zb (egA [12,13,14,15] 4 b y y y y)) ze3<|zb (egO [8,9,10,11,12,13,14,15,16] 5 a y y y y)) orT<|u<|asg y<|zb ?_
 refine zj ?_
 obtain rfl:=sm h
 exact ⟨_,y,zz []⟩
def zbE:Option (Int):=
  some (-1)
def zar(b:List zp)(c:Int)(a:Int):Option (Sum (Int) (Sum (Unit) (Int))):=
  cond (decide (a<(length b:Int))) ((idx b a).bind fun d=>(zeM d c).bind fun e=>cond e (some (.inr (.inr a))) (some (.inl (IntKind.i64.wrap (a+1))))) (some (.inr (.inl ())))
def zb3(a:List zp)(c:Int):Option (Int):=
  (zw (fun z=>zar a c z) 0).bind fun o=>zU o (fun b=>zbE) some
theorem zhn(a:List zp)(c:Int){r:Int}(h:zb3 a c=some r):zG Tryz.prog 264 [.isl 4 (map zu a),.fn (.func 246) [] [.ipt 1 [[iA c]] 0 0]] (iA r):=by
 refine zr Tryz.func264 y kz y y ?_
 unfold zb3 at h
 refine rg y<|u<|asg y<|zb ?_
 refine zi ?_
 refine rg y<|u<|mv y<|u<|lnI ti y y<|u<|mv y<|zb ?_
 obtain ⟨o,ho,h⟩:=bs h
 refine zY (X:=Int) (B:=Unit) (R:=Int) (fun z=>[(0,.isl 4 (map zu a)),(1,.fn (.func 246) [] [.ipt 1 [[iA c]] 0 0]),(7,iA (length a:Int)),(8,iA z)]) (fun z=>[]) (fun b=>[]) (fun b=>[]) (fun r env st=>zaO Tryz.prog Tryz.f264 0 (iA r) [] env st) ho (zo []) ?_ ?_ ?_
 ·
  rintro g r h
  replace h:zar a c g=some r:=h
  unfold zar at h
  refine rg y<|u<|lss ti y y<|zb ?_
  refine zi ?_
  refine ze y (fun d=>?_) (fun d=>?_)
  ·
   replace h:=bT d h
   refine zg ?_
   refine zi ?_
   refine zs ?_
   refine rg y<|u<|mv y<|u<|asg y<|zb ?_
   obtain ⟨i,f,h⟩:=bs h
   obtain ⟨l,j,h⟩:=bs h
   refine rg y<|u<|mv y<|u<|mv y<|u<|mv y<|u<|ixI ti y ti y y y f<|u<|ldI ti y (zl f).2.2 y<|u<|pc (zkn i c j) y y y<|zb ?_
   refine ze y (fun e=>?_) (fun e=>?_)
   ·
    replace h:=bT e h
    refine rg y<|u<|mv y<|u<|asg y<|zb ?_
    refine zj ?_
    obtain rfl:=sm h
    exact ⟨_,y,_,y,zz []⟩
   ·
    replace h:=bF e h
    refine zg ?_
    refine rl y<|u<|add ti y y<|u<|mv y<|zb ?_
    obtain rfl:=sm h
    exact ⟨_,y,zo []⟩
  ·
   replace h:=bF d h
   refine zE ?_
   obtain rfl:=sm h
   exact ⟨y,_,y,zo []⟩
 ·
  rintro ⟨⟩ rfl
  replace h:zbE=some r:=h
  unfold zbE at h
  refine zy ?_
  refine rg y<|u<|asg y<|zb ?_
  refine zj ?_
  obtain rfl:=sm h
  exact ⟨_,y,zz []⟩
 ·
  rintro r' rfl env st hp
  obtain rfl:=sm h
  exact hp
def zaW(a:List zp)(b:Int):Option (Bool):=
  (zb3 a b).bind fun c=>some (decide (0≤c))
theorem zgy(a:List zp)(b:Int){r:Bool}(h:zaW a b=some r):zG Tryz.prog 221 [.isl 4 (map zu a),.fn (.func 246) [] [.ipt 1 [[iA b]] 0 0]] (bA r):=by
 refine zr Tryz.func221 y kz y y ?_
 unfold zaW at h
 refine rg y<|u<|asg y<|zb ?_
 obtain ⟨d,c,h⟩:=bs h
 refine rg y<|u<|mv y<|u<|mv y<|u<|pc (zhn a b c) y y y<|u<|geq ti y y<|u<|asg y<|zb ?_
 refine zj ?_
 obtain rfl:=sm h
 exact ⟨_,y,zz []⟩
def zes(a:zc):Option (Bool):=
  (cond (!(zn (length a.Code:Int) 1 100)) (some true) ((idx a.Code (IntKind.i64.wrap ((length a.Code:Int)-1))).bind fun b=>some (!(ziE b.Op)))).bind fun c=>cond c (some false) ((zaW a.Code (length a.Code:Int)).bind fun d=>some (!d))
theorem zfU(c:zc){r:Bool}(h:zes c=some r):zG Tryz.prog 188 [.agg (zh c)] (bA r):=by
 refine zr Tryz.func188 y kz y y ?_
 unfold zes at h
 refine rg y<|u<|bx 0 10 y y y y<|u<|asg y<|zb ?_
 refine rg y<|u<|fa ti y y y<|u<|ld ti y y<|u<|lnI ti y y<|u<|al 1 ti y<|u<|sto ti y y y<|zb ?_
 refine zi ?_
 obtain ⟨f,b,h⟩:=bs h
 refine rg y<|u<|ld ti y y<|u<|pc (zaP (length c.Code:Int) 1 100 y) y y y<|u<|nt y<|u<|mv y<|zcU (x:=f) (j:=3) 9 y y y y y gpn (fun a=>by replace b:=bF a b;obtain ⟨i,e,b⟩:=bs b;obtain rfl:=sm b;exact g y a<|fa ti y y y<|g y a<|ld ti y y<|g y a<|ld ti y y<|g y a<|sub ti y y<|g y a<|ixI ti y ti y y y e<|g y a<|fa ti y y y<|g y a<|ldI ti y (zl e).2.2 y<|g y a<|pc (zqR i.Op y) y y y<|g y a<|nt y<|zb (eg [11,12,13,14,15,16,17,18,19] 9 y y y y)) (fun hb=>(sm (bT hb b)).symm)<|zb ?_
 refine ze y (fun d=>?_) (fun d=>?_)
 ·
  replace h:=bT d h
  refine rg y<|u<|asg y<|zb ?_
  refine zj ?_
  obtain rfl:=sm h
  exact ⟨_,y,zz []⟩
 ·
  replace h:=bF d h
  refine zg ?_
  obtain ⟨m,l,h⟩:=bs h
  refine rg y<|u<|fa ti y y y<|u<|ld ti y y<|u<|mf y y<|u<|pcs (zgy c.Code (length c.Code:Int) l) y y (.cons (si y) (.cons (zh4 t ⟨(zcT y ⟨(si y),t⟩),t⟩) .nil)) zcn<|u<|nt y<|u<|asg y<|zb ?_
  refine zj ?_
  obtain rfl:=sm h
  exact ⟨_,y,zz []⟩
def zjT(a:T0):Option (Bool):=
  (cond (((a == [73])||(a == [78]))||(a == [84])) (some true) ((zjt a).bind fun b=>some b)).bind fun c=>some c
theorem zrb(e:T0){r:Bool}(h:zjT e=some r):zG Tryz.prog 248 [sA e] (bA r):=by
 refine zr Tryz.func248 y kz y y ?_
 unfold zjT at h
 refine rg y<|u<|asg y<|zb ?_
 obtain ⟨f,a,h⟩:=bs h
 refine rg y<|u<|mv y<|u<|seq ti y y<|u<|mv y<|zcU (j:=2) 2 y y y y y gpn (fun b=>g y b<|mv y<|g y b<|seq ti y y<|zb (egO [6,7] 2 b y y y y)) orT<|u<|mv y<|zcU (j:=6) 2 y y y y y gpn (fun c=>g y c<|mv y<|g y c<|seq ti y y<|zb (egO [10,11] 2 c y y y y)) orT<|u<|mv y<|zcU (x:=f) (j:=10) 2 y y y y y gpn (fun d=>by replace a:=bF d a;obtain ⟨l,i,a⟩:=bs a;obtain rfl:=sm a;exact g y d<|mv y<|g y d<|pc (zkC e i) y y y<|zb (eg [14,15] 2 y y y y)) (fun hb=>(sm (bT hb a)).symm)<|u<|asg y<|zb ?_
 refine zj ?_
 obtain rfl:=sm h
 exact ⟨_,y,zz []⟩
def zgY(a:T0):Option (Bool):=
  (zjT a).bind fun b=>some (!b)
theorem zmD(a:T0){r:Bool}(h:zgY a=some r):zG Tryz.prog 245 [sA a,.ipt 1 [[.fn (.func 248) [] []]] 0 0] (bA r):=by
 refine zr Tryz.func245 y kz y y ?_
 unfold zgY at h
 refine rg y<|u<|asg y<|zb ?_
 obtain ⟨c,b,h⟩:=bs h
 refine rg y<|u<|ld ti y y<|u<|mv y<|u<|pc (zrb a b) y y y<|u<|nt y<|u<|asg y<|zb ?_
 refine zj ?_
 obtain rfl:=sm h
 exact ⟨_,y,zz []⟩
def zbq:Option (Int):=
  some (-1)
def zaj(b:T1)(a:Int):Option (Sum (Int) (Sum (Unit) (Int))):=
  cond (decide (a<(length b:Int))) ((idx b a).bind fun c=>(zgY c).bind fun d=>cond d (some (.inr (.inr a))) (some (.inl (IntKind.i64.wrap (a+1))))) (some (.inr (.inl ())))
def zbU(a:T1):Option (Int):=
  (zw (fun z=>zaj a z) 0).bind fun o=>zU o (fun b=>zbq) some
theorem zgR(a:T1){r:Int}(h:zbU a=some r):zG Tryz.prog 110 [.isl 1 (map zf a),.fn (.func 245) [] [.ipt 1 [[.fn (.func 248) [] []]] 0 0]] (iA r):=by
 refine zr Tryz.func110 y kz y y ?_
 unfold zbU at h
 refine rg y<|u<|asg y<|zb ?_
 refine zi ?_
 refine rg y<|u<|mv y<|u<|lnI ti y y<|u<|mv y<|zb ?_
 obtain ⟨o,ho,h⟩:=bs h
 refine zY (X:=Int) (B:=Unit) (R:=Int) (fun z=>[(0,.isl 1 (map zf a)),(1,.fn (.func 245) [] [.ipt 1 [[.fn (.func 248) [] []]] 0 0]),(7,iA (length a:Int)),(8,iA z)]) (fun z=>[]) (fun b=>[]) (fun b=>[]) (fun r env st=>zaO Tryz.prog Tryz.f110 0 (iA r) [] env st) ho (zo []) ?_ ?_ ?_
 ·
  rintro f r h
  replace h:zaj a f=some r:=h
  unfold zaj at h
  refine rg y<|u<|lss ti y y<|zb ?_
  refine zi ?_
  refine ze y (fun c=>?_) (fun c=>?_)
  ·
   replace h:=bT c h
   refine zg ?_
   refine zi ?_
   refine zs ?_
   refine rg y<|u<|mv y<|u<|asg y<|zb ?_
   obtain ⟨g,e,h⟩:=bs h
   obtain ⟨j,i,h⟩:=bs h
   refine rg y<|u<|mv y<|u<|mv y<|u<|mv y<|u<|ixI ti y ti y y y e<|u<|ldI ti y (zl e).2.2 y<|u<|pc (zmD g i) y y y<|zb ?_
   refine ze y (fun d=>?_) (fun d=>?_)
   ·
    replace h:=bT d h
    refine rg y<|u<|mv y<|u<|asg y<|zb ?_
    refine zj ?_
    obtain rfl:=sm h
    exact ⟨_,y,_,y,zz []⟩
   ·
    replace h:=bF d h
    refine zg ?_
    refine rl y<|u<|add ti y y<|u<|mv y<|zb ?_
    obtain rfl:=sm h
    exact ⟨_,y,zo []⟩
  ·
   replace h:=bF c h
   refine zE ?_
   obtain rfl:=sm h
   exact ⟨y,_,y,zo []⟩
 ·
  rintro ⟨⟩ rfl
  replace h:zbq=some r:=h
  unfold zbq at h
  refine zy ?_
  refine rg y<|u<|asg y<|zb ?_
  refine zj ?_
  obtain rfl:=sm h
  exact ⟨_,y,zz []⟩
 ·
  rintro r' rfl env st hp
  obtain rfl:=sm h
  exact hp
def zbm(a:T1):Option (Bool):=
  (zbU a).bind fun b=>some (decide (0≤b))
theorem zge(a:T1){r:Bool}(h:zbm a=some r):zG Tryz.prog 56 [.isl 1 (map zf a),.fn (.func 245) [] [.ipt 1 [[.fn (.func 248) [] []]] 0 0]] (bA r):=by
 refine zr Tryz.func56 y kz y y ?_
 unfold zbm at h
 refine rg y<|u<|asg y<|zb ?_
 obtain ⟨c,b,h⟩:=bs h
 refine rg y<|u<|mv y<|u<|mv y<|u<|pc (zgR a b) y y y<|u<|geq ti y y<|u<|asg y<|zb ?_
 refine zj ?_
 obtain rfl:=sm h
 exact ⟨_,y,zz []⟩
def zfz(a:T1):Option (Bool):=
  (zbm a).bind fun b=>some (!b)
theorem zjV(a:T1){r:Bool}(h:zfz a=some r):zG Tryz.prog 183 [.isl 1 (map zf a),.fn (.func 248) [] []] (bA r):=by
 refine zr Tryz.func183 y kz y y ?_
 unfold zfz at h
 refine rg y<|u<|bx 0 1 y y y y<|u<|asg y<|zb ?_
 obtain ⟨c,b,h⟩:=bs h
 refine rg y<|u<|mv y<|u<|mf y y<|u<|pcs (zge a b) y y (.cons (si y) (.cons (zh4 t ⟨(zcT y ⟨(si y),t⟩),t⟩) .nil)) zcn<|u<|nt y<|u<|asg y<|zb ?_
 refine zj ?_
 obtain rfl:=sm h
 exact ⟨_,y,zz []⟩
def zcB:Option (Int):=
  some (-1)
def za8(b:T1)(c:T0)(a:Int):Option (Sum (Int) (Sum (Unit) (Int))):=
  cond (decide (a<(length b:Int))) ((idx b a).bind fun d=>cond (c == d) (some (.inr (.inr a))) (some (.inl (IntKind.i64.wrap (a+1))))) (some (.inr (.inl ())))
def zdi(a:T1)(c:T0):Option (Int):=
  (zw (fun z=>za8 a c z) 0).bind fun o=>zU o (fun b=>zcB) some
theorem ziG(a:T1)(e:T0){r:Int}(h:zdi a e=some r):zG Tryz.prog 193 [.isl 1 (map zf a),sA e] (iA r):=by
 refine zr Tryz.func193 y kz y y ?_
 unfold zdi at h
 refine rg y<|u<|asg y<|zb ?_
 refine zi ?_
 refine rg y<|u<|mv y<|u<|lnI ti y y<|u<|mv y<|zb ?_
 obtain ⟨o,ho,h⟩:=bs h
 refine zY (X:=Int) (B:=Unit) (R:=Int) (fun z=>[(0,.isl 1 (map zf a)),(1,sA e),(7,iA (length a:Int)),(8,iA z)]) (fun z=>[]) (fun b=>[]) (fun b=>[]) (fun r env st=>zaO Tryz.prog Tryz.f193 0 (iA r) [] env st) ho (zo []) ?_ ?_ ?_
 ·
  rintro g r h
  replace h:za8 a e g=some r:=h
  unfold za8 at h
  refine rg y<|u<|lss ti y y<|zb ?_
  refine zi ?_
  refine ze y (fun c=>?_) (fun c=>?_)
  ·
   replace h:=bT c h
   refine zg ?_
   refine zi ?_
   refine zs ?_
   refine rg y<|u<|mv y<|u<|asg y<|zb ?_
   obtain ⟨i,f,h⟩:=bs h
   refine rg y<|u<|mv y<|u<|mv y<|u<|mv y<|u<|ixI ti y ti y y y f<|u<|ldI ti y (zl f).2.2 y<|u<|seq ti y y<|zb ?_
   refine ze y (fun d=>?_) (fun d=>?_)
   ·
    replace h:=bT d h
    refine rg y<|u<|mv y<|u<|asg y<|zb ?_
    refine zj ?_
    obtain rfl:=sm h
    exact ⟨_,y,_,y,zz []⟩
   ·
    replace h:=bF d h
    refine zg ?_
    refine rl y<|u<|add ti y y<|u<|mv y<|zb ?_
    obtain rfl:=sm h
    exact ⟨_,y,zo []⟩
  ·
   replace h:=bF c h
   refine zE ?_
   obtain rfl:=sm h
   exact ⟨y,_,y,zo []⟩
 ·
  rintro ⟨⟩ rfl
  replace h:zcB=some r:=h
  unfold zcB at h
  refine zy ?_
  refine rg y<|u<|asg y<|zb ?_
  refine zj ?_
  obtain rfl:=sm h
  exact ⟨_,y,zz []⟩
 ·
  rintro r' rfl env st hp
  obtain rfl:=sm h
  exact hp
def zK(a:T1)(b:T0):Option (Bool):=
  (zdi a b).bind fun c=>some (decide (0≤c))
theorem zaI(a:T1)(b:T0){r:Bool}(h:zK a b=some r):zG Tryz.prog 113 [.isl 1 (map zf a),sA b] (bA r):=by
 refine zr Tryz.func113 y kz y y ?_
 unfold zK at h
 refine rg y<|u<|asg y<|zb ?_
 obtain ⟨d,c,h⟩:=bs h
 refine rg y<|u<|mv y<|u<|mv y<|u<|pc (ziG a b c) y y y<|u<|geq ti y y<|u<|asg y<|zb ?_
 refine zj ?_
 obtain rfl:=sm h
 exact ⟨_,y,zz []⟩
def zko(a:zc):Option (Bool):=
  some (decide ((length a.Maps:Int)≤100))
def zet(b:zc)(c:Int)(a:z8)(d:Bool):Option (Sum (Int) (Sum (Unit) (Bool))):=
  cond d (some (.inr (.inr false))) ((cond ((!((length a.Locals:Int) == b.Locals))||(decide (b.Stack<(length a.Stack:Int)))) (some true) ((zfz a.Locals).bind fun e=>some (!e))).bind fun f=>(cond f (some true) ((zfz a.Stack).bind fun g=>some (!g))).bind fun h=>(cond h (some true) ((zK a.Stack [84]).bind fun i=>some i)).bind fun j=>cond j (some (.inr (.inr false))) (some (.inl (IntKind.i64.wrap (c+1)))))
def zeu(c:zc)(a:Int):Option (Sum (Int) (Sum (Unit) (Bool))):=
  cond (decide (a<(length c.Maps:Int))) ((idx c.Maps a).bind fun b=>cond (!(zn b.At 0 (IntKind.i64.wrap ((length c.Code:Int)-1)))) (zet c a b true) (cond (decide (0<a)) ((idx c.Maps (IntKind.i64.wrap (a-1))).bind fun d=>zet c a b (decide (b.At≤d.At))) (zet c a b false))) (some (.inr (.inl ())))
def zjS(a:zc):Option (Bool):=
  (zw (fun z=>zeu a z) 0).bind fun o=>zU o (fun b=>zko a) some
theorem zne(c:zc){r:Bool}(h:zjS c=some r):zG Tryz.prog 189 [.agg (zh c)] (bA r):=by
 refine zr Tryz.func189 y kz y y ?_
 unfold zjS at h
 refine rg y<|u<|bx 0 10 y y y y<|u<|asg y<|zb ?_
 refine zi ?_
 refine rg y<|u<|fa ti y y y<|u<|ld ti y y<|u<|lnI ti y y<|u<|mv y<|zb ?_
 obtain ⟨o,ho,h⟩:=bs h
 refine zY (X:=Int) (B:=Unit) (R:=Bool) (fun z=>[(1,.mpt 0 0 0),(6,.isl 3 (map zL c.Maps)),(7,iA (length c.Maps:Int)),(8,iA z)]) (fun z=>[some (10,[(zh c)])]) (fun b=>[(1,.mpt 0 0 0)]) (fun b=>[some (10,[(zh c)])]) (fun r env st=>zaO Tryz.prog Tryz.f189 0 (bA r) [] env st) ho (zo [.old 0]) ?_ ?_ ?_
 ·
  rintro d r h
  replace h:zeu c d=some r:=h
  unfold zeu at h
  refine rg y<|u<|lss ti y y<|zb ?_
  refine zi ?_
  refine ze y (fun v=>?_) (fun v=>?_)
  ·
   replace h:=bT v h
   refine zg ?_
   refine zi ?_
   refine zs ?_
   obtain ⟨a,E,h⟩:=bs h
   refine rg y<|u<|mv y<|u<|ixI ti y ti y y y E<|u<|ldI ti y (zl E).2.2 y<|u<|al 1 ti y<|u<|asg y<|u<|sto ti y y y<|zb ?_
   refine zi ?_
   refine zaX (X:=Bool) (fun z=>[(1,.mpt 0 0 0),(4,.mpt 1 0 0),(6,.isl 3 (map zL c.Maps)),(7,iA (length c.Maps:Int)),(8,iA d),(36,bA z)]) (fun z=>[some (10,[(zh c)]),some (3,[(zL a)])]) (fun z=>zet c d a z=some r) ?_ ?_
   ·
    rcases bb (!(zn a.At 0 (IntKind.i64.wrap ((length c.Code:Int)-1)))) with A |A
    ·
     replace h:=bT A h
     exact zaf [] [23,22,21,20,19,18,17,16,15,14,13,12,11,10,9,8,7,6,5,4,3,2,1,0] [(36,bA true),(35,.lit undef),(34,.lit undef),(33,.lit undef),(32,.lit undef),(31,.lit undef),(30,.lit undef),(29,.lit undef),(28,.lit undef),(27,.lit undef),(26,.lit undef),(25,.lit undef),(24,.lit undef),(23,.lit undef),(22,.lit undef),(21,bA (!(zn a.At 0 (IntKind.i64.wrap ((length c.Code:Int)-1))))),(20,bA (!(zn a.At 0 (IntKind.i64.wrap ((length c.Code:Int)-1))))),(19,bA (zn a.At 0 (IntKind.i64.wrap ((length c.Code:Int)-1)))),(18,iA (IntKind.i64.wrap ((length c.Code:Int)-1))),(17,iA (length c.Code:Int)),(16,.isl 4 (map zu c.Code)),(15,.mpt 0 0 7),(14,iA a.At),(13,.mpt 1 0 0)] 0 kz kz y kz (zhA ⟨pe,pe,pe,pe,pe,pe,pe,pe,pe,pe,pe,pe,pe,pe,pe,pe,pe,(pb y (pc (zaP a.At 0 (IntKind.i64.wrap ((length c.Code:Int)-1)) y) y y y w)),(pb y (sub ti y y w)),(pb y (lnI ti y y w)),pe,pe,pe,pe,t⟩ ⟨true,h,zo [.old 0,.old 1]⟩)
    ·
     replace h:=bF A h
     rcases bb (decide (0<d)) with f |f
     ·
      replace h:=bT f h
      obtain ⟨s,F,h⟩:=bs h
      exact zaf [] [23,22,21,20,19,18,17,16,15,14,13,12,11,10,9,8,7,6,5,4,3,2,1,0] [(36,bA (decide (a.At≤s.At))),(35,bA (decide (a.At≤s.At))),(34,bA (decide (a.At≤s.At))),(33,iA a.At),(32,.mpt 1 0 0),(31,iA s.At),(30,.ipt 3 (map zL c.Maps) (Int.toNat (IntKind.i64.wrap (d-1))) 0),(29,.ipt 3 (map zL c.Maps) (Int.toNat (IntKind.i64.wrap (d-1))) 0),(28,iA (IntKind.i64.wrap (d-1))),(27,iA d),(26,.isl 3 (map zL c.Maps)),(25,.mpt 0 0 8),(24,bA (decide (0<d))),(23,bA (decide (0<d))),(22,iA d),(21,bA (!(zn a.At 0 (IntKind.i64.wrap ((length c.Code:Int)-1))))),(20,bA (!(zn a.At 0 (IntKind.i64.wrap ((length c.Code:Int)-1))))),(19,bA (zn a.At 0 (IntKind.i64.wrap ((length c.Code:Int)-1)))),(18,iA (IntKind.i64.wrap ((length c.Code:Int)-1))),(17,iA (length c.Code:Int)),(16,.isl 4 (map zu c.Code)),(15,.mpt 0 0 7),(14,iA a.At),(13,.mpt 1 0 0)] 0 kz kz y kz (zhA ⟨pe,pe,pe,pe,pe,(fun _=>pag (b:=(decide (0<d))) y y y y f y (ldI ti y (zl F).2.2 y<|w)),pe,(fun _=>pag (b:=(decide (0<d))) y y y y f y (ixI ti y ti y y y F<|w)),(fun _=>pag (b:=(decide (0<d))) y y y y f y (sub ti y y<|w)),pe,pe,pe,pe,pe,pe,pe,pe,(pb y (pc (zaP a.At 0 (IntKind.i64.wrap ((length c.Code:Int)-1)) y) y y y w)),(pb y (sub ti y y w)),(pb y (lnI ti y y w)),pe,pe,pe,pe,t⟩ ⟨(decide (a.At≤s.At)),h,zo [.old 0,.old 1]⟩)
     ·
      replace h:=bF f h
      exact zaf [] [23,22,21,20,19,18,17,16,15,14,13,12,11,10,9,8,7,6,5,4,3,2,1,0] [(36,bA false),(35,bA false),(34,.lit undef),(33,.lit undef),(32,.lit undef),(31,.lit undef),(30,.lit undef),(29,.lit undef),(28,.lit undef),(27,.lit undef),(26,.lit undef),(25,.lit undef),(24,bA (decide (0<d))),(23,bA (decide (0<d))),(22,iA d),(21,bA (!(zn a.At 0 (IntKind.i64.wrap ((length c.Code:Int)-1))))),(20,bA (!(zn a.At 0 (IntKind.i64.wrap ((length c.Code:Int)-1))))),(19,bA (zn a.At 0 (IntKind.i64.wrap ((length c.Code:Int)-1)))),(18,iA (IntKind.i64.wrap ((length c.Code:Int)-1))),(17,iA (length c.Code:Int)),(16,.isl 4 (map zu c.Code)),(15,.mpt 0 0 7),(14,iA a.At),(13,.mpt 1 0 0)] 0 kz kz y kz (zhA ⟨pe,pe,pe,pe,pe,pe,pe,pe,pe,pe,pe,pe,pe,pe,pe,pe,pe,(pb y (pc (zaP a.At 0 (IntKind.i64.wrap ((length c.Code:Int)-1)) y) y y y w)),(pb y (sub ti y y w)),(pb y (lnI ti y y w)),pe,pe,pe,pe,t⟩ ⟨false,h,zo [.old 0,.old 1]⟩)
   ·
    rintro G h
    replace h:zet c d a G=some r:=h
    unfold zet at h
    refine ze y (fun C=>?_) (fun C=>?_)
    ·
     replace h:=bT C h
     refine rg y<|u<|asg y<|zb ?_
     refine zj ?_
     obtain rfl:=sm h
     exact ⟨_,y,_,y,zz []⟩
    ·
     replace h:=bF C h
     refine zg ?_
     obtain ⟨H,m,h⟩:=bs h
     obtain ⟨I,n,h⟩:=bs h
     obtain ⟨J,p,h⟩:=bs h
     refine rg y<|u<|fa ti y y y<|u<|ld ti y y<|u<|lnI ti y y<|u<|fa ti y y y<|u<|ld ti y y<|u<|neq ti y y<|u<|mv y<|zcU (j:=6) 6 y y y y y gpn (fun e=>g y e<|fa ti y y y<|g y e<|ld ti y y<|g y e<|lnI ti y y<|g y e<|fa ti y y y<|g y e<|ld ti y y<|g y e<|gtr ti y y<|zb (egO [44,45,46,47,48,49] 6 e y y y y)) orT<|u<|mv y<|zcU (x:=H) (j:=14) 4 y y y y y gpn (fun i=>by replace m:=bF i m;obtain ⟨N,K,m⟩:=bs m;obtain rfl:=sm m;exact g y i<|fa ti y y y<|g y i<|ld ti y y<|g y i<|pc (zjV a.Locals K) y y y<|g y i<|nt y<|zb (eg [52,53,54,55] 4 y y y y)) (fun hb=>(sm (bT hb m)).symm)<|u<|mv y<|zcU (x:=I) (j:=20) 4 y y y y y gpn (fun l=>by replace n:=bF l n;obtain ⟨O,L,n⟩:=bs n;obtain rfl:=sm n;exact g y l<|fa ti y y y<|g y l<|ld ti y y<|g y l<|pc (zjV a.Stack L) y y y<|g y l<|nt y<|zb (eg [58,59,60,61] 4 y y y y)) (fun hb=>(sm (bT hb n)).symm)<|u<|mv y<|zcU (x:=J) (j:=26) 3 y y y y y gpn (fun q=>by replace p:=bF q p;obtain ⟨P,M,p⟩:=bs p;obtain rfl:=sm p;exact g y q<|fa ti y y y<|g y q<|ld ti y y<|g y q<|pc (zaI a.Stack [84] M) y y y<|zb (eg [64,65,66] 3 y y y y)) (fun hb=>(sm (bT hb p)).symm)<|zb ?_
     refine ze y (fun D=>?_) (fun D=>?_)
     ·
      replace h:=bT D h
      refine rg y<|u<|asg y<|zb ?_
      refine zj ?_
      obtain rfl:=sm h
      exact ⟨_,y,_,y,zz []⟩
     ·
      replace h:=bF D h
      refine zg ?_
      refine rl y<|u<|add ti y y<|u<|mv y<|zb ?_
      obtain rfl:=sm h
      exact ⟨_,y,zo [.old 0]⟩
  ·
   replace h:=bF v h
   refine zE ?_
   obtain rfl:=sm h
   exact ⟨y,_,y,zo [.old 0]⟩
 ·
  rintro ⟨⟩ rfl
  replace h:zko c=some r:=h
  unfold zko at h
  refine zy ?_
  refine rg y<|u<|fa ti y y y<|u<|ld ti y y<|u<|lnI ti y y<|u<|leq ti y y<|u<|asg y<|zb ?_
  refine zj ?_
  obtain rfl:=sm h
  exact ⟨_,y,zz []⟩
 ·
  rintro r' rfl env st hp
  obtain rfl:=sm h
  exact hp
def ziL(a:zaF)(h:T0)(i:T1)(j:T0)(l:Bool)(m:Bool)(n:Int)(o:Int)(b:List zp)(f:List z8)(g:List zaF):Option (Bool):=
  (cond ((((decide (a.From<0))||(decide (a.To≤a.From)))||(decide ((length b:Int)<a.To)))||(!(zn a.At 0 (IntKind.i64.wrap ((length b:Int)-1))))) (some true) ((cond (!(a.C == [])) ((zfB a.C).bind fun c=>some (!c)) (some false)).bind fun d=>some d)).bind fun e=>some e
theorem zoO(l:zaF)(p:T0)(q:T1)(s:T0)(v:Bool)(z:Bool)(A:Int)(B:Int)(o:List zp)(m:List z8)(n:List zaF){r:Bool}(h:ziL l p q s v z A B o m n=some r):zG Tryz.prog 249 [.agg (za9 l),.ipt 10 [[sA p,.isl 1 (map zf q),sA s,bA v,bA z,iA A,iA B,.isl 4 (map zu o),.isl 3 (map zL m),.isl 4 (map za9 n)]] 0 0] (bA r):=by
 refine zr Tryz.func249 y kz y y ?_
 unfold ziL at h
 refine rg y<|u<|bx 0 4 y y y y<|u<|asg y<|zb ?_
 obtain ⟨D,f,h⟩:=bs h
 refine rg y<|u<|fa ti y y y<|u<|ld ti y y<|u<|lss ti y y<|u<|mv y<|zcU (j:=3) 5 y y y y y gpn (fun c=>g y c<|fa ti y y y<|g y c<|ld ti y y<|g y c<|fa ti y y y<|g y c<|ld ti y y<|g y c<|geq ti y y<|zb (egO [8,9,10,11,12] 5 c y y y y)) orT<|u<|mv y<|zcU (j:=10) 6 y y y y y gpn (fun b=>g y b<|fa ti y y y<|g y b<|ld ti y y<|g y b<|fa ti y y y<|g y b<|ld ti y y<|g y b<|lnI ti y y<|g y b<|gtr ti y y<|zb (egO [15,16,17,18,19,20] 6 b y y y y)) orT<|u<|mv y<|zcU (j:=18) 8 y y y y y gpn (fun a=>g y a<|fa ti y y y<|g y a<|ld ti y y<|g y a<|fa ti y y y<|g y a<|ld ti y y<|g y a<|lnI ti y y<|g y a<|sub ti y y<|g y a<|pc (zaP l.At 0 (IntKind.i64.wrap ((length o:Int)-1)) y) y y y<|g y a<|nt y<|zb (egO [23,24,25,26,27,28,29,30] 8 a y y y y)) orT<|u<|mv y<|zcU (x:=D) (j:=28) 9 y y y y y gpn (fun d=>by replace f:=bF d f;obtain ⟨E,i,f⟩:=bs f;obtain rfl:=sm f;exact g y d<|fa ti y y y<|g y d<|ld ti y y<|g y d<|sne ti y y<|g y d<|mv y<|z7 (x:=E) (j:=32) 4 y y y y y (gps y y d) (fun e=>by replace i:=bT e i;obtain ⟨G,F,i⟩:=bs i;obtain rfl:=sm i;exact g y e<|fa ti y y y<|g y e<|ld ti y y<|g y e<|pc (zgp l.C F) y y y<|g y e<|nt y<|zb (eg [37,38,39,40] 4 y y y y)) (fun hb=>(sm (bF hb i)).symm)<|zb (eg [33,34,35,36,37,38,39,40,41] 5 y y y y)) (fun hb=>(sm (bT hb f)).symm)<|u<|asg y<|zb ?_
 refine zj ?_
 obtain rfl:=sm h
 exact ⟨_,y,zz []⟩
def zbk:Option (Int):=
  some (-1)
def zah(b:List zaF)(g:T0)(h:T1)(i:T0)(j:Bool)(l:Bool)(m:Int)(n:Int)(o:List zp)(c:List z8)(d:List zaF)(a:Int):Option (Sum (Int) (Sum (Unit) (Int))):=
  cond (decide (a<(length b:Int))) ((idx b a).bind fun e=>(ziL e g h i j l m n o c d).bind fun f=>cond f (some (.inr (.inr a))) (some (.inl (IntKind.i64.wrap (a+1))))) (some (.inr (.inl ())))
def zbL(d:List zaF)(e:T0)(f:T1)(g:T0)(h:Bool)(i:Bool)(j:Int)(l:Int)(m:List zp)(a:List z8)(c:List zaF):Option (Int):=
  (zw (fun z=>zah d e f g h i j l m a c z) 0).bind fun o=>zU o (fun b=>zbk) some
theorem zgI(d:List zaF)(e:T0)(f:T1)(g:T0)(i:Bool)(j:Bool)(l:Int)(m:Int)(n:List zp)(a:List z8)(c:List zaF){r:Int}(h:zbL d e f g i j l m n a c=some r):zG Tryz.prog 263 [.isl 4 (map za9 d),.fn (.func 249) [] [.ipt 10 [[sA e,.isl 1 (map zf f),sA g,bA i,bA j,iA l,iA m,.isl 4 (map zu n),.isl 3 (map zL a),.isl 4 (map za9 c)]] 0 0]] (iA r):=by
 refine zr Tryz.func263 y kz y y ?_
 unfold zbL at h
 refine rg y<|u<|asg y<|zb ?_
 refine zi ?_
 refine rg y<|u<|mv y<|u<|lnI ti y y<|u<|mv y<|zb ?_
 obtain ⟨o,ho,h⟩:=bs h
 refine zY (X:=Int) (B:=Unit) (R:=Int) (fun z=>[(0,.isl 4 (map za9 d)),(1,.fn (.func 249) [] [.ipt 10 [[sA e,.isl 1 (map zf f),sA g,bA i,bA j,iA l,iA m,.isl 4 (map zu n),.isl 3 (map zL a),.isl 4 (map za9 c)]] 0 0]),(7,iA (length d:Int)),(8,iA z)]) (fun z=>[]) (fun b=>[]) (fun b=>[]) (fun r env st=>zaO Tryz.prog Tryz.f263 0 (iA r) [] env st) ho (zo []) ?_ ?_ ?_
 ·
  rintro s r h
  replace h:zah d e f g i j l m n a c s=some r:=h
  unfold zah at h
  refine rg y<|u<|lss ti y y<|zb ?_
  refine zi ?_
  refine ze y (fun p=>?_) (fun p=>?_)
  ·
   replace h:=bT p h
   refine zg ?_
   refine zi ?_
   refine zs ?_
   refine rg y<|u<|mv y<|u<|asg y<|zb ?_
   obtain ⟨v,x,h⟩:=bs h
   obtain ⟨C,A,h⟩:=bs h
   refine rg y<|u<|mv y<|u<|mv y<|u<|mv y<|u<|ixI ti y ti y y y x<|u<|ldI ti y (zl x).2.2 y<|u<|pc (zoO v e f g i j l m n a c A) y y y<|zb ?_
   refine ze y (fun q=>?_) (fun q=>?_)
   ·
    replace h:=bT q h
    refine rg y<|u<|mv y<|u<|asg y<|zb ?_
    refine zj ?_
    obtain rfl:=sm h
    exact ⟨_,y,_,y,zz []⟩
   ·
    replace h:=bF q h
    refine zg ?_
    refine rl y<|u<|add ti y y<|u<|mv y<|zb ?_
    obtain rfl:=sm h
    exact ⟨_,y,zo []⟩
  ·
   replace h:=bF p h
   refine zE ?_
   obtain rfl:=sm h
   exact ⟨y,_,y,zo []⟩
 ·
  rintro ⟨⟩ rfl
  replace h:zbk=some r:=h
  unfold zbk at h
  refine zy ?_
  refine rg y<|u<|asg y<|zb ?_
  refine zj ?_
  obtain rfl:=sm h
  exact ⟨_,y,zz []⟩
 ·
  rintro r' rfl env st hp
  obtain rfl:=sm h
  exact hp
def zbj(d:List zaF)(e:T0)(f:T1)(g:T0)(h:Bool)(i:Bool)(j:Int)(l:Int)(m:List zp)(a:List z8)(b:List zaF):Option (Bool):=
  (zbL d e f g h i j l m a b).bind fun c=>some (decide (0≤c))
theorem zfQ(c:List zaF)(d:T0)(e:T1)(f:T0)(g:Bool)(i:Bool)(j:Int)(l:Int)(m:List zp)(a:List z8)(b:List zaF){r:Bool}(h:zbj c d e f g i j l m a b=some r):zG Tryz.prog 219 [.isl 4 (map za9 c),.fn (.func 249) [] [.ipt 10 [[sA d,.isl 1 (map zf e),sA f,bA g,bA i,iA j,iA l,.isl 4 (map zu m),.isl 3 (map zL a),.isl 4 (map za9 b)]] 0 0]] (bA r):=by
 refine zr Tryz.func219 y kz y y ?_
 unfold zbj at h
 refine rg y<|u<|asg y<|zb ?_
 obtain ⟨o,n,h⟩:=bs h
 refine rg y<|u<|mv y<|u<|mv y<|u<|pc (zgI c d e f g i j l m a b n) y y y<|u<|geq ti y y<|u<|asg y<|zb ?_
 refine zj ?_
 obtain rfl:=sm h
 exact ⟨_,y,zz []⟩
def zi3(a:zc):Option (Bool):=
  (zbj a.Traps a.Name a.Params a.Ret a.Static a.Abstract a.Locals a.Stack a.Code a.Maps a.Traps).bind fun b=>some ((!b)&&(decide ((length a.Traps:Int)≤6)))
theorem zqf(a:zc){r:Bool}(h:zi3 a=some r):zG Tryz.prog 190 [.agg (zh a)] (bA r):=by
 refine zr Tryz.func190 y kz y y ?_
 unfold zi3 at h
 refine rg y<|u<|bx 0 10 y y y y<|u<|asg y<|zb ?_
 obtain ⟨d,c,h⟩:=bs h
 refine rg y<|u<|fa ti y y y<|u<|ld ti y y<|u<|mf y y<|u<|pcs (zfQ a.Traps a.Name a.Params a.Ret a.Static a.Abstract a.Locals a.Stack a.Code a.Maps a.Traps c) y y (.cons (si y) (.cons (zh4 t ⟨(zcT y ⟨(si y),(si y),(si y),(si y),(si y),(si y),(si y),(si y),(si y),(si y),t⟩),t⟩) .nil)) zcn<|u<|asg y<|zb ?_
 refine rg y<|u<|mv y<|u<|nt y<|u<|mv y<|z7 (j:=2) 4 y y y y y gpn (fun b=>g y b<|fa ti y y y<|g y b<|ld ti y y<|g y b<|lnI ti y y<|g y b<|leq ti y y<|zb (egA [11,12,13,14] 4 b y y y y)) ze3<|u<|asg y<|zb ?_
 refine zj ?_
 obtain rfl:=sm h
 exact ⟨_,y,zz []⟩
def zdA(a:Bool):Option (Bool):=
  some a
def zin(a:zc):Option (Bool):=
  (zi7 a.Name).bind fun b=>(cond ((!b)||(decide (6<(length a.Params:Int)))) (some true) ((zi4 a.Params).bind fun c=>some (!c))).bind fun d=>(cond d (some true) ((znn a.Ret).bind fun e=>some (!e))).bind fun f=>cond f (some false) (cond a.Abstract (some (zfT a)) (cond ((a.Name == [36,105,110,105,116])&&(((!a.Static)||(decide (0<(length a.Params:Int))))||(!(a.Ret == [86])))) (some false) (cond (zn a.Locals (zaa a) 16) (cond (zn a.Stack 0 16) ((zes a).bind fun g=>cond g ((zjS a).bind fun h=>cond h ((zi3 a).bind fun i=>zdA i) (zdA false)) (zdA false)) (zdA false)) (zdA false))))
theorem zpn(a:zc){r:Bool}(h:zin a=some r):zG Tryz.prog 106 [.agg (zh a)] (bA r):=by
 refine zr Tryz.func106 y kz y y ?_
 unfold zin at h
 refine rg y<|u<|bx 0 10 y y y y<|u<|asg y<|zb ?_
 refine zi ?_
 obtain ⟨O,J,h⟩:=bs h
 obtain ⟨K,B,h⟩:=bs h
 obtain ⟨L,C,h⟩:=bs h
 refine rg y<|u<|fa ti y y y<|u<|ld ti y y<|u<|pc (zlu a.Name J) y y y<|u<|nt y<|u<|mv y<|zcU (j:=4) 4 y y y y y gpn (fun o=>g y o<|fa ti y y y<|g y o<|ld ti y y<|g y o<|lnI ti y y<|g y o<|gtr ti y y<|zb (egO [8,9,10,11] 4 o y y y y)) orT<|u<|mv y<|zcU (x:=K) (j:=10) 4 y y y y y gpn (fun p=>by replace B:=bF p B;obtain ⟨P,M,B⟩:=bs B;obtain rfl:=sm B;exact g y p<|fa ti y y y<|g y p<|ld ti y y<|g y p<|pc (zqh a.Params M) y y y<|g y p<|nt y<|zb (eg [14,15,16,17] 4 y y y y)) (fun hb=>(sm (bT hb B)).symm)<|u<|mv y<|zcU (x:=L) (j:=16) 4 y y y y y gpn (fun q=>by replace C:=bF q C;obtain ⟨Q,N,C⟩:=bs C;obtain rfl:=sm C;exact g y q<|fa ti y y y<|g y q<|ld ti y y<|g y q<|pc (ztB a.Ret N) y y y<|g y q<|nt y<|zb (eg [20,21,22,23] 4 y y y y)) (fun hb=>(sm (bT hb C)).symm)<|zb ?_
 refine ze y (fun D=>?_) (fun D=>?_)
 ·
  replace h:=bT D h
  refine rg y<|u<|asg y<|zb ?_
  refine zj ?_
  obtain rfl:=sm h
  exact ⟨_,y,zz []⟩
 ·
  replace h:=bF D h
  refine zg ?_
  refine zi ?_
  refine rg y<|u<|fa ti y y y<|u<|ld ti y y<|zb ?_
  refine ze y (fun v=>?_) (fun v=>?_)
  ·
   replace h:=bT v h
   refine rg y<|u<|ld ti y y<|u<|pc (zqd a y) y y y<|u<|asg y<|zb ?_
   refine zj ?_
   obtain rfl:=sm h
   exact ⟨_,y,zz []⟩
  ·
   replace h:=bF v h
   refine zg ?_
   refine zi ?_
   refine rg y<|u<|fa ti y y y<|u<|ld ti y y<|u<|seq ti y y<|u<|mv y<|z7 (j:=3) 14 y y y y y gpn (fun c=>g y c<|fa ti y y y<|g y c<|ld ti y y<|g y c<|nt y<|g y c<|mv y<|zcU (j:=7) 4 y y y y y (gps y y c) (fun i=>g y i<|fa ti y y y<|g y i<|ld ti y y<|g y i<|lnI ti y y<|g y i<|gtr ti y y<|zb (egO [37,38,39,40] 4 i y y y y)) orT<|g y c<|mv y<|zcU (j:=13) 3 y y y y y (gps y y c) (fun m=>g y m<|fa ti y y y<|g y m<|ld ti y y<|g y m<|sne ti y y<|zb (egO [43,44,45] 3 m y y y y)) orT<|zb (egA [33,34,35,36,37,38,39,40,41,42,43,44,45,46] 7 c y y y y)) ze3<|zb ?_
   refine ze y (fun A=>?_) (fun A=>?_)
   ·
    replace h:=bT A h
    refine rg y<|u<|asg y<|zb ?_
    refine zj ?_
    obtain rfl:=sm h
    exact ⟨_,y,zz []⟩
   ·
    replace h:=bF A h
    refine zg ?_
    refine zaX (X:=Bool) (fun z=>[(2,bA z)]) (fun z=>[]) (fun z=>zdA z=some r) ?_ ?_
    ·
     rcases bb (zn a.Locals (zaa a) 16) with d |d
     ·
      replace h:=bT d h
      rcases bb (zn a.Stack 0 16) with e |e
      ·
       replace h:=bT e h
       obtain ⟨f,E,h⟩:=bs h
       rcases bb f with l |l
       ·
        replace h:=bT l h
        obtain ⟨s,G,h⟩:=bs h
        rcases bb s with n |n
        ·
         replace h:=bT n h
         obtain ⟨F,H,h⟩:=bs h
         exact zaf [] [22,21,20,19,18,17,16,15,14,13,12,11,10,9,8,7,6,5,4,3,2,1,0] [(2,bA F),(69,bA F),(68,bA F),(67,.agg (zh a)),(66,bA s),(65,bA s),(64,bA s),(63,.agg (zh a)),(62,bA f),(61,bA f),(60,bA f),(59,.agg (zh a)),(58,bA (zn a.Stack 0 16)),(57,bA (zn a.Stack 0 16)),(56,bA (zn a.Stack 0 16)),(55,iA a.Stack),(54,.mpt 0 0 6),(53,bA (zn a.Locals (zaa a) 16)),(52,bA (zn a.Locals (zaa a) 16)),(51,iA (zaa a)),(50,.agg (zh a)),(49,iA a.Locals),(48,.mpt 0 0 5)] 0 kz kz y kz (zhA ⟨pe,pe,(fun _=>pag (b:=s) y y y y n y (pc (zqf a H) y y y<|w)),pe,pe,pe,(fun _=>pag (b:=f) y y y y l y (pc (zne a G) y y y<|w)),pe,pe,pe,(fun _=>pag (b:=(zn a.Stack 0 16)) y y y y e y (pc (zfU a E) y y y<|w)),pe,pe,pe,(fun _=>pag (b:=(zn a.Locals (zaa a) 16)) y y y y d y (pc (zaP a.Stack 0 16 y) y y y<|w)),pe,pe,pe,(pb y (pc (zaP a.Locals (zaa a) 16 y) y y y w)),(pb y (pc (zhD a y) y y y w)),pe,pe,pe,t⟩ ⟨F,h,zo []⟩)
        ·
         replace h:=bF n h
         exact zaf [] [22,21,20,19,18,17,16,15,14,13,12,11,10,9,8,7,6,5,4,3,2,1,0] [(2,bA false),(69,bA false),(68,.lit undef),(67,.lit undef),(66,bA s),(65,bA s),(64,bA s),(63,.agg (zh a)),(62,bA f),(61,bA f),(60,bA f),(59,.agg (zh a)),(58,bA (zn a.Stack 0 16)),(57,bA (zn a.Stack 0 16)),(56,bA (zn a.Stack 0 16)),(55,iA a.Stack),(54,.mpt 0 0 6),(53,bA (zn a.Locals (zaa a) 16)),(52,bA (zn a.Locals (zaa a) 16)),(51,iA (zaa a)),(50,.agg (zh a)),(49,iA a.Locals),(48,.mpt 0 0 5)] 0 kz kz y kz (zhA ⟨pe,pe,pe,pe,pe,pe,(fun _=>pag (b:=f) y y y y l y (pc (zne a G) y y y<|w)),pe,pe,pe,(fun _=>pag (b:=(zn a.Stack 0 16)) y y y y e y (pc (zfU a E) y y y<|w)),pe,pe,pe,(fun _=>pag (b:=(zn a.Locals (zaa a) 16)) y y y y d y (pc (zaP a.Stack 0 16 y) y y y<|w)),pe,pe,pe,(pb y (pc (zaP a.Locals (zaa a) 16 y) y y y w)),(pb y (pc (zhD a y) y y y w)),pe,pe,pe,t⟩ ⟨false,h,zo []⟩)
       ·
        replace h:=bF l h
        exact zaf [] [22,21,20,19,18,17,16,15,14,13,12,11,10,9,8,7,6,5,4,3,2,1,0] [(2,bA false),(69,bA false),(68,.lit undef),(67,.lit undef),(66,bA false),(65,bA false),(64,.lit undef),(63,.lit undef),(62,bA f),(61,bA f),(60,bA f),(59,.agg (zh a)),(58,bA (zn a.Stack 0 16)),(57,bA (zn a.Stack 0 16)),(56,bA (zn a.Stack 0 16)),(55,iA a.Stack),(54,.mpt 0 0 6),(53,bA (zn a.Locals (zaa a) 16)),(52,bA (zn a.Locals (zaa a) 16)),(51,iA (zaa a)),(50,.agg (zh a)),(49,iA a.Locals),(48,.mpt 0 0 5)] 0 kz kz y kz (zhA ⟨pe,pe,pe,pe,pe,pe,pe,pe,pe,pe,(fun _=>pag (b:=(zn a.Stack 0 16)) y y y y e y (pc (zfU a E) y y y<|w)),pe,pe,pe,(fun _=>pag (b:=(zn a.Locals (zaa a) 16)) y y y y d y (pc (zaP a.Stack 0 16 y) y y y<|w)),pe,pe,pe,(pb y (pc (zaP a.Locals (zaa a) 16 y) y y y w)),(pb y (pc (zhD a y) y y y w)),pe,pe,pe,t⟩ ⟨false,h,zo []⟩)
      ·
       replace h:=bF e h
       exact zaf [] [22,21,20,19,18,17,16,15,14,13,12,11,10,9,8,7,6,5,4,3,2,1,0] [(2,bA false),(69,bA false),(68,.lit undef),(67,.lit undef),(66,bA false),(65,bA false),(64,.lit undef),(63,.lit undef),(62,bA false),(61,bA false),(60,.lit undef),(59,.lit undef),(58,bA (zn a.Stack 0 16)),(57,bA (zn a.Stack 0 16)),(56,bA (zn a.Stack 0 16)),(55,iA a.Stack),(54,.mpt 0 0 6),(53,bA (zn a.Locals (zaa a) 16)),(52,bA (zn a.Locals (zaa a) 16)),(51,iA (zaa a)),(50,.agg (zh a)),(49,iA a.Locals),(48,.mpt 0 0 5)] 0 kz kz y kz (zhA ⟨pe,pe,pe,pe,pe,pe,pe,pe,pe,pe,pe,pe,pe,pe,(fun _=>pag (b:=(zn a.Locals (zaa a) 16)) y y y y d y (pc (zaP a.Stack 0 16 y) y y y<|w)),pe,pe,pe,(pb y (pc (zaP a.Locals (zaa a) 16 y) y y y w)),(pb y (pc (zhD a y) y y y w)),pe,pe,pe,t⟩ ⟨false,h,zo []⟩)
     ·
      replace h:=bF d h
      exact zaf [] [22,21,20,19,18,17,16,15,14,13,12,11,10,9,8,7,6,5,4,3,2,1,0] [(2,bA false),(69,bA false),(68,.lit undef),(67,.lit undef),(66,bA false),(65,bA false),(64,.lit undef),(63,.lit undef),(62,bA false),(61,bA false),(60,.lit undef),(59,.lit undef),(58,bA false),(57,bA false),(56,.lit undef),(55,.lit undef),(54,.lit undef),(53,bA (zn a.Locals (zaa a) 16)),(52,bA (zn a.Locals (zaa a) 16)),(51,iA (zaa a)),(50,.agg (zh a)),(49,iA a.Locals),(48,.mpt 0 0 5)] 0 kz kz y kz (zhA ⟨pe,pe,pe,pe,pe,pe,pe,pe,pe,pe,pe,pe,pe,pe,pe,pe,pe,pe,(pb y (pc (zaP a.Locals (zaa a) 16 y) y y y w)),(pb y (pc (zhD a y) y y y w)),pe,pe,pe,t⟩ ⟨false,h,zo []⟩)
    ·
     rintro I h
     replace h:zdA I=some r:=h
     unfold zdA at h
     refine zj ?_
     obtain rfl:=sm h
     exact ⟨_,y,zz []⟩
def zkl(a:zc)(e:T0)(f:T0)(b:Bool)(g:T1)(h:List zt)(i:List zc):Option (Bool):=
  (cond (a.Abstract == b) ((zin a).bind fun c=>some c) (some false)).bind fun d=>some d
theorem zqc(c:zc)(d:T0)(e:T0)(f:Bool)(i:T1)(l:List zt)(m:List zc){r:Bool}(h:zkl c d e f i l m=some r):zG Tryz.prog 105 [.agg (zh c),.ipt 6 [[sA d,sA e,bA f,.isl 1 (map zf i),.isl 3 (map zJ l),.isl 10 (map zh m)]] 0 0] (bA r):=by
 refine zr Tryz.func105 y kz y y ?_
 unfold zkl at h
 refine rg y<|u<|bx 0 10 y y y y<|u<|asg y<|zb ?_
 obtain ⟨n,a,h⟩:=bs h
 refine rg y<|u<|fa ti y y y<|u<|ld ti y y<|u<|fa ti y y y<|u<|ld ti y y<|u<|beq ti y y y<|u<|mv y<|z7 (x:=n) (j:=5) 2 y y y y y gpn (fun b=>by replace a:=bT b a;obtain ⟨p,o,a⟩:=bs a;obtain rfl:=sm a;exact g y b<|ld ti y y<|g y b<|pc (zpn c o) y y y<|zb (eg [10,11] 2 y y y y)) (fun hb=>(sm (bF hb a)).symm)<|u<|asg y<|zb ?_
 refine zj ?_
 obtain rfl:=sm h
 exact ⟨_,y,zz []⟩
def zdU(a:zc):T0:=
  a.Name
theorem zms(a:zc){r:T0}(h:zdU a=r):zG Tryz.prog 104 [.agg (zh a)] (sA r):=by
 refine zr Tryz.func104 y kz y y ?_
 unfold zdU at h
 refine rg y<|u<|bx 0 10 y y y y<|u<|asg y<|zb ?_
 refine rg y<|u<|fa ti y y y<|u<|ld ti y y<|u<|asg y<|zb ?_
 refine zj ?_
 obtain rfl:=h
 exact ⟨_,y,zz []⟩
def zfF(c:zc)(d:T0)(e:T1)(f:T0)(g:Bool)(h:Bool)(i:Int)(j:Int)(l:List zp)(a:List z8)(b:List zaF):Bool:=
  ((zdU (zc.mk d e f g h i j l a b)) == (zdU c))
theorem zjG(c:zc)(d:T0)(e:T1)(f:T0)(g:Bool)(i:Bool)(j:Int)(l:Int)(m:List zp)(a:List z8)(b:List zaF){r:Bool}(h:zfF c d e f g i j l m a b=r):zG Tryz.prog 182 [.agg (zh c),.ipt 1 [[.fn (.func 104) [] []]] 0 0,.ipt 10 [[sA d,.isl 1 (map zf e),sA f,bA g,bA i,iA j,iA l,.isl 4 (map zu m),.isl 3 (map zL a),.isl 4 (map za9 b)]] 0 0] (bA r):=by
 refine zr Tryz.func182 y kz y y ?_
 unfold zfF at h
 refine rg y<|u<|bx 0 10 y y y y<|u<|asg y<|zb ?_
 refine rdA [(4,bA ((zdU (zc.mk d e f g i j l m a b)) == (zdU c)))] [] [] [7,6,5,4,3,2,1,0] [(4,bA ((zdU (zc.mk d e f g i j l m a b)) == (zdU c))),(11,bA ((zdU (zc.mk d e f g i j l m a b)) == (zdU c))),(10,sA (zdU c)),(9,.agg (zh c)),(8,.fn (.func 104) [] []),(7,sA (zdU (zc.mk d e f g i j l m a b))),(6,.agg [sA d,.isl 1 (map zf e),sA f,bA g,bA i,iA j,iA l,.isl 4 (map zu m),.isl 3 (map zL a),.isl 4 (map za9 b)]),(5,.fn (.func 104) [] [])] 0 (zhA ⟨pe,pe,(pb y (pc (zms c y) y y y w)),pe,pe,(pb y (pc (zms (zc.mk d e f g i j l m a b) y) y y y w)),pe,pe,t⟩ (zo [])) ?_
 refine zj ?_
 obtain rfl:=h
 exact ⟨_,y,zz []⟩
def za2:Option (Int):=
  some (-1)
def z2(b:List zc)(f:T0)(g:T1)(h:T0)(i:Bool)(j:Bool)(l:Int)(m:Int)(n:List zp)(c:List z8)(d:List zaF)(a:Int):Option (Sum (Int) (Sum (Unit) (Int))):=
  cond (decide (a<(length b:Int))) ((idx b a).bind fun e=>cond (zfF e f g h i j l m n c d) (some (.inr (.inr a))) (some (.inl (IntKind.i64.wrap (a+1))))) (some (.inr (.inl ())))
def zbg(d:List zc)(e:T0)(f:T1)(g:T0)(h:Bool)(i:Bool)(j:Int)(l:Int)(m:List zp)(a:List z8)(c:List zaF):Option (Int):=
  (zw (fun z=>z2 d e f g h i j l m a c z) 0).bind fun o=>zU o (fun b=>za2) some
theorem zfJ(d:List zc)(e:T0)(f:T1)(g:T0)(i:Bool)(j:Bool)(l:Int)(m:Int)(n:List zp)(a:List z8)(c:List zaF){r:Int}(h:zbg d e f g i j l m n a c=some r):zG Tryz.prog 244 [.isl 10 (map zh d),.fn (.func 182) [] [.ipt 1 [[.fn (.func 104) [] []]] 0 0,.ipt 10 [[sA e,.isl 1 (map zf f),sA g,bA i,bA j,iA l,iA m,.isl 4 (map zu n),.isl 3 (map zL a),.isl 4 (map za9 c)]] 0 0]] (iA r):=by
 refine zr Tryz.func244 y kz y y ?_
 unfold zbg at h
 refine rg y<|u<|asg y<|zb ?_
 refine zi ?_
 refine rg y<|u<|mv y<|u<|lnI ti y y<|u<|mv y<|zb ?_
 obtain ⟨o,ho,h⟩:=bs h
 refine zY (X:=Int) (B:=Unit) (R:=Int) (fun z=>[(0,.isl 10 (map zh d)),(1,.fn (.func 182) [] [.ipt 1 [[.fn (.func 104) [] []]] 0 0,.ipt 10 [[sA e,.isl 1 (map zf f),sA g,bA i,bA j,iA l,iA m,.isl 4 (map zu n),.isl 3 (map zL a),.isl 4 (map za9 c)]] 0 0]),(7,iA (length d:Int)),(8,iA z)]) (fun z=>[]) (fun b=>[]) (fun b=>[]) (fun r env st=>zaO Tryz.prog Tryz.f244 0 (iA r) [] env st) ho (zo []) ?_ ?_ ?_
 ·
  rintro s r h
  replace h:z2 d e f g i j l m n a c s=some r:=h
  unfold z2 at h
  refine rg y<|u<|lss ti y y<|zb ?_
  refine zi ?_
  refine ze y (fun p=>?_) (fun p=>?_)
  ·
   replace h:=bT p h
   refine zg ?_
   refine zi ?_
   refine zs ?_
   refine rg y<|u<|mv y<|u<|asg y<|zb ?_
   obtain ⟨v,x,h⟩:=bs h
   refine rg y<|u<|mv y<|u<|mv y<|u<|mv y<|u<|ixI ti y ti y y y x<|u<|ldI ti y (zl x).2.2 y<|u<|pc (zjG v e f g i j l m n a c y) y y y<|zb ?_
   refine ze y (fun q=>?_) (fun q=>?_)
   ·
    replace h:=bT q h
    refine rg y<|u<|mv y<|u<|asg y<|zb ?_
    refine zj ?_
    obtain rfl:=sm h
    exact ⟨_,y,_,y,zz []⟩
   ·
    replace h:=bF q h
    refine zg ?_
    refine rl y<|u<|add ti y y<|u<|mv y<|zb ?_
    obtain rfl:=sm h
    exact ⟨_,y,zo []⟩
  ·
   replace h:=bF p h
   refine zE ?_
   obtain rfl:=sm h
   exact ⟨y,_,y,zo []⟩
 ·
  rintro ⟨⟩ rfl
  replace h:za2=some r:=h
  unfold za2 at h
  refine zy ?_
  refine rg y<|u<|asg y<|zb ?_
  refine zj ?_
  obtain rfl:=sm h
  exact ⟨_,y,zz []⟩
 ·
  rintro r' rfl env st hp
  obtain rfl:=sm h
  exact hp
def zap(d:List zc)(e:T0)(f:T1)(g:T0)(h:Bool)(i:Bool)(j:Int)(l:Int)(m:List zp)(a:List z8)(b:List zaF):Option (Bool):=
  (zbg d e f g h i j l m a b).bind fun c=>some (decide (0≤c))
theorem ze1(c:List zc)(d:T0)(e:T1)(f:T0)(g:Bool)(i:Bool)(j:Int)(l:Int)(m:List zp)(a:List z8)(b:List zaF){r:Bool}(h:zap c d e f g i j l m a b=some r):zG Tryz.prog 181 [.isl 10 (map zh c),.fn (.func 182) [] [.ipt 1 [[.fn (.func 104) [] []]] 0 0,.ipt 10 [[sA d,.isl 1 (map zf e),sA f,bA g,bA i,iA j,iA l,.isl 4 (map zu m),.isl 3 (map zL a),.isl 4 (map za9 b)]] 0 0]] (bA r):=by
 refine zr Tryz.func181 y kz y y ?_
 unfold zap at h
 refine rg y<|u<|asg y<|zb ?_
 obtain ⟨o,n,h⟩:=bs h
 refine rg y<|u<|mv y<|u<|mv y<|u<|pc (zfJ c d e f g i j l m a b n) y y y<|u<|geq ti y y<|u<|asg y<|zb ?_
 refine zj ?_
 obtain rfl:=sm h
 exact ⟨_,y,zz []⟩
def zfb(a:List zc)(b:Int):Option (Bool):=
  some (decide ((length a:Int)≤b))
def zcY(c:List zc)(h:T0)(i:T0)(j:Bool)(l:T1)(m:List zt)(n:List zc)(b:Int):Option (Sum (Int) (Sum (Unit) (Bool))):=
  cond (decide (b<(length c:Int))) ((idx c b).bind fun a=>(zkl a h i j l m n).bind fun d=>(cond (!d) (some true) ((zkh c 0 b).bind fun e=>(zap e a.Name a.Params a.Ret a.Static a.Abstract a.Locals a.Stack a.Code a.Maps a.Traps).bind fun f=>some f)).bind fun g=>cond g (some (.inr (.inr false))) (some (.inl (IntKind.i64.wrap (b+1))))) (some (.inr (.inl ())))
def zdY(a:List zc)(c:Int)(d:T0)(e:T0)(f:Bool)(g:T1)(h:List zt)(i:List zc):Option (Bool):=
  (zw (fun z=>zcY a d e f g h i z) 0).bind fun o=>zU o (fun b=>zfb a c) some
theorem zkm(f:List zc)(l:Int)(m:T0)(n:T0)(p:Bool)(q:T1)(s:List zt)(v:List zc){r:Bool}(h:zdY f l m n p q s v=some r):zG Tryz.prog 103 [.isl 10 (map zh f),iA l,.fn (.func 104) [] [],.fn (.func 105) [] [.ipt 6 [[sA m,sA n,bA p,.isl 1 (map zf q),.isl 3 (map zJ s),.isl 10 (map zh v)]] 0 0]] (bA r):=by
 refine zr Tryz.func103 y kz y y ?_
 unfold zdY at h
 refine rg y<|u<|bx 0 1 y y y y<|u<|asg y<|zb ?_
 refine zi ?_
 refine rg y<|u<|mv y<|u<|lnI ti y y<|u<|mv y<|zb ?_
 obtain ⟨o,ho,h⟩:=bs h
 refine zY (X:=Int) (B:=Unit) (R:=Bool) (fun z=>[(0,.isl 10 (map zh f)),(1,iA l),(3,.fn (.func 105) [] [.ipt 6 [[sA m,sA n,bA p,.isl 1 (map zf q),.isl 3 (map zJ s),.isl 10 (map zh v)]] 0 0]),(6,.mpt 0 0 0),(11,.isl 10 (map zh f)),(12,iA (length f:Int)),(13,iA z)]) (fun z=>[some (1,[[.fn (.func 104) [] []]])]) (fun b=>[(0,.isl 10 (map zh f)),(1,iA l)]) (fun b=>[]) (fun r env st=>zaO Tryz.prog Tryz.f103 0 (bA r) [] env st) ho (zo [.old 0]) ?_ ?_ ?_
 ·
  rintro C r h
  replace h:zcY f m n p q s v C=some r:=h
  unfold zcY at h
  refine rg y<|u<|lss ti y y<|zb ?_
  refine zi ?_
  refine ze y (fun A=>?_) (fun A=>?_)
  ·
   replace h:=bT A h
   refine zg ?_
   refine zi ?_
   refine zs ?_
   obtain ⟨c,D,h⟩:=bs h
   refine rg y<|u<|mv y<|u<|ixI ti y ti y y y D<|u<|ldI ti y (zl D).2.2 y<|u<|al 1 ti y<|u<|asg y<|u<|sto ti y y y<|zb ?_
   obtain ⟨J,F,h⟩:=bs h
   obtain ⟨G,e,h⟩:=bs h
   refine rg y<|u<|mv y<|u<|ld ti y y<|u<|pc (zqc c m n p q s v F) y y y<|u<|nt y<|u<|mv y<|zcU (x:=G) (j:=4) 5 y y y y y gpn (fun d=>by replace e:=bF d e;obtain ⟨H,E,e⟩:=bs e;obtain ⟨K,I,e⟩:=bs e;obtain rfl:=sm e;exact g y d<|mv y<|g y d<|mv y<|g y d<|slI (a:=0) (b:=C) ti y ti y y y (zov y E) E<|g y d<|mf y y<|g y d<|pcs (ze1 H c.Name c.Params c.Ret c.Static c.Abstract c.Locals c.Stack c.Code c.Maps c.Traps I) y y (.cons (si y) (.cons (zh4 t ⟨(zcT y ⟨(si y),t⟩),(zcT y ⟨(si y),(si y),(si y),(si y),(si y),(si y),(si y),(si y),(si y),(si y),t⟩),t⟩) .nil)) zcn<|zb (eg [23,24,25,26,27] 5 y y y y)) (fun hb=>(sm (bT hb e)).symm)<|zb ?_
   refine ze y (fun i=>?_) (fun i=>?_)
   ·
    replace h:=bT i h
    refine rg y<|u<|asg y<|zb ?_
    refine zj ?_
    obtain rfl:=sm h
    exact ⟨_,y,_,y,zz []⟩
   ·
    replace h:=bF i h
    refine zg ?_
    refine rl y<|u<|add ti y y<|u<|mv y<|zb ?_
    obtain rfl:=sm h
    exact ⟨_,y,zo [.old 0]⟩
  ·
   replace h:=bF A h
   refine zE ?_
   obtain rfl:=sm h
   exact ⟨y,_,y,zo []⟩
 ·
  rintro ⟨⟩ rfl
  replace h:zfb f l=some r:=h
  unfold zfb at h
  refine zy ?_
  refine rg y<|u<|mv y<|u<|lnI ti y y<|u<|mv y<|u<|leq ti y y<|u<|asg y<|zb ?_
  refine zj ?_
  obtain rfl:=sm h
  exact ⟨_,y,zz []⟩
 ·
  rintro r' rfl env st hp
  obtain rfl:=sm h
  exact hp
def zen(a:T0):T0:=
  a
theorem znf(a:T0){r:T0}(h:zen a=r):zG Tryz.prog 109 [sA a] (sA r):=by
 refine zr Tryz.func109 y kz y y ?_
 unfold zen at h
 refine rg y<|u<|asg y<|zb ?_
 refine rg y<|u<|mv y<|u<|asg y<|zb ?_
 refine zj ?_
 obtain rfl:=h
 exact ⟨_,y,zz []⟩
def zhC(a:T0)(b:T0):Bool:=
  ((zen b) == (zen a))
theorem zll(a:T0)(b:T0){r:Bool}(h:zhC a b=r):zG Tryz.prog 192 [sA a,.ipt 1 [[.fn (.func 109) [] []]] 0 0,.ipt 1 [[sA b]] 0 0] (bA r):=by
 refine zr Tryz.func192 y kz y y ?_
 unfold zhC at h
 refine rg y<|u<|asg y<|zb ?_
 refine rdA [(4,bA ((zen b) == (zen a)))] [] [] [7,6,5,4,3,2,1,0] [(4,bA ((zen b) == (zen a))),(11,bA ((zen b) == (zen a))),(10,sA (zen a)),(9,sA a),(8,.fn (.func 109) [] []),(7,sA (zen b)),(6,sA b),(5,.fn (.func 109) [] [])] 0 (zhA ⟨pe,pe,(pb y (pc (znf a y) y y y w)),pe,pe,(pb y (pc (znf b y) y y y w)),pe,pe,t⟩ (zo [])) ?_
 refine zj ?_
 obtain rfl:=h
 exact ⟨_,y,zz []⟩
def zbr:Option (Int):=
  some (-1)
def zak(b:T1)(c:T0)(a:Int):Option (Sum (Int) (Sum (Unit) (Int))):=
  cond (decide (a<(length b:Int))) ((idx b a).bind fun d=>cond (zhC d c) (some (.inr (.inr a))) (some (.inl (IntKind.i64.wrap (a+1))))) (some (.inr (.inl ())))
def zbV(a:T1)(c:T0):Option (Int):=
  (zw (fun z=>zak a c z) 0).bind fun o=>zU o (fun b=>zbr) some
theorem zgS(a:T1)(c:T0){r:Int}(h:zbV a c=some r):zG Tryz.prog 110 [.isl 1 (map zf a),.fn (.func 192) [] [.ipt 1 [[.fn (.func 109) [] []]] 0 0,.ipt 1 [[sA c]] 0 0]] (iA r):=by
 refine zr Tryz.func110 y kz y y ?_
 unfold zbV at h
 refine rg y<|u<|asg y<|zb ?_
 refine zi ?_
 refine rg y<|u<|mv y<|u<|lnI ti y y<|u<|mv y<|zb ?_
 obtain ⟨o,ho,h⟩:=bs h
 refine zY (X:=Int) (B:=Unit) (R:=Int) (fun z=>[(0,.isl 1 (map zf a)),(1,.fn (.func 192) [] [.ipt 1 [[.fn (.func 109) [] []]] 0 0,.ipt 1 [[sA c]] 0 0]),(7,iA (length a:Int)),(8,iA z)]) (fun z=>[]) (fun b=>[]) (fun b=>[]) (fun r env st=>zaO Tryz.prog Tryz.f110 0 (iA r) [] env st) ho (zo []) ?_ ?_ ?_
 ·
  rintro g r h
  replace h:zak a c g=some r:=h
  unfold zak at h
  refine rg y<|u<|lss ti y y<|zb ?_
  refine zi ?_
  refine ze y (fun d=>?_) (fun d=>?_)
  ·
   replace h:=bT d h
   refine zg ?_
   refine zi ?_
   refine zs ?_
   refine rg y<|u<|mv y<|u<|asg y<|zb ?_
   obtain ⟨i,f,h⟩:=bs h
   refine rg y<|u<|mv y<|u<|mv y<|u<|mv y<|u<|ixI ti y ti y y y f<|u<|ldI ti y (zl f).2.2 y<|u<|pc (zll i c y) y y y<|zb ?_
   refine ze y (fun e=>?_) (fun e=>?_)
   ·
    replace h:=bT e h
    refine rg y<|u<|mv y<|u<|asg y<|zb ?_
    refine zj ?_
    obtain rfl:=sm h
    exact ⟨_,y,_,y,zz []⟩
   ·
    replace h:=bF e h
    refine zg ?_
    refine rl y<|u<|add ti y y<|u<|mv y<|zb ?_
    obtain rfl:=sm h
    exact ⟨_,y,zo []⟩
  ·
   replace h:=bF d h
   refine zE ?_
   obtain rfl:=sm h
   exact ⟨y,_,y,zo []⟩
 ·
  rintro ⟨⟩ rfl
  replace h:zbr=some r:=h
  unfold zbr at h
  refine zy ?_
  refine rg y<|u<|asg y<|zb ?_
  refine zj ?_
  obtain rfl:=sm h
  exact ⟨_,y,zz []⟩
 ·
  rintro r' rfl env st hp
  obtain rfl:=sm h
  exact hp
def zaJ(a:T1)(b:T0):Option (Bool):=
  (zbV a b).bind fun c=>some (decide (0≤c))
theorem zgf(a:T1)(b:T0){r:Bool}(h:zaJ a b=some r):zG Tryz.prog 56 [.isl 1 (map zf a),.fn (.func 192) [] [.ipt 1 [[.fn (.func 109) [] []]] 0 0,.ipt 1 [[sA b]] 0 0]] (bA r):=by
 refine zr Tryz.func56 y kz y y ?_
 unfold zaJ at h
 refine rg y<|u<|asg y<|zb ?_
 obtain ⟨d,c,h⟩:=bs h
 refine rg y<|u<|mv y<|u<|mv y<|u<|pc (zgS a b c) y y y<|u<|geq ti y y<|u<|asg y<|zb ?_
 refine zj ?_
 obtain rfl:=sm h
 exact ⟨_,y,zz []⟩
def zg8(a:T1)(b:Int):Option (Bool):=
  some (decide ((length a:Int)≤b))
def zec(c:T1)(a:Int):Option (Sum (Int) (Sum (Unit) (Bool))):=
  cond (decide (a<(length c:Int))) ((idx c a).bind fun b=>(zfB b).bind fun d=>(cond (!d) (some true) ((zkh c 0 a).bind fun e=>(zaJ e b).bind fun f=>some f)).bind fun g=>cond g (some (.inr (.inr false))) (some (.inl (IntKind.i64.wrap (a+1))))) (some (.inr (.inl ())))
def zfo(a:T1)(c:Int):Option (Bool):=
  (zw (fun z=>zec a z) 0).bind fun o=>zU o (fun b=>zg8 a c) some
theorem zmC(e:T1)(i:Int){r:Bool}(h:zfo e i=some r):zG Tryz.prog 108 [.isl 1 (map zf e),iA i,.fn (.func 109) [] [],.fn (.func 107) [] []] (bA r):=by
 refine zr Tryz.func108 y kz y y ?_
 unfold zfo at h
 refine rg y<|u<|bx 0 1 y y y y<|u<|asg y<|zb ?_
 refine zi ?_
 refine rg y<|u<|mv y<|u<|lnI ti y y<|u<|mv y<|zb ?_
 obtain ⟨o,ho,h⟩:=bs h
 refine zY (X:=Int) (B:=Unit) (R:=Bool) (fun z=>[(0,.isl 1 (map zf e)),(1,iA i),(3,.fn (.func 107) [] []),(6,.mpt 0 0 0),(11,.isl 1 (map zf e)),(12,iA (length e:Int)),(13,iA z)]) (fun z=>[some (1,[[.fn (.func 109) [] []]])]) (fun b=>[(0,.isl 1 (map zf e)),(1,iA i)]) (fun b=>[]) (fun r env st=>zaO Tryz.prog Tryz.f108 0 (bA r) [] env st) ho (zo [.old 0]) ?_ ?_ ?_
 ·
  rintro q r h
  replace h:zec e q=some r:=h
  unfold zec at h
  refine rg y<|u<|lss ti y y<|zb ?_
  refine zi ?_
  refine ze y (fun l=>?_) (fun l=>?_)
  ·
   replace h:=bT l h
   refine zg ?_
   refine zi ?_
   refine zs ?_
   obtain ⟨m,n,h⟩:=bs h
   refine rg y<|u<|mv y<|u<|ixI ti y ti y y y n<|u<|ldI ti y (zl n).2.2 y<|u<|al 1 ti y<|u<|asg y<|u<|sto ti y y y<|zb ?_
   obtain ⟨D,s,h⟩:=bs h
   obtain ⟨v,d,h⟩:=bs h
   refine rg y<|u<|mv y<|u<|ld ti y y<|u<|pc (zgp m s) y y y<|u<|nt y<|u<|mv y<|zcU (x:=v) (j:=4) 5 y y y y y gpn (fun c=>by replace d:=bF c d;obtain ⟨A,p,d⟩:=bs d;obtain ⟨E,C,d⟩:=bs d;obtain rfl:=sm d;exact g y c<|mv y<|g y c<|mv y<|g y c<|slI (a:=0) (b:=q) ti y ti y y y (zov y p) p<|g y c<|mf y y<|g y c<|pcs (zgf A m C) y y (.cons (si y) (.cons (zh4 t ⟨(zcT y ⟨(si y),t⟩),(zcT y ⟨(si y),t⟩),t⟩) .nil)) zcn<|zb (eg [23,24,25,26,27] 5 y y y y)) (fun hb=>(sm (bT hb d)).symm)<|zb ?_
   refine ze y (fun f=>?_) (fun f=>?_)
   ·
    replace h:=bT f h
    refine rg y<|u<|asg y<|zb ?_
    refine zj ?_
    obtain rfl:=sm h
    exact ⟨_,y,_,y,zz []⟩
   ·
    replace h:=bF f h
    refine zg ?_
    refine rl y<|u<|add ti y y<|u<|mv y<|zb ?_
    obtain rfl:=sm h
    exact ⟨_,y,zo [.old 0]⟩
  ·
   replace h:=bF l h
   refine zE ?_
   obtain rfl:=sm h
   exact ⟨y,_,y,zo []⟩
 ·
  rintro ⟨⟩ rfl
  replace h:zg8 e i=some r:=h
  unfold zg8 at h
  refine zy ?_
  refine rg y<|u<|mv y<|u<|lnI ti y y<|u<|mv y<|u<|leq ti y y<|u<|asg y<|zb ?_
  refine zj ?_
  obtain rfl:=sm h
  exact ⟨_,y,zz []⟩
 ·
  rintro r' rfl env st hp
  obtain rfl:=sm h
  exact hp
def zlj(a:za):Option (Bool):=
  cond (a.Interface&&((!(a.Super == [79,98,106,101,99,116]))||(decide (0<(length a.Fields:Int))))) (some false) ((zeb a.Fields 8).bind fun b=>(zdY a.Methods 8 a.Name a.Super a.Interface a.Impl a.Fields a.Methods).bind fun c=>(zfB a.Name).bind fun d=>(cond d ((zfB a.Super).bind fun e=>some e) (some false)).bind fun f=>(cond f ((zfo a.Impl 4).bind fun g=>some g) (some false)).bind fun h=>some ((h&&b)&&c))
theorem zsj(a:za){r:Bool}(h:zlj a=some r):zG Tryz.prog 55 [.agg (zd a)] (bA r):=by
 refine zr Tryz.func55 y kz y y ?_
 unfold zlj at h
 refine rg y<|u<|bx 0 6 y y y y<|u<|asg y<|zb ?_
 refine zi ?_
 refine rg y<|u<|fa ti y y y<|u<|ld ti y y<|u<|mv y<|z7 (j:=2) 9 y y y y y gpn (fun b=>g y b<|fa ti y y y<|g y b<|ld ti y y<|g y b<|sne ti y y<|g y b<|mv y<|zcU (j:=6) 4 y y y y y (gps y y b) (fun e=>g y e<|fa ti y y y<|g y e<|ld ti y y<|g y e<|lnI ti y y<|g y e<|gtr ti y y<|zb (egO [12,13,14,15] 4 e y y y y)) orT<|zb (egA [8,9,10,11,12,13,14,15,16] 5 b y y y y)) ze3<|zb ?_
 refine ze y (fun l=>?_) (fun l=>?_)
 ·
  replace h:=bT l h
  refine rg y<|u<|asg y<|zb ?_
  refine zj ?_
  obtain rfl:=sm h
  exact ⟨_,y,zz []⟩
 ·
  replace h:=bF l h
  refine zg ?_
  obtain ⟨B,p,h⟩:=bs h
  refine rg y<|u<|fa ti y y y<|u<|ld ti y y<|u<|pc (zk6 a.Fields 8 p) y y y<|u<|asg y<|zb ?_
  obtain ⟨C,q,h⟩:=bs h
  refine rg y<|u<|fa ti y y y<|u<|ld ti y y<|u<|mf y y<|u<|pcs (zkm a.Methods 8 a.Name a.Super a.Interface a.Impl a.Fields a.Methods q) y y (.cons (si y) (.cons (si y) (.cons (si y) (.cons (zh4 t ⟨(zcT y ⟨(si y),(si y),(si y),(si y),(si y),(si y),t⟩),t⟩) .nil)))) zcn<|u<|asg y<|zb ?_
  obtain ⟨D,s,h⟩:=bs h
  obtain ⟨v,i,h⟩:=bs h
  obtain ⟨z,c,h⟩:=bs h
  refine rg y<|u<|fa ti y y y<|u<|ld ti y y<|u<|pc (zgp a.Name s) y y y<|u<|mv y<|z7 (x:=v) (j:=3) 3 y y y y y gpn (fun f=>by replace i:=bT f i;obtain ⟨E,A,i⟩:=bs i;obtain rfl:=sm i;exact g y f<|fa ti y y y<|g y f<|ld ti y y<|g y f<|pc (zgp a.Super A) y y y<|zb (eg [29,30,31] 3 y y y y)) (fun hb=>(sm (bF hb i)).symm)<|u<|mv y<|z7 (x:=z) (j:=8) 3 y y y y y gpn (fun d=>by replace c:=bT d c;obtain ⟨F,o,c⟩:=bs c;obtain rfl:=sm c;exact g y d<|fa ti y y y<|g y d<|ld ti y y<|g y d<|pc (zmC a.Impl 4 o) y y y<|zb (eg [34,35,36] 3 y y y y)) (fun hb=>(sm (bF hb c)).symm)<|u<|mv y<|z7 (j:=13) 1 y y y y y gpn (fun m=>g y m<|mv y<|zb (egA [39] 1 m y y y y)) ze3<|u<|mv y<|z7 (j:=16) 1 y y y y y gpn (fun n=>g y n<|mv y<|zb (egA [42] 1 n y y y y)) ze3<|u<|asg y<|zb ?_
  refine zj ?_
  obtain rfl:=sm h
  exact ⟨_,y,zz []⟩
def zjF(a:zc)(b:T0):Bool:=
  (a.Name == b)
theorem zn0(a:zc)(b:T0){r:Bool}(h:zjF a b=r):zG Tryz.prog 268 [.agg (zh a),.ipt 1 [[sA b]] 0 0] (bA r):=by
 refine zr Tryz.func268 y kz y y ?_
 unfold zjF at h
 refine rg y<|u<|bx 0 10 y y y y<|u<|asg y<|zb ?_
 refine rg y<|u<|fa ti y y y<|u<|ld ti y y<|u<|ld ti y y<|u<|seq ti y y<|u<|asg y<|zb ?_
 refine zj ?_
 obtain rfl:=h
 exact ⟨_,y,zz []⟩
def zaE:Option (Int):=
  some (-1)
def zT(b:List zc)(c:T0)(a:Int):Option (Sum (Int) (Sum (Unit) (Int))):=
  cond (decide (a<(length b:Int))) ((idx b a).bind fun d=>cond (zjF d c) (some (.inr (.inr a))) (some (.inl (IntKind.i64.wrap (a+1))))) (some (.inr (.inl ())))
def za3(a:List zc)(c:T0):Option (Int):=
  (zw (fun z=>zT a c z) 0).bind fun o=>zU o (fun b=>zaE) some
theorem ze2(a:List zc)(c:T0){r:Int}(h:za3 a c=some r):zG Tryz.prog 244 [.isl 10 (map zh a),.fn (.func 268) [] [.ipt 1 [[sA c]] 0 0]] (iA r):=by
 refine zr Tryz.func244 y kz y y ?_
 unfold za3 at h
 refine rg y<|u<|asg y<|zb ?_
 refine zi ?_
 refine rg y<|u<|mv y<|u<|lnI ti y y<|u<|mv y<|zb ?_
 obtain ⟨o,ho,h⟩:=bs h
 refine zY (X:=Int) (B:=Unit) (R:=Int) (fun z=>[(0,.isl 10 (map zh a)),(1,.fn (.func 268) [] [.ipt 1 [[sA c]] 0 0]),(7,iA (length a:Int)),(8,iA z)]) (fun z=>[]) (fun b=>[]) (fun b=>[]) (fun r env st=>zaO Tryz.prog Tryz.f244 0 (iA r) [] env st) ho (zo []) ?_ ?_ ?_
 ·
  rintro g r h
  replace h:zT a c g=some r:=h
  unfold zT at h
  refine rg y<|u<|lss ti y y<|zb ?_
  refine zi ?_
  refine ze y (fun d=>?_) (fun d=>?_)
  ·
   replace h:=bT d h
   refine zg ?_
   refine zi ?_
   refine zs ?_
   refine rg y<|u<|mv y<|u<|asg y<|zb ?_
   obtain ⟨i,f,h⟩:=bs h
   refine rg y<|u<|mv y<|u<|mv y<|u<|mv y<|u<|ixI ti y ti y y y f<|u<|ldI ti y (zl f).2.2 y<|u<|pc (zn0 i c y) y y y<|zb ?_
   refine ze y (fun e=>?_) (fun e=>?_)
   ·
    replace h:=bT e h
    refine rg y<|u<|mv y<|u<|asg y<|zb ?_
    refine zj ?_
    obtain rfl:=sm h
    exact ⟨_,y,_,y,zz []⟩
   ·
    replace h:=bF e h
    refine zg ?_
    refine rl y<|u<|add ti y y<|u<|mv y<|zb ?_
    obtain rfl:=sm h
    exact ⟨_,y,zo []⟩
  ·
   replace h:=bF d h
   refine zE ?_
   obtain rfl:=sm h
   exact ⟨y,_,y,zo []⟩
 ·
  rintro ⟨⟩ rfl
  replace h:zaE=some r:=h
  unfold zaE at h
  refine zy ?_
  refine rg y<|u<|asg y<|zb ?_
  refine zj ?_
  obtain rfl:=sm h
  exact ⟨_,y,zz []⟩
 ·
  rintro r' rfl env st hp
  obtain rfl:=sm h
  exact hp
def zfR(a:za)(b:T0):Option (Int):=
  (za3 a.Methods b).bind fun c=>some c
theorem zlk(a:za)(b:T0){r:Int}(h:zfR a b=some r):zG Tryz.prog 232 [.agg (zd a),sA b] (iA r):=by
 refine zr Tryz.func232 y kz y y ?_
 unfold zfR at h
 refine rg y<|u<|bx 0 6 y y y y<|u<|bx 1 1 y y y y<|u<|asg y<|zb ?_
 obtain ⟨d,c,h⟩:=bs h
 refine rg y<|u<|fa ti y y y<|u<|ld ti y y<|u<|mf y y<|u<|pcs (ze2 a.Methods b c) y y (.cons (si y) (.cons (zh4 t ⟨(zcT y ⟨(si y),t⟩),t⟩) .nil)) zcn<|u<|asg y<|zb ?_
 refine zj ?_
 obtain rfl:=sm h
 exact ⟨_,y,zz []⟩
def zkk(a:zt)(b:T0):Bool:=
  (a.Name == b)
theorem zoM(a:zt)(b:T0){r:Bool}(h:zkk a b=r):zG Tryz.prog 269 [.agg (zJ a),.ipt 1 [[sA b]] 0 0] (bA r):=by
 refine zr Tryz.func269 y kz y y ?_
 unfold zkk at h
 refine rg y<|u<|bx 0 3 y y y y<|u<|asg y<|zb ?_
 refine rg y<|u<|fa ti y y y<|u<|ld ti y y<|u<|ld ti y y<|u<|seq ti y y<|u<|asg y<|zb ?_
 refine zj ?_
 obtain rfl:=h
 exact ⟨_,y,zz []⟩
def zaR:Option (Int):=
  some (-1)
def zX(b:List zt)(c:T0)(a:Int):Option (Sum (Int) (Sum (Unit) (Int))):=
  cond (decide (a<(length b:Int))) ((idx b a).bind fun d=>cond (zkk d c) (some (.inr (.inr a))) (some (.inl (IntKind.i64.wrap (a+1))))) (some (.inr (.inl ())))
def zbd(a:List zt)(c:T0):Option (Int):=
  (zw (fun z=>zX a c z) 0).bind fun o=>zU o (fun b=>zaR) some
theorem zfw(a:List zt)(c:T0){r:Int}(h:zbd a c=some r):zG Tryz.prog 241 [.isl 3 (map zJ a),.fn (.func 269) [] [.ipt 1 [[sA c]] 0 0]] (iA r):=by
 refine zr Tryz.func241 y kz y y ?_
 unfold zbd at h
 refine rg y<|u<|asg y<|zb ?_
 refine zi ?_
 refine rg y<|u<|mv y<|u<|lnI ti y y<|u<|mv y<|zb ?_
 obtain ⟨o,ho,h⟩:=bs h
 refine zY (X:=Int) (B:=Unit) (R:=Int) (fun z=>[(0,.isl 3 (map zJ a)),(1,.fn (.func 269) [] [.ipt 1 [[sA c]] 0 0]),(7,iA (length a:Int)),(8,iA z)]) (fun z=>[]) (fun b=>[]) (fun b=>[]) (fun r env st=>zaO Tryz.prog Tryz.f241 0 (iA r) [] env st) ho (zo []) ?_ ?_ ?_
 ·
  rintro g r h
  replace h:zX a c g=some r:=h
  unfold zX at h
  refine rg y<|u<|lss ti y y<|zb ?_
  refine zi ?_
  refine ze y (fun d=>?_) (fun d=>?_)
  ·
   replace h:=bT d h
   refine zg ?_
   refine zi ?_
   refine zs ?_
   refine rg y<|u<|mv y<|u<|asg y<|zb ?_
   obtain ⟨i,f,h⟩:=bs h
   refine rg y<|u<|mv y<|u<|mv y<|u<|mv y<|u<|ixI ti y ti y y y f<|u<|ldI ti y (zl f).2.2 y<|u<|pc (zoM i c y) y y y<|zb ?_
   refine ze y (fun e=>?_) (fun e=>?_)
   ·
    replace h:=bT e h
    refine rg y<|u<|mv y<|u<|asg y<|zb ?_
    refine zj ?_
    obtain rfl:=sm h
    exact ⟨_,y,_,y,zz []⟩
   ·
    replace h:=bF e h
    refine zg ?_
    refine rl y<|u<|add ti y y<|u<|mv y<|zb ?_
    obtain rfl:=sm h
    exact ⟨_,y,zo []⟩
  ·
   replace h:=bF d h
   refine zE ?_
   obtain rfl:=sm h
   exact ⟨y,_,y,zo []⟩
 ·
  rintro ⟨⟩ rfl
  replace h:zaR=some r:=h
  unfold zaR at h
  refine zy ?_
  refine rg y<|u<|asg y<|zb ?_
  refine zj ?_
  obtain rfl:=sm h
  exact ⟨_,y,zz []⟩
 ·
  rintro r' rfl env st hp
  obtain rfl:=sm h
  exact hp
def zi1(a:za)(b:T0):Option (Int):=
  (zbd a.Fields b).bind fun c=>some c
theorem zp9(a:za)(b:T0){r:Int}(h:zi1 a b=some r):zG Tryz.prog 233 [.agg (zd a),sA b] (iA r):=by
 refine zr Tryz.func233 y kz y y ?_
 unfold zi1 at h
 refine rg y<|u<|bx 0 6 y y y y<|u<|bx 1 1 y y y y<|u<|asg y<|zb ?_
 obtain ⟨d,c,h⟩:=bs h
 refine rg y<|u<|fa ti y y y<|u<|ld ti y y<|u<|mf y y<|u<|pcs (zfw a.Fields b c) y y (.cons (si y) (.cons (zh4 t ⟨(zcT y ⟨(si y),t⟩),t⟩) .nil)) zcn<|u<|asg y<|zb ?_
 refine zj ?_
 obtain rfl:=sm h
 exact ⟨_,y,zz []⟩
def ziS:Option (Int):=
  some (-1)
def zgv(b:za)(c:T0)(a:Int):Option (Sum (Int) (Sum (Unit) (Int))):=
  cond (decide (a<(length b.Fields:Int))) ((idx b.Fields a).bind fun d=>cond (d.Name == c) (some (.inr (.inr a))) (some (.inl (IntKind.i64.wrap (a+1))))) (some (.inr (.inl ())))
def ziX(a:za)(c:T0):Option (Int):=
  (zw (fun z=>zgv a c z) 0).bind fun o=>zU o (fun b=>ziS) some
theorem znC(d:za)(e:T0){r:Int}(h:ziX d e=some r):zG Tryz.prog 118 [.agg (zd d),sA e] (iA r):=by
 refine zr Tryz.func118 y kz y y ?_
 unfold ziX at h
 refine rg y<|u<|bx 0 6 y y y y<|u<|asg y<|zb ?_
 refine zi ?_
 refine rg y<|u<|asg y<|zb ?_
 obtain ⟨o,ho,h⟩:=bs h
 refine zY (X:=Int) (B:=Unit) (R:=Int) (fun z=>[(1,sA e),(2,.mpt 0 0 0),(5,iA z)]) (fun z=>[some (6,[(zd d)])]) (fun b=>[]) (fun b=>[]) (fun r env st=>zaO Tryz.prog Tryz.f118 0 (iA r) [] env st) ho (zo [.old 0]) ?_ ?_ ?_
 ·
  rintro g r h
  replace h:zgv d e g=some r:=h
  unfold zgv at h
  refine zi ?_
  refine rg y<|u<|mv y<|u<|fa ti y y y<|u<|ld ti y y<|u<|lnI ti y y<|u<|lss ti y y<|zb ?_
  refine ze y (fun a=>?_) (fun a=>?_)
  ·
   replace h:=bT a h
   refine zg ?_
   refine zi ?_
   refine zs ?_
   obtain ⟨i,f,h⟩:=bs h
   refine rg y<|u<|fa ti y y y<|u<|ld ti y y<|u<|mv y<|u<|ixI ti y ti y y y f<|u<|fa ti y y y<|u<|ldI ti y (zl f).2.2 y<|u<|mv y<|u<|seq ti y y<|zb ?_
   refine ze y (fun c=>?_) (fun c=>?_)
   ·
    replace h:=bT c h
    refine rg y<|u<|mv y<|u<|asg y<|zb ?_
    refine zj ?_
    obtain rfl:=sm h
    exact ⟨_,y,_,y,zz []⟩
   ·
    replace h:=bF c h
    refine zg ?_
    refine rl y<|u<|mv y<|u<|add ti y y<|u<|asg y<|zb ?_
    obtain rfl:=sm h
    exact ⟨_,y,zo [.old 0]⟩
  ·
   replace h:=bF a h
   refine zE ?_
   obtain rfl:=sm h
   exact ⟨y,_,y,zo []⟩
 ·
  rintro ⟨⟩ rfl
  replace h:ziS=some r:=h
  unfold ziS at h
  refine zy ?_
  refine rg y<|u<|asg y<|zb ?_
  refine zj ?_
  obtain rfl:=sm h
  exact ⟨_,y,zz []⟩
 ·
  rintro r' rfl env st hp
  obtain rfl:=sm h
  exact hp
def zil:Option (Int):=
  some (-1)
def zfD(b:za)(c:T0)(a:Int):Option (Sum (Int) (Sum (Unit) (Int))):=
  cond (decide (a<(length b.Methods:Int))) ((idx b.Methods a).bind fun d=>cond (d.Name == c) (some (.inr (.inr a))) (some (.inl (IntKind.i64.wrap (a+1))))) (some (.inr (.inl ())))
def zhe(a:za)(c:T0):Option (Int):=
  (zw (fun z=>zfD a c z) 0).bind fun o=>zU o (fun b=>zil) some
theorem zjK(d:za)(e:T0){r:Int}(h:zhe d e=some r):zG Tryz.prog 119 [.agg (zd d),sA e] (iA r):=by
 refine zr Tryz.func119 y kz y y ?_
 unfold zhe at h
 refine rg y<|u<|bx 0 6 y y y y<|u<|asg y<|zb ?_
 refine zi ?_
 refine rg y<|u<|asg y<|zb ?_
 obtain ⟨o,ho,h⟩:=bs h
 refine zY (X:=Int) (B:=Unit) (R:=Int) (fun z=>[(1,sA e),(2,.mpt 0 0 0),(5,iA z)]) (fun z=>[some (6,[(zd d)])]) (fun b=>[]) (fun b=>[]) (fun r env st=>zaO Tryz.prog Tryz.f119 0 (iA r) [] env st) ho (zo [.old 0]) ?_ ?_ ?_
 ·
  rintro g r h
  replace h:zfD d e g=some r:=h
  unfold zfD at h
  refine zi ?_
  refine rg y<|u<|mv y<|u<|fa ti y y y<|u<|ld ti y y<|u<|lnI ti y y<|u<|lss ti y y<|zb ?_
  refine ze y (fun a=>?_) (fun a=>?_)
  ·
   replace h:=bT a h
   refine zg ?_
   refine zi ?_
   refine zs ?_
   obtain ⟨i,f,h⟩:=bs h
   refine rg y<|u<|fa ti y y y<|u<|ld ti y y<|u<|mv y<|u<|ixI ti y ti y y y f<|u<|fa ti y y y<|u<|ldI ti y (zl f).2.2 y<|u<|mv y<|u<|seq ti y y<|zb ?_
   refine ze y (fun c=>?_) (fun c=>?_)
   ·
    replace h:=bT c h
    refine rg y<|u<|mv y<|u<|asg y<|zb ?_
    refine zj ?_
    obtain rfl:=sm h
    exact ⟨_,y,_,y,zz []⟩
   ·
    replace h:=bF c h
    refine zg ?_
    refine rl y<|u<|mv y<|u<|add ti y y<|u<|asg y<|zb ?_
    obtain rfl:=sm h
    exact ⟨_,y,zo [.old 0]⟩
  ·
   replace h:=bF a h
   refine zE ?_
   obtain rfl:=sm h
   exact ⟨y,_,y,zo []⟩
 ·
  rintro ⟨⟩ rfl
  replace h:zil=some r:=h
  unfold zil at h
  refine zy ?_
  refine rg y<|u<|asg y<|zb ?_
  refine zj ?_
  obtain rfl:=sm h
  exact ⟨_,y,zz []⟩
 ·
  rintro r' rfl env st hp
  obtain rfl:=sm h
  exact hp
def znE(a:T0):Option (Bool):=
  (cond (a == [86]) (some true) ((zfe a).bind fun b=>some b)).bind fun c=>some c
theorem ztX(c:T0){r:Bool}(h:znE c=some r):zG Tryz.prog 195 [sA c] (bA r):=by
 refine zr Tryz.func195 y kz y y ?_
 unfold znE at h
 refine rg y<|u<|asg y<|zb ?_
 obtain ⟨d,a,h⟩:=bs h
 refine rg y<|u<|mv y<|u<|seq ti y y<|u<|mv y<|zcU (x:=d) (j:=2) 2 y y y y y gpn (fun b=>by replace a:=bF b a;obtain ⟨f,e,a⟩:=bs a;obtain rfl:=sm a;exact g y b<|mv y<|g y b<|pc (zee c e) y y y<|zb (eg [6,7] 2 y y y y)) (fun hb=>(sm (bT hb a)).symm)<|u<|asg y<|zb ?_
 refine zj ?_
 obtain rfl:=sm h
 exact ⟨_,y,zz []⟩
def zlI:Option (Bool):=
  some true
def ze8(c:zc)(b:Int):Option (Sum (Int) (Sum (Unit) (Bool))):=
  cond (decide (b<(length c.Traps:Int))) ((idx c.Traps b).bind fun a=>(cond (((((decide (a.From<0))||(decide (a.To≤a.From)))||(decide ((length c.Code:Int)<a.To)))||(decide (a.At<0)))||(decide ((length c.Code:Int)≤a.At))) (some true) ((cond (!(a.C == [])) ((zfC a.C).bind fun d=>some (!d)) (some false)).bind fun e=>some e)).bind fun f=>cond f (some (.inr (.inr false))) (some (.inl (IntKind.i64.wrap (b+1))))) (some (.inr (.inl ())))
def zhu(a:zc):Option (Bool):=
  (zw (fun z=>ze8 a z) 0).bind fun o=>zU o (fun b=>zlI) some
def ze7(a:zc)(b:Int):Option (Sum (Int) (Sum (Unit) (Bool))):=
  cond (decide (b<(length a.Code:Int))) ((idx a.Code b).bind fun c=>(zjd c).bind fun d=>cond ((!d)||((zic c.Op)&&(decide ((length a.Code:Int)≤c.A)))) (some (.inr (.inr false))) (some (.inl (IntKind.i64.wrap (b+1))))) (some (.inr (.inl ())))
def zlH(a:zc):Option (Bool):=
  (cond ((decide ((length a.Code:Int)<1))||(decide (100<(length a.Code:Int)))) (some true) ((idx a.Code (IntKind.i64.wrap ((length a.Code:Int)-1))).bind fun c=>some (!(zhN c.Op)))).bind fun d=>cond (d||(decide (6<(length a.Traps:Int)))) (some false) ((zw (fun z=>ze7 a z) 0).bind fun o=>zU o (fun b=>zhu a) some)
theorem zsQ(f:zc){r:Bool}(h:zlH f=some r):zG Tryz.prog 196 [.agg (zh f)] (bA r):=by
 refine zr Tryz.func196 y kz y y ?_
 unfold zlH at h
 refine rg y<|u<|bx 0 10 y y y y<|u<|asg y<|zb ?_
 refine rg y<|u<|fa ti y y y<|u<|ld ti y y<|u<|lnI ti y y<|u<|asg y<|zb ?_
 refine zi ?_
 obtain ⟨U,G,h⟩:=bs h
 refine rg y<|u<|mv y<|u<|lss ti y y<|u<|mv y<|zcU (j:=2) 2 y y y y y gpn (fun H=>g y H<|mv y<|g y H<|gtr ti y y<|zb (egO [14,15] 2 H y y y y)) orT<|u<|mv y<|zcU (x:=U) (j:=6) 9 y y y y y gpn (fun a=>by replace G:=bF a G;obtain ⟨V,L,G⟩:=bs G;obtain rfl:=sm G;exact g y a<|fa ti y y y<|g y a<|ld ti y y<|g y a<|mv y<|g y a<|sub ti y y<|g y a<|ixI ti y ti y y y L<|g y a<|fa ti y y y<|g y a<|ldI ti y (zl L).2.2 y<|g y a<|pc (zoG V.Op y) y y y<|g y a<|nt y<|zb (eg [18,19,20,21,22,23,24,25,26] 9 y y y y)) (fun hb=>(sm (bT hb G)).symm)<|u<|mv y<|zcU (j:=17) 4 y y y y y gpn (fun v=>g y v<|fa ti y y y<|g y v<|ld ti y y<|g y v<|lnI ti y y<|g y v<|gtr ti y y<|zb (egO [29,30,31,32] 4 v y y y y)) orT<|zb ?_
 refine ze y (fun I=>?_) (fun I=>?_)
 ·
  replace h:=bT I h
  refine rg y<|u<|asg y<|zb ?_
  refine zj ?_
  obtain rfl:=sm h
  exact ⟨_,y,zz []⟩
 ·
  replace h:=bF I h
  refine zg ?_
  refine zi ?_
  refine rg y<|u<|asg y<|zb ?_
  obtain ⟨o,ho,h⟩:=bs h
  refine zY (X:=Int) (B:=Unit) (R:=Bool) (fun z=>[(1,.mpt 0 0 0),(3,iA (length f.Code:Int)),(4,iA z)]) (fun z=>[some (10,[(zh f)])]) (fun b=>[(1,.mpt 0 0 0),(3,iA (length f.Code:Int))]) (fun b=>[some (10,[(zh f)])]) (fun r env st=>zaO Tryz.prog Tryz.f196 0 (bA r) [] env st) ho (zo [.old 0]) ?_ ?_ ?_
  ·
   rintro W r h
   replace h:ze7 f W=some r:=h
   unfold ze7 at h
   refine zi ?_
   refine rg y<|u<|mv y<|u<|mv y<|u<|lss ti y y<|zb ?_
   refine ze y (fun A=>?_) (fun A=>?_)
   ·
    replace h:=bT A h
    refine zg ?_
    refine zi ?_
    refine zs ?_
    obtain ⟨M,J,h⟩:=bs h
    refine rg y<|u<|fa ti y y y<|u<|ld ti y y<|u<|mv y<|u<|ixI ti y ti y y y J<|u<|ldI ti y (zl J).2.2 y<|u<|al 1 ti y<|u<|sto ti y y y<|zb ?_
    obtain ⟨Z,N,h⟩:=bs h
    refine rg y<|u<|ld ti y y<|u<|pc (zqr M N) y y y<|u<|nt y<|u<|mv y<|zcU (j:=3) 9 y y y y y gpn (fun c=>g y c<|fa ti y y y<|g y c<|ld ti y y<|g y c<|pc (zkJ M.Op y) y y y<|g y c<|mv y<|z7 (j:=7) 4 y y y y y (gps y y c) (fun i=>g y i<|fa ti y y y<|g y i<|ld ti y y<|g y i<|mv y<|g y i<|geq ti y y<|zb (egA [52,53,54,55] 4 i y y y y)) ze3<|zb (egO [48,49,50,51,52,53,54,55,56] 5 c y y y y)) orT<|zb ?_
    refine ze y (fun D=>?_) (fun D=>?_)
    ·
     replace h:=bT D h
     refine rg y<|u<|asg y<|zb ?_
     refine zj ?_
     obtain rfl:=sm h
     exact ⟨_,y,_,y,zz []⟩
    ·
     replace h:=bF D h
     refine zg ?_
     refine rl y<|u<|mv y<|u<|add ti y y<|u<|asg y<|zb ?_
     obtain rfl:=sm h
     exact ⟨_,y,zo [.old 0]⟩
   ·
    replace h:=bF A h
    refine zE ?_
    obtain rfl:=sm h
    exact ⟨y,_,y,zo [.old 0]⟩
  ·
   rintro ⟨⟩ rfl
   replace h:zhu f=some r:=h
   unfold zhu at h
   refine zy ?_
   refine zi ?_
   refine rg y<|u<|asg y<|zb ?_
   obtain ⟨o,ho,h⟩:=bs h
   refine zY (X:=Int) (B:=Unit) (R:=Bool) (fun z=>[(1,.mpt 0 0 0),(3,iA (length f.Code:Int)),(6,iA z)]) (fun z=>[some (10,[(zh f)])]) (fun b=>[]) (fun b=>[]) (fun r env st=>zaO Tryz.prog Tryz.f196 0 (bA r) [] env st) ho (zo [.old 0]) ?_ ?_ ?_
   ·
    rintro O r h
    replace h:ze8 f O=some r:=h
    unfold ze8 at h
    refine zi ?_
    refine rg y<|u<|mv y<|u<|fa ti y y y<|u<|ld ti y y<|u<|lnI ti y y<|u<|lss ti y y<|zb ?_
    refine ze y (fun E=>?_) (fun E=>?_)
    ·
     replace h:=bT E h
     refine zg ?_
     refine zi ?_
     refine zs ?_
     obtain ⟨P,K,h⟩:=bs h
     refine rg y<|u<|fa ti y y y<|u<|ld ti y y<|u<|mv y<|u<|ixI ti y ti y y y K<|u<|ldI ti y (zl K).2.2 y<|u<|al 1 ti y<|u<|sto ti y y y<|zb ?_
     obtain ⟨Q,p,h⟩:=bs h
     refine rg y<|u<|fa ti y y y<|u<|ld ti y y<|u<|lss ti y y<|u<|mv y<|zcU (j:=3) 5 y y y y y gpn (fun d=>g y d<|fa ti y y y<|g y d<|ld ti y y<|g y d<|fa ti y y y<|g y d<|ld ti y y<|g y d<|geq ti y y<|zb (egO [74,75,76,77,78] 5 d y y y y)) orT<|u<|mv y<|zcU (j:=10) 4 y y y y y gpn (fun l=>g y l<|fa ti y y y<|g y l<|ld ti y y<|g y l<|mv y<|g y l<|gtr ti y y<|zb (egO [81,82,83,84] 4 l y y y y)) orT<|u<|mv y<|zcU (j:=16) 3 y y y y y gpn (fun s=>g y s<|fa ti y y y<|g y s<|ld ti y y<|g y s<|lss ti y y<|zb (egO [87,88,89] 3 s y y y y)) orT<|u<|mv y<|zcU (j:=21) 4 y y y y y gpn (fun m=>g y m<|fa ti y y y<|g y m<|ld ti y y<|g y m<|mv y<|g y m<|geq ti y y<|zb (egO [92,93,94,95] 4 m y y y y)) orT<|u<|mv y<|zcU (x:=Q) (j:=27) 9 y y y y y gpn (fun e=>by replace p:=bF e p;obtain ⟨S,q,p⟩:=bs p;obtain rfl:=sm p;exact g y e<|fa ti y y y<|g y e<|ld ti y y<|g y e<|sne ti y y<|g y e<|mv y<|z7 (x:=S) (j:=31) 4 y y y y y (gps y y e) (fun n=>by replace q:=bT n q;obtain ⟨Y,T,q⟩:=bs q;obtain rfl:=sm q;exact g y n<|fa ti y y y<|g y n<|ld ti y y<|g y n<|pc (zgu P.C T) y y y<|g y n<|nt y<|zb (eg [102,103,104,105] 4 y y y y)) (fun hb=>(sm (bF hb q)).symm)<|zb (eg [98,99,100,101,102,103,104,105,106] 5 y y y y)) (fun hb=>(sm (bT hb p)).symm)<|zb ?_
     refine ze y (fun F=>?_) (fun F=>?_)
     ·
      replace h:=bT F h
      refine rg y<|u<|asg y<|zb ?_
      refine zj ?_
      obtain rfl:=sm h
      exact ⟨_,y,_,y,zz []⟩
     ·
      replace h:=bF F h
      refine zg ?_
      refine rl y<|u<|mv y<|u<|add ti y y<|u<|asg y<|zb ?_
      obtain rfl:=sm h
      exact ⟨_,y,zo [.old 0]⟩
    ·
     replace h:=bF E h
     refine zE ?_
     obtain rfl:=sm h
     exact ⟨y,_,y,zo []⟩
   ·
    rintro ⟨⟩ rfl
    replace h:zlI=some r:=h
    unfold zlI at h
    refine zy ?_
    refine rg y<|u<|asg y<|zb ?_
    refine zj ?_
    obtain rfl:=sm h
    exact ⟨_,y,zz []⟩
   ·
    rintro r' rfl env st hp
    obtain rfl:=sm h
    exact hp
  ·
   rintro r' rfl env st hp
   obtain rfl:=sm h
   exact hp
def zkL:Option (Bool):=
  some true
def zkK(a:Int):Option (Sum (Int) (Sum (Unit) (Bool))):=
  some (.inl (IntKind.i64.wrap (a+1)))
def zeC(b:z8)(a:Int):Option (Sum (Int) (Sum (Unit) (Bool))):=
  cond (decide (a<(length b.Stack:Int))) ((idx b.Stack a).bind fun c=>(cond (!(c == [78])) ((zfe c).bind fun d=>some (!d)) (some false)).bind fun e=>cond e (some (.inr (.inr false))) (some (.inl (IntKind.i64.wrap (a+1))))) (some (.inr (.inl ())))
def ziw(a:Int)(c:z8):Option (Sum (Int) (Sum (Unit) (Bool))):=
  (zw (fun z=>zeC c z) 0).bind fun o=>zU o (fun b=>zkK a) (fun r=>some (.inr (.inr r)))
def zeB(c:z8)(a:Int):Option (Sum (Int) (Sum (Unit) (Bool))):=
  cond (decide (a<(length c.Locals:Int))) ((idx c.Locals a).bind fun b=>(cond ((!(b == [84]))&&(!(b == [78]))) ((zfe b).bind fun d=>some (!d)) (some false)).bind fun e=>cond e (some (.inr (.inr false))) (some (.inl (IntKind.i64.wrap (a+1))))) (some (.inr (.inl ())))
def zcq(c:Int)(a:z8)(d:Bool):Option (Sum (Int) (Sum (Unit) (Bool))):=
  cond d (some (.inr (.inr false))) ((zw (fun z=>zeB a z) 0).bind fun o=>zU o (fun b=>ziw c a) (fun r=>some (.inr (.inr r))))
def zeA(c:zc)(b:Int):Option (Sum (Int) (Sum (Unit) (Bool))):=
  cond (decide (b<(length c.Maps:Int))) ((idx c.Maps b).bind fun a=>cond (decide (a.At<0)) (zcq b a true) (cond (decide ((length c.Code:Int)≤a.At)) (zcq b a true) (cond (decide (0<b)) ((idx c.Maps (IntKind.i64.wrap (b-1))).bind fun d=>cond (decide (a.At≤d.At)) (zcq b a true) (cond (!((length a.Locals:Int) == c.Locals)) (zcq b a true) (zcq b a (decide (c.Stack<(length a.Stack:Int)))))) (cond (!((length a.Locals:Int) == c.Locals)) (zcq b a true) (zcq b a (decide (c.Stack<(length a.Stack:Int)))))))) (some (.inr (.inl ())))
def zlJ(a:zc):Option (Bool):=
  cond (decide (100<(length a.Maps:Int))) (some false) ((zw (fun z=>zeA a z) 0).bind fun o=>zU o (fun b=>zkL) some)
theorem zsS(c:zc){r:Bool}(h:zlJ c=some r):zG Tryz.prog 197 [.agg (zh c)] (bA r):=by
 refine zr Tryz.func197 y kz y y ?_
 unfold zlJ at h
 refine rg y<|u<|bx 0 10 y y y y<|u<|asg y<|zb ?_
 refine zi ?_
 refine rg y<|u<|fa ti y y y<|u<|ld ti y y<|u<|lnI ti y y<|u<|gtr ti y y<|zb ?_
 refine ze y (fun K=>?_) (fun K=>?_)
 ·
  replace h:=bT K h
  refine rg y<|u<|asg y<|zb ?_
  refine zj ?_
  obtain rfl:=sm h
  exact ⟨_,y,zz []⟩
 ·
  replace h:=bF K h
  refine zg ?_
  refine zi ?_
  refine rg y<|u<|asg y<|zb ?_
  obtain ⟨o,ho,h⟩:=bs h
  refine zY (X:=Int) (B:=Unit) (R:=Bool) (fun z=>[(1,.mpt 0 0 0),(3,iA z)]) (fun z=>[some (10,[(zh c)])]) (fun b=>[]) (fun b=>[]) (fun r env st=>zaO Tryz.prog Tryz.f197 0 (bA r) [] env st) ho (zo [.old 0]) ?_ ?_ ?_
  ·
   rintro d r h
   replace h:zeA c d=some r:=h
   unfold zeA at h
   refine zi ?_
   refine rg y<|u<|mv y<|u<|fa ti y y y<|u<|ld ti y y<|u<|lnI ti y y<|u<|lss ti y y<|zb ?_
   refine ze y (fun C=>?_) (fun C=>?_)
   ·
    replace h:=bT C h
    refine zg ?_
    refine zi ?_
    refine zs ?_
    obtain ⟨a,L,h⟩:=bs h
    refine rg y<|u<|fa ti y y y<|u<|ld ti y y<|u<|mv y<|u<|ixI ti y ti y y y L<|u<|ldI ti y (zl L).2.2 y<|u<|al 1 ti y<|u<|sto ti y y y<|zb ?_
    refine zi ?_
    refine zaX (X:=Bool) (fun z=>[(1,.mpt 0 0 0),(3,iA d),(4,.mpt 1 0 0),(67,bA z)]) (fun z=>[some (10,[(zh c)]),some (3,[(zL a)])]) (fun z=>zcq d a z=some r) ?_ ?_
    ·
     rcases bb (decide (a.At<0)) with i |i
     ·
      replace h:=bT i h
      exact zaf [] [42,41,40,39,38,37,36,35,34,33,32,31,30,29,28,27,26,25,24,23,22,21,20,19,18,17,16,15,14,13,12,11,10,9,8,7,6,5,4,3,2,1,0] [(67,bA true),(66,.lit undef),(65,.lit undef),(64,.lit undef),(63,.lit undef),(62,.lit undef),(61,.lit undef),(60,bA true),(59,bA true),(58,.lit undef),(57,.lit undef),(56,.lit undef),(55,.lit undef),(54,.lit undef),(53,.lit undef),(52,bA true),(51,bA true),(50,.lit undef),(49,.lit undef),(48,.lit undef),(47,.lit undef),(46,.lit undef),(45,.lit undef),(44,.lit undef),(43,.lit undef),(42,.lit undef),(41,.lit undef),(40,.lit undef),(39,.lit undef),(38,.lit undef),(37,.lit undef),(36,bA true),(35,bA true),(34,.lit undef),(33,.lit undef),(32,.lit undef),(31,.lit undef),(30,.lit undef),(29,.lit undef),(28,bA (decide (a.At<0))),(27,bA (decide (a.At<0))),(26,iA a.At),(25,.mpt 1 0 0)] 0 kz kz y kz (zh3 ⟨true,h,zo [.old 0,.old 1]⟩)
     ·
      replace h:=bF i h
      rcases bb (decide ((length c.Code:Int)≤a.At)) with D |D
      ·
       replace h:=bT D h
       exact zaf [] [42,41,40,39,38,37,36,35,34,33,32,31,30,29,28,27,26,25,24,23,22,21,20,19,18,17,16,15,14,13,12,11,10,9,8,7,6,5,4,3,2,1,0] [(67,bA true),(66,.lit undef),(65,.lit undef),(64,.lit undef),(63,.lit undef),(62,.lit undef),(61,.lit undef),(60,bA true),(59,bA true),(58,.lit undef),(57,.lit undef),(56,.lit undef),(55,.lit undef),(54,.lit undef),(53,.lit undef),(52,bA true),(51,bA true),(50,.lit undef),(49,.lit undef),(48,.lit undef),(47,.lit undef),(46,.lit undef),(45,.lit undef),(44,.lit undef),(43,.lit undef),(42,.lit undef),(41,.lit undef),(40,.lit undef),(39,.lit undef),(38,.lit undef),(37,.lit undef),(36,bA (decide ((length c.Code:Int)≤a.At))),(35,bA (decide ((length c.Code:Int)≤a.At))),(34,bA (decide ((length c.Code:Int)≤a.At))),(33,iA (length c.Code:Int)),(32,.isl 4 (map zu c.Code)),(31,.mpt 0 0 7),(30,iA a.At),(29,.mpt 1 0 0),(28,bA (decide (a.At<0))),(27,bA (decide (a.At<0))),(26,iA a.At),(25,.mpt 1 0 0)] 0 kz kz y kz (zhA ⟨pe,pe,pe,pe,pe,pe,pe,pe,pe,pe,pe,pe,pe,pe,pe,pe,pe,pe,pe,pe,pe,pe,pe,pe,pe,pe,pe,pe,pe,pe,pe,pe,pe,pe,(fun _=>pag (b:=(decide (a.At<0))) y y y y i y (lnI ti y y<|w)),pe,pe,pe,pe,pe,pe,pe,pe,t⟩ ⟨true,h,zo [.old 0,.old 1]⟩)
      ·
       replace h:=bF D h
       rcases bb (decide (0<d)) with f |f
       ·
        replace h:=bT f h
        obtain ⟨e,m,h⟩:=bs h
        rcases bb (decide (a.At≤e.At)) with l |l
        ·
         replace h:=bT l h
         exact zaf [] [42,41,40,39,38,37,36,35,34,33,32,31,30,29,28,27,26,25,24,23,22,21,20,19,18,17,16,15,14,13,12,11,10,9,8,7,6,5,4,3,2,1,0] [(67,bA true),(66,.lit undef),(65,.lit undef),(64,.lit undef),(63,.lit undef),(62,.lit undef),(61,.lit undef),(60,bA true),(59,bA true),(58,.lit undef),(57,.lit undef),(56,.lit undef),(55,.lit undef),(54,.lit undef),(53,.lit undef),(52,bA (decide (a.At≤e.At))),(51,bA (decide (a.At≤e.At))),(50,bA (decide (a.At≤e.At))),(49,bA (decide (a.At≤e.At))),(48,iA e.At),(47,.ipt 3 (map zL c.Maps) (Int.toNat (IntKind.i64.wrap (d-1))) 0),(46,.ipt 3 (map zL c.Maps) (Int.toNat (IntKind.i64.wrap (d-1))) 0),(45,iA (IntKind.i64.wrap (d-1))),(44,iA d),(43,.isl 3 (map zL c.Maps)),(42,.mpt 0 0 8),(41,iA a.At),(40,.mpt 1 0 0),(39,bA (decide (0<d))),(38,bA (decide (0<d))),(37,iA d),(36,bA (decide ((length c.Code:Int)≤a.At))),(35,bA (decide ((length c.Code:Int)≤a.At))),(34,bA (decide ((length c.Code:Int)≤a.At))),(33,iA (length c.Code:Int)),(32,.isl 4 (map zu c.Code)),(31,.mpt 0 0 7),(30,iA a.At),(29,.mpt 1 0 0),(28,bA (decide (a.At<0))),(27,bA (decide (a.At<0))),(26,iA a.At),(25,.mpt 1 0 0)] 0 kz kz y kz (zhA ⟨pe,pe,pe,pe,pe,pe,pe,pe,pe,pe,pe,pe,pe,pe,pe,pe,pe,pe,pe,(fun _=>pag (b:=(decide (0<d))) y y y y f y (ldI ti y (zl m).2.2 y<|w)),pe,(fun _=>pag (b:=(decide (0<d))) y y y y f y (ixI ti y ti y y y m<|w)),(fun _=>pag (b:=(decide (0<d))) y y y y f y (sub ti y y<|w)),pe,pe,pe,pe,pe,pe,pe,pe,pe,pe,pe,(fun _=>pag (b:=(decide (a.At<0))) y y y y i y (lnI ti y y<|w)),pe,pe,pe,pe,pe,pe,pe,pe,t⟩ ⟨true,h,zo [.old 0,.old 1]⟩)
        ·
         replace h:=bF l h
         rcases bb (!((length a.Locals:Int) == c.Locals)) with q |q
         ·
          replace h:=bT q h
          exact zaf [] [42,41,40,39,38,37,36,35,34,33,32,31,30,29,28,27,26,25,24,23,22,21,20,19,18,17,16,15,14,13,12,11,10,9,8,7,6,5,4,3,2,1,0] [(67,bA true),(66,.lit undef),(65,.lit undef),(64,.lit undef),(63,.lit undef),(62,.lit undef),(61,.lit undef),(60,bA (!((length a.Locals:Int) == c.Locals))),(59,bA (!((length a.Locals:Int) == c.Locals))),(58,bA (!((length a.Locals:Int) == c.Locals))),(57,iA c.Locals),(56,.mpt 0 0 5),(55,iA (length a.Locals:Int)),(54,.isl 1 (map zf a.Locals)),(53,.mpt 1 0 1),(52,bA (decide (a.At≤e.At))),(51,bA (decide (a.At≤e.At))),(50,bA (decide (a.At≤e.At))),(49,bA (decide (a.At≤e.At))),(48,iA e.At),(47,.ipt 3 (map zL c.Maps) (Int.toNat (IntKind.i64.wrap (d-1))) 0),(46,.ipt 3 (map zL c.Maps) (Int.toNat (IntKind.i64.wrap (d-1))) 0),(45,iA (IntKind.i64.wrap (d-1))),(44,iA d),(43,.isl 3 (map zL c.Maps)),(42,.mpt 0 0 8),(41,iA a.At),(40,.mpt 1 0 0),(39,bA (decide (0<d))),(38,bA (decide (0<d))),(37,iA d),(36,bA (decide ((length c.Code:Int)≤a.At))),(35,bA (decide ((length c.Code:Int)≤a.At))),(34,bA (decide ((length c.Code:Int)≤a.At))),(33,iA (length c.Code:Int)),(32,.isl 4 (map zu c.Code)),(31,.mpt 0 0 7),(30,iA a.At),(29,.mpt 1 0 0),(28,bA (decide (a.At<0))),(27,bA (decide (a.At<0))),(26,iA a.At),(25,.mpt 1 0 0)] 0 kz kz y kz (zhA ⟨pe,pe,pe,pe,pe,pe,pe,pe,pe,pe,pe,pe,(fun _=>pag (b:=(decide (a.At≤e.At))) y y y y l y (lnI ti y y<|w)),pe,pe,pe,pe,pe,pe,(fun _=>pag (b:=(decide (0<d))) y y y y f y (ldI ti y (zl m).2.2 y<|w)),pe,(fun _=>pag (b:=(decide (0<d))) y y y y f y (ixI ti y ti y y y m<|w)),(fun _=>pag (b:=(decide (0<d))) y y y y f y (sub ti y y<|w)),pe,pe,pe,pe,pe,pe,pe,pe,pe,pe,pe,(fun _=>pag (b:=(decide (a.At<0))) y y y y i y (lnI ti y y<|w)),pe,pe,pe,pe,pe,pe,pe,pe,t⟩ ⟨true,h,zo [.old 0,.old 1]⟩)
         ·
          replace h:=bF q h
          exact zaf [] [42,41,40,39,38,37,36,35,34,33,32,31,30,29,28,27,26,25,24,23,22,21,20,19,18,17,16,15,14,13,12,11,10,9,8,7,6,5,4,3,2,1,0] [(67,bA (decide (c.Stack<(length a.Stack:Int)))),(66,bA (decide (c.Stack<(length a.Stack:Int)))),(65,iA c.Stack),(64,.mpt 0 0 6),(63,iA (length a.Stack:Int)),(62,.isl 1 (map zf a.Stack)),(61,.mpt 1 0 2),(60,bA (!((length a.Locals:Int) == c.Locals))),(59,bA (!((length a.Locals:Int) == c.Locals))),(58,bA (!((length a.Locals:Int) == c.Locals))),(57,iA c.Locals),(56,.mpt 0 0 5),(55,iA (length a.Locals:Int)),(54,.isl 1 (map zf a.Locals)),(53,.mpt 1 0 1),(52,bA (decide (a.At≤e.At))),(51,bA (decide (a.At≤e.At))),(50,bA (decide (a.At≤e.At))),(49,bA (decide (a.At≤e.At))),(48,iA e.At),(47,.ipt 3 (map zL c.Maps) (Int.toNat (IntKind.i64.wrap (d-1))) 0),(46,.ipt 3 (map zL c.Maps) (Int.toNat (IntKind.i64.wrap (d-1))) 0),(45,iA (IntKind.i64.wrap (d-1))),(44,iA d),(43,.isl 3 (map zL c.Maps)),(42,.mpt 0 0 8),(41,iA a.At),(40,.mpt 1 0 0),(39,bA (decide (0<d))),(38,bA (decide (0<d))),(37,iA d),(36,bA (decide ((length c.Code:Int)≤a.At))),(35,bA (decide ((length c.Code:Int)≤a.At))),(34,bA (decide ((length c.Code:Int)≤a.At))),(33,iA (length c.Code:Int)),(32,.isl 4 (map zu c.Code)),(31,.mpt 0 0 7),(30,iA a.At),(29,.mpt 1 0 0),(28,bA (decide (a.At<0))),(27,bA (decide (a.At<0))),(26,iA a.At),(25,.mpt 1 0 0)] 0 kz kz y kz (zhA ⟨pe,pe,pe,pe,(fun _=>pag (b:=(!((length a.Locals:Int) == c.Locals))) y y y y q y (lnI ti y y<|w)),pe,pe,pe,pe,pe,pe,pe,(fun _=>pag (b:=(decide (a.At≤e.At))) y y y y l y (lnI ti y y<|w)),pe,pe,pe,pe,pe,pe,(fun _=>pag (b:=(decide (0<d))) y y y y f y (ldI ti y (zl m).2.2 y<|w)),pe,(fun _=>pag (b:=(decide (0<d))) y y y y f y (ixI ti y ti y y y m<|w)),(fun _=>pag (b:=(decide (0<d))) y y y y f y (sub ti y y<|w)),pe,pe,pe,pe,pe,pe,pe,pe,pe,pe,pe,(fun _=>pag (b:=(decide (a.At<0))) y y y y i y (lnI ti y y<|w)),pe,pe,pe,pe,pe,pe,pe,pe,t⟩ ⟨(decide (c.Stack<(length a.Stack:Int))),h,zo [.old 0,.old 1]⟩)
       ·
        replace h:=bF f h
        rcases bb (!((length a.Locals:Int) == c.Locals)) with s |s
        ·
         replace h:=bT s h
         exact zaf [] [42,41,40,39,38,37,36,35,34,33,32,31,30,29,28,27,26,25,24,23,22,21,20,19,18,17,16,15,14,13,12,11,10,9,8,7,6,5,4,3,2,1,0] [(67,bA true),(66,.lit undef),(65,.lit undef),(64,.lit undef),(63,.lit undef),(62,.lit undef),(61,.lit undef),(60,bA (!((length a.Locals:Int) == c.Locals))),(59,bA (!((length a.Locals:Int) == c.Locals))),(58,bA (!((length a.Locals:Int) == c.Locals))),(57,iA c.Locals),(56,.mpt 0 0 5),(55,iA (length a.Locals:Int)),(54,.isl 1 (map zf a.Locals)),(53,.mpt 1 0 1),(52,bA false),(51,bA false),(50,bA false),(49,.lit undef),(48,.lit undef),(47,.lit undef),(46,.lit undef),(45,.lit undef),(44,.lit undef),(43,.lit undef),(42,.lit undef),(41,.lit undef),(40,.lit undef),(39,bA (decide (0<d))),(38,bA (decide (0<d))),(37,iA d),(36,bA (decide ((length c.Code:Int)≤a.At))),(35,bA (decide ((length c.Code:Int)≤a.At))),(34,bA (decide ((length c.Code:Int)≤a.At))),(33,iA (length c.Code:Int)),(32,.isl 4 (map zu c.Code)),(31,.mpt 0 0 7),(30,iA a.At),(29,.mpt 1 0 0),(28,bA (decide (a.At<0))),(27,bA (decide (a.At<0))),(26,iA a.At),(25,.mpt 1 0 0)] 0 kz kz y kz (zhA ⟨pe,pe,pe,pe,pe,pe,pe,pe,pe,pe,pe,pe,(fun _=>pag (b:=false) y y y y y y (lnI ti y y<|w)),pe,pe,pe,pe,pe,pe,pe,pe,pe,pe,pe,pe,pe,pe,pe,pe,pe,pe,pe,pe,pe,(fun _=>pag (b:=(decide (a.At<0))) y y y y i y (lnI ti y y<|w)),pe,pe,pe,pe,pe,pe,pe,pe,t⟩ ⟨true,h,zo [.old 0,.old 1]⟩)
        ·
         replace h:=bF s h
         exact zaf [] [42,41,40,39,38,37,36,35,34,33,32,31,30,29,28,27,26,25,24,23,22,21,20,19,18,17,16,15,14,13,12,11,10,9,8,7,6,5,4,3,2,1,0] [(67,bA (decide (c.Stack<(length a.Stack:Int)))),(66,bA (decide (c.Stack<(length a.Stack:Int)))),(65,iA c.Stack),(64,.mpt 0 0 6),(63,iA (length a.Stack:Int)),(62,.isl 1 (map zf a.Stack)),(61,.mpt 1 0 2),(60,bA (!((length a.Locals:Int) == c.Locals))),(59,bA (!((length a.Locals:Int) == c.Locals))),(58,bA (!((length a.Locals:Int) == c.Locals))),(57,iA c.Locals),(56,.mpt 0 0 5),(55,iA (length a.Locals:Int)),(54,.isl 1 (map zf a.Locals)),(53,.mpt 1 0 1),(52,bA false),(51,bA false),(50,bA false),(49,.lit undef),(48,.lit undef),(47,.lit undef),(46,.lit undef),(45,.lit undef),(44,.lit undef),(43,.lit undef),(42,.lit undef),(41,.lit undef),(40,.lit undef),(39,bA (decide (0<d))),(38,bA (decide (0<d))),(37,iA d),(36,bA (decide ((length c.Code:Int)≤a.At))),(35,bA (decide ((length c.Code:Int)≤a.At))),(34,bA (decide ((length c.Code:Int)≤a.At))),(33,iA (length c.Code:Int)),(32,.isl 4 (map zu c.Code)),(31,.mpt 0 0 7),(30,iA a.At),(29,.mpt 1 0 0),(28,bA (decide (a.At<0))),(27,bA (decide (a.At<0))),(26,iA a.At),(25,.mpt 1 0 0)] 0 kz kz y kz (zhA ⟨pe,pe,pe,pe,(fun _=>pag (b:=(!((length a.Locals:Int) == c.Locals))) y y y y s y (lnI ti y y<|w)),pe,pe,pe,pe,pe,pe,pe,(fun _=>pag (b:=false) y y y y y y (lnI ti y y<|w)),pe,pe,pe,pe,pe,pe,pe,pe,pe,pe,pe,pe,pe,pe,pe,pe,pe,pe,pe,pe,pe,(fun _=>pag (b:=(decide (a.At<0))) y y y y i y (lnI ti y y<|w)),pe,pe,pe,pe,pe,pe,pe,pe,t⟩ ⟨(decide (c.Stack<(length a.Stack:Int))),h,zo [.old 0,.old 1]⟩)
    ·
     rintro O h
     replace h:zcq d a O=some r:=h
     unfold zcq at h
     refine ze y (fun E=>?_) (fun E=>?_)
     ·
      replace h:=bT E h
      refine rg y<|u<|asg y<|zb ?_
      refine zj ?_
      obtain rfl:=sm h
      exact ⟨_,y,_,y,zz []⟩
     ·
      replace h:=bF E h
      refine zg ?_
      refine zi ?_
      refine rg y<|u<|asg y<|zb ?_
      obtain ⟨o,ho,h⟩:=bs h
      refine zY (X:=Int) (B:=Unit) (R:=Bool) (fun z=>[(1,.mpt 0 0 0),(3,iA d),(4,.mpt 1 0 0),(5,iA z)]) (fun z=>[some (10,[(zh c)]),some (3,[(zL a)])]) (fun b=>[(1,.mpt 0 0 0),(3,iA d),(4,.mpt 1 0 0)]) (fun b=>[some (10,[(zh c)]),some (3,[(zL a)])]) (fun r env st=>zaO Tryz.prog Tryz.f197 0 (bA r) [] env st) ho (zo [.old 0,.old 1]) ?_ ?_ ?_
      ·
       rintro P r h
       replace h:zeB a P=some r:=h
       unfold zeB at h
       refine zi ?_
       refine rg y<|u<|mv y<|u<|fa ti y y y<|u<|ld ti y y<|u<|lnI ti y y<|u<|lss ti y y<|zb ?_
       refine ze y (fun F=>?_) (fun F=>?_)
       ·
        replace h:=bT F h
        refine zg ?_
        refine zi ?_
        refine zs ?_
        obtain ⟨Q,M,h⟩:=bs h
        refine rg y<|u<|fa ti y y y<|u<|ld ti y y<|u<|mv y<|u<|ixI ti y ti y y y M<|u<|ldI ti y (zl M).2.2 y<|u<|asg y<|zb ?_
        obtain ⟨S,n,h⟩:=bs h
        refine rg y<|u<|mv y<|u<|sne ti y y<|u<|mv y<|z7 (j:=2) 2 y y y y y gpn (fun G=>g y G<|mv y<|g y G<|sne ti y y<|zb (egA [83,84] 2 G y y y y)) ze3<|u<|mv y<|z7 (x:=S) (j:=6) 3 y y y y y gpn (fun v=>by replace n:=bT v n;obtain ⟨Z,T,n⟩:=bs n;obtain rfl:=sm n;exact g y v<|mv y<|g y v<|pc (zee Q T) y y y<|g y v<|nt y<|zb (eg [87,88,89] 3 y y y y)) (fun hb=>(sm (bF hb n)).symm)<|zb ?_
        refine ze y (fun H=>?_) (fun H=>?_)
        ·
         replace h:=bT H h
         refine rg y<|u<|asg y<|zb ?_
         refine zj ?_
         obtain rfl:=sm h
         exact ⟨_,y,_,y,zz []⟩
        ·
         replace h:=bF H h
         refine zg ?_
         refine rl y<|u<|mv y<|u<|add ti y y<|u<|asg y<|zb ?_
         obtain rfl:=sm h
         exact ⟨_,y,zo [.old 0,.old 1]⟩
       ·
        replace h:=bF F h
        refine zE ?_
        obtain rfl:=sm h
        exact ⟨y,_,y,zo [.old 0,.old 1]⟩
      ·
       rintro ⟨⟩ rfl
       replace h:ziw d a=some r:=h
       unfold ziw at h
       refine zy ?_
       refine rg y<|u<|asg y<|zb ?_
       obtain ⟨o,ho,h⟩:=bs h
       refine zY (X:=Int) (B:=Unit) (R:=Bool) (fun z=>[(1,.mpt 0 0 0),(3,iA d),(4,.mpt 1 0 0),(7,iA z)]) (fun z=>[some (10,[(zh c)]),some (3,[(zL a)])]) (fun b=>[(1,.mpt 0 0 0),(3,iA d)]) (fun b=>[some (10,[(zh c)])]) (fun r env st=>zaO Tryz.prog Tryz.f197 0 (bA r) [] env st) ho (zo [.old 0,.old 1]) ?_ ?_ ?_
       ·
        rintro U r h
        replace h:zeC a U=some r:=h
        unfold zeC at h
        refine zi ?_
        refine rg y<|u<|mv y<|u<|fa ti y y y<|u<|ld ti y y<|u<|lnI ti y y<|u<|lss ti y y<|zb ?_
        refine ze y (fun I=>?_) (fun I=>?_)
        ·
         replace h:=bT I h
         refine zg ?_
         refine zi ?_
         refine zs ?_
         obtain ⟨V,N,h⟩:=bs h
         refine rg y<|u<|fa ti y y y<|u<|ld ti y y<|u<|mv y<|u<|ixI ti y ti y y y N<|u<|ldI ti y (zl N).2.2 y<|u<|asg y<|zb ?_
         obtain ⟨W,p,h⟩:=bs h
         refine rg y<|u<|mv y<|u<|sne ti y y<|u<|mv y<|z7 (x:=W) (j:=2) 3 y y y y y gpn (fun A=>by replace p:=bT A p;obtain ⟨v40,Y,p⟩:=bs p;obtain rfl:=sm p;exact g y A<|mv y<|g y A<|pc (zee V Y) y y y<|g y A<|nt y<|zb (eg [106,107,108] 3 y y y y)) (fun hb=>(sm (bF hb p)).symm)<|zb ?_
         refine ze y (fun J=>?_) (fun J=>?_)
         ·
          replace h:=bT J h
          refine rg y<|u<|asg y<|zb ?_
          refine zj ?_
          obtain rfl:=sm h
          exact ⟨_,y,_,y,zz []⟩
         ·
          replace h:=bF J h
          refine zg ?_
          refine rl y<|u<|mv y<|u<|add ti y y<|u<|asg y<|zb ?_
          obtain rfl:=sm h
          exact ⟨_,y,zo [.old 0,.old 1]⟩
        ·
         replace h:=bF I h
         refine zE ?_
         obtain rfl:=sm h
         exact ⟨y,_,y,zo [.old 0]⟩
       ·
        rintro ⟨⟩ rfl
        replace h:zkK d=some r:=h
        unfold zkK at h
        refine zy ?_
        refine rl y<|u<|mv y<|u<|add ti y y<|u<|asg y<|zb ?_
        obtain rfl:=sm h
        exact ⟨_,y,zo [.old 0]⟩
       ·
        rintro r' rfl env st hp
        obtain rfl:=sm h
        exact ⟨_,y,hp⟩
      ·
       rintro r' rfl env st hp
       obtain rfl:=sm h
       exact ⟨_,y,hp⟩
   ·
    replace h:=bF C h
    refine zE ?_
    obtain rfl:=sm h
    exact ⟨y,_,y,zo []⟩
  ·
   rintro ⟨⟩ rfl
   replace h:zkL=some r:=h
   unfold zkL at h
   refine zy ?_
   refine rg y<|u<|asg y<|zb ?_
   refine zj ?_
   obtain rfl:=sm h
   exact ⟨_,y,zz []⟩
  ·
   rintro r' rfl env st hp
   obtain rfl:=sm h
   exact hp
def zdp(a:zc)(b:Int):Option (Bool):=
  cond ((((decide (a.Locals<b))||(decide (16<a.Locals)))||(decide (a.Stack<0)))||(decide (16<a.Stack))) (some false) ((zlH a).bind fun c=>(cond c ((zlJ a).bind fun d=>some d) (some false)).bind fun e=>some e)
def zeU(a:zc):Option (Bool):=
  cond a.Abstract (some (((((((!a.Static)&&(!(a.Name == [36,105,110,105,116])))&&(a.Locals == (0:Int)))&&(a.Stack == (0:Int)))&&((length a.Code:Int) == (0:Int)))&&((length a.Maps:Int) == (0:Int)))&&((length a.Traps:Int) == (0:Int)))) (cond ((a.Name == [36,105,110,105,116])&&(((!a.Static)||(decide (0<(length a.Params:Int))))||(!(a.Ret == [86])))) (some false) (cond (!a.Static) (zdp a (IntKind.i64.wrap ((length a.Params:Int)+1))) (zdp a (length a.Params:Int))))
def zcN(b:zc)(a:Int):Option (Sum (Int) (Sum (Unit) (Bool))):=
  cond (decide (a<(length b.Params:Int))) ((idx b.Params a).bind fun d=>(zfe d).bind fun c=>cond (!c) (some (.inr (.inr false))) (some (.inl (IntKind.i64.wrap (a+1))))) (some (.inr (.inl ())))
def zgO(a:zc):Option (Bool):=
  (zjf a.Name).bind fun c=>(cond ((!c)||(decide (6<(length a.Params:Int)))) (some true) ((znE a.Ret).bind fun d=>some (!d))).bind fun e=>cond e (some false) ((zw (fun z=>zcN a z) 0).bind fun o=>zU o (fun b=>zeU a) some)
theorem zoh(c:zc){r:Bool}(h:zgO c=some r):zG Tryz.prog 120 [.agg (zh c)] (bA r):=by
 refine zr Tryz.func120 y kz y y ?_
 unfold zgO at h
 refine rg y<|u<|bx 0 10 y y y y<|u<|asg y<|zb ?_
 refine zi ?_
 obtain ⟨v2,U,h⟩:=bs h
 obtain ⟨V,L,h⟩:=bs h
 refine rg y<|u<|fa ti y y y<|u<|ld ti y y<|u<|pc (zlG c.Name U) y y y<|u<|nt y<|u<|mv y<|zcU (j:=4) 4 y y y y y gpn (fun C=>g y C<|fa ti y y y<|g y C<|ld ti y y<|g y C<|lnI ti y y<|g y C<|gtr ti y y<|zb (egO [10,11,12,13] 4 C y y y y)) orT<|u<|mv y<|zcU (x:=V) (j:=10) 4 y y y y y gpn (fun D=>by replace L:=bF D L;obtain ⟨v3,W,L⟩:=bs L;obtain rfl:=sm L;exact g y D<|fa ti y y y<|g y D<|ld ti y y<|g y D<|pc (ztX c.Ret W) y y y<|g y D<|nt y<|zb (eg [16,17,18,19] 4 y y y y)) (fun hb=>(sm (bT hb L)).symm)<|zb ?_
 refine ze y (fun M=>?_) (fun M=>?_)
 ·
  replace h:=bT M h
  refine rg y<|u<|asg y<|zb ?_
  refine zj ?_
  obtain rfl:=sm h
  exact ⟨_,y,zz []⟩
 ·
  replace h:=bF M h
  refine zg ?_
  refine zi ?_
  refine rg y<|u<|asg y<|zb ?_
  obtain ⟨o,ho,h⟩:=bs h
  refine zY (X:=Int) (B:=Unit) (R:=Bool) (fun z=>[(1,.mpt 0 0 0),(3,iA z)]) (fun z=>[some (10,[(zh c)])]) (fun b=>[(1,.mpt 0 0 0)]) (fun b=>[some (10,[(zh c)])]) (fun r env st=>zaO Tryz.prog Tryz.f120 0 (bA r) [] env st) ho (zo [.old 0]) ?_ ?_ ?_
  ·
   rintro Y r h
   replace h:zcN c Y=some r:=h
   unfold zcN at h
   refine zi ?_
   refine rg y<|u<|mv y<|u<|fa ti y y y<|u<|ld ti y y<|u<|lnI ti y y<|u<|lss ti y y<|zb ?_
   refine ze y (fun E=>?_) (fun E=>?_)
   ·
    replace h:=bT E h
    refine zg ?_
    refine zi ?_
    refine zs ?_
    obtain ⟨Z,N,h⟩:=bs h
    obtain ⟨v10,O,h⟩:=bs h
    refine rg y<|u<|fa ti y y y<|u<|ld ti y y<|u<|mv y<|u<|ixI ti y ti y y y N<|u<|ldI ti y (zl N).2.2 y<|u<|pc (zee Z O) y y y<|u<|nt y<|zb ?_
    refine ze y (fun F=>?_) (fun F=>?_)
    ·
     replace h:=bT F h
     refine rg y<|u<|asg y<|zb ?_
     refine zj ?_
     obtain rfl:=sm h
     exact ⟨_,y,_,y,zz []⟩
    ·
     replace h:=bF F h
     refine zg ?_
     refine rl y<|u<|mv y<|u<|add ti y y<|u<|asg y<|zb ?_
     obtain rfl:=sm h
     exact ⟨_,y,zo [.old 0]⟩
   ·
    replace h:=bF E h
    refine zE ?_
    obtain rfl:=sm h
    exact ⟨y,_,y,zo [.old 0]⟩
  ·
   rintro ⟨⟩ rfl
   replace h:zeU c=some r:=h
   unfold zeU at h
   refine zy ?_
   refine zi ?_
   refine rg y<|u<|fa ti y y y<|u<|ld ti y y<|zb ?_
   refine ze y (fun G=>?_) (fun G=>?_)
   ·
    replace h:=bT G h
    refine rg y<|u<|fa ti y y y<|u<|ld ti y y<|u<|nt y<|u<|mv y<|z7 (j:=3) 3 y y y y y gpn (fun m=>g y m<|fa ti y y y<|g y m<|ld ti y y<|g y m<|sne ti y y<|zb (egA [41,42,43] 3 m y y y y)) ze3<|u<|mv y<|z7 (j:=8) 3 y y y y y gpn (fun n=>g y n<|fa ti y y y<|g y n<|ld ti y y<|g y n<|eql ti y y<|zb (egA [46,47,48] 3 n y y y y)) ze3<|u<|mv y<|z7 (j:=13) 3 y y y y y gpn (fun p=>g y p<|fa ti y y y<|g y p<|ld ti y y<|g y p<|eql ti y y<|zb (egA [51,52,53] 3 p y y y y)) ze3<|u<|mv y<|z7 (j:=18) 4 y y y y y gpn (fun d=>g y d<|fa ti y y y<|g y d<|ld ti y y<|g y d<|lnI ti y y<|g y d<|eql ti y y<|zb (egA [56,57,58,59] 4 d y y y y)) ze3<|u<|mv y<|z7 (j:=24) 4 y y y y y gpn (fun e=>g y e<|fa ti y y y<|g y e<|ld ti y y<|g y e<|lnI ti y y<|g y e<|eql ti y y<|zb (egA [62,63,64,65] 4 e y y y y)) ze3<|u<|mv y<|z7 (j:=30) 4 y y y y y gpn (fun f=>g y f<|fa ti y y y<|g y f<|ld ti y y<|g y f<|lnI ti y y<|g y f<|eql ti y y<|zb (egA [68,69,70,71] 4 f y y y y)) ze3<|u<|asg y<|zb ?_
    refine zj ?_
    obtain rfl:=sm h
    exact ⟨_,y,zz []⟩
   ·
    replace h:=bF G h
    refine zg ?_
    refine zi ?_
    refine rg y<|u<|fa ti y y y<|u<|ld ti y y<|u<|seq ti y y<|u<|mv y<|z7 (j:=3) 14 y y y y y gpn (fun a=>g y a<|fa ti y y y<|g y a<|ld ti y y<|g y a<|nt y<|g y a<|mv y<|zcU (j:=7) 4 y y y y y (gps y y a) (fun i=>g y i<|fa ti y y y<|g y i<|ld ti y y<|g y i<|lnI ti y y<|g y i<|gtr ti y y<|zb (egO [81,82,83,84] 4 i y y y y)) orT<|g y a<|mv y<|zcU (j:=13) 3 y y y y y (gps y y a) (fun q=>g y q<|fa ti y y y<|g y q<|ld ti y y<|g y q<|sne ti y y<|zb (egO [87,88,89] 3 q y y y y)) orT<|zb (egA [77,78,79,80,81,82,83,84,85,86,87,88,89,90] 7 a y y y y)) ze3<|zb ?_
    refine ze y (fun H=>?_) (fun H=>?_)
    ·
     replace h:=bT H h
     refine rg y<|u<|asg y<|zb ?_
     refine zj ?_
     obtain rfl:=sm h
     exact ⟨_,y,zz []⟩
    ·
     replace h:=bF H h
     refine zg ?_
     refine rg y<|u<|fa ti y y y<|u<|ld ti y y<|u<|lnI ti y y<|u<|asg y<|zb ?_
     refine zaX (X:=Int) (fun z=>[(1,.mpt 0 0 0),(4,iA z)]) (fun z=>[some (10,[(zh c)])]) (fun z=>zdp c z=some r) ?_ ?_
     ·
      refine rg y<|u<|fa ti y y y<|u<|ld ti y y<|u<|nt y<|zb ?_
      refine ze y (fun I=>?_) (fun I=>?_)
      ·
       replace h:=bT I h
       exact rl y<|u<|mv y<|u<|add ti y y<|u<|asg y<|zb (⟨(IntKind.i64.wrap ((length c.Params:Int)+1)),h,zo [.old 0]⟩)
      ·
       replace h:=bF I h
       refine zg ?_
       exact ⟨(length c.Params:Int),h,zo [.old 0]⟩
     ·
      rintro P h
      replace h:zdp c P=some r:=h
      unfold zdp at h
      refine zi ?_
      refine rg y<|u<|fa ti y y y<|u<|ld ti y y<|u<|mv y<|u<|lss ti y y<|u<|mv y<|zcU (j:=4) 3 y y y y y gpn (fun s=>g y s<|fa ti y y y<|g y s<|ld ti y y<|g y s<|gtr ti y y<|zb (egO [105,106,107] 3 s y y y y)) orT<|u<|mv y<|zcU (j:=9) 3 y y y y y gpn (fun v=>g y v<|fa ti y y y<|g y v<|ld ti y y<|g y v<|lss ti y y<|zb (egO [110,111,112] 3 v y y y y)) orT<|u<|mv y<|zcU (j:=14) 3 y y y y y gpn (fun A=>g y A<|fa ti y y y<|g y A<|ld ti y y<|g y A<|gtr ti y y<|zb (egO [115,116,117] 3 A y y y y)) orT<|zb ?_
      refine ze y (fun J=>?_) (fun J=>?_)
      ·
       replace h:=bT J h
       refine rg y<|u<|asg y<|zb ?_
       refine zj ?_
       obtain rfl:=sm h
       exact ⟨_,y,zz []⟩
      ·
       replace h:=bF J h
       refine zg ?_
       obtain ⟨v12,Q,h⟩:=bs h
       obtain ⟨S,l,h⟩:=bs h
       refine rg y<|u<|ld ti y y<|u<|pc (zsQ c Q) y y y<|u<|mv y<|z7 (x:=S) (j:=2) 2 y y y y y gpn (fun K=>by replace l:=bT K l;obtain ⟨v13,T,l⟩:=bs l;obtain rfl:=sm l;exact g y K<|ld ti y y<|g y K<|pc (zsS c T) y y y<|zb (eg [122,123] 2 y y y y)) (fun hb=>(sm (bF hb l)).symm)<|u<|asg y<|zb ?_
       refine zj ?_
       obtain rfl:=sm h
       exact ⟨_,y,zz []⟩
  ·
   rintro r' rfl env st hp
   obtain rfl:=sm h
   exact hp
def zid:Option (Bool):=
  some true
def zdf(c:za)(a:Int):Option (Sum (Int) (Sum (Unit) (Bool))):=
  cond (decide (a<(length c.Methods:Int))) ((idx c.Methods a).bind fun b=>(cond (!(b.Abstract == c.Interface)) (some true) ((zhe c b.Name).bind fun d=>some (!(d == a)))).bind fun e=>(cond e (some true) ((zgO b).bind fun f=>some (!f))).bind fun g=>cond g (some (.inr (.inr false))) (some (.inl (IntKind.i64.wrap (a+1))))) (some (.inr (.inl ())))
def zg6(a:za):Option (Bool):=
  (zw (fun z=>zdf a z) 0).bind fun o=>zU o (fun b=>zid) some
def zde(c:za)(a:Int):Option (Sum (Int) (Sum (Unit) (Bool))):=
  cond (decide (a<(length c.Fields:Int))) ((idx c.Fields a).bind fun b=>(zjf b.Name).bind fun d=>(cond ((!d)||(b.Name == [36,105,110,105,116])) (some true) ((zfe b.Type_).bind fun e=>some (!e))).bind fun f=>(cond f (some true) ((ziX c b.Name).bind fun g=>some (!(g == a)))).bind fun h=>cond h (some (.inr (.inr false))) (some (.inl (IntKind.i64.wrap (a+1))))) (some (.inr (.inl ())))
def zg5(a:za):Option (Bool):=
  (zw (fun z=>zde a z) 0).bind fun o=>zU o (fun b=>zg6 a) some
def ziF(a:Int):Option (Sum (Int) (Sum (Unit) (Bool))):=
  some (.inl (IntKind.i64.wrap (a+1)))
def zdc(c:za)(b:Int)(a:Int):Option (Sum (Int) (Sum (Unit) (Bool))):=
  cond (decide (a<b)) ((idx c.Impl a).bind fun d=>(idx c.Impl b).bind fun e=>cond (d == e) (some (.inr (.inr false))) (some (.inl (IntKind.i64.wrap (a+1))))) (some (.inr (.inl ())))
def zdd(c:za)(a:Int):Option (Sum (Int) (Sum (Unit) (Bool))):=
  cond (decide (a<(length c.Impl:Int))) ((idx c.Impl a).bind fun d=>(zfC d).bind fun e=>cond (!e) (some (.inr (.inr false))) ((zw (fun z=>zdc c a z) 0).bind fun o=>zU o (fun b=>ziF a) (fun r=>some (.inr (.inr r))))) (some (.inr (.inl ())))
def zhO(a:za):Option (Bool):=
  (zfC a.Name).bind fun c=>(cond (!c) (some true) ((zfC a.Super).bind fun d=>some (!d))).bind fun e=>cond (((e||(decide (4<(length a.Impl:Int))))||(decide (8<(length a.Fields:Int))))||(decide (8<(length a.Methods:Int)))) (some false) (cond (a.Interface&&((!(a.Super == [79,98,106,101,99,116]))||(decide (0<(length a.Fields:Int))))) (some false) ((zw (fun z=>zdd a z) 0).bind fun o=>zU o (fun b=>zg5 a) some))
theorem zoV(a:za){r:Bool}(h:zhO a=some r):zG Tryz.prog 69 [.agg (zd a)] (bA r):=by
 refine zr Tryz.func69 y kz y y ?_
 unfold zhO at h
 refine rg y<|u<|bx 0 6 y y y y<|u<|asg y<|zb ?_
 refine zi ?_
 obtain ⟨v2,q1,h⟩:=bs h
 obtain ⟨v4,P,h⟩:=bs h
 refine rg y<|u<|fa ti y y y<|u<|ld ti y y<|u<|pc (zgu a.Name q1) y y y<|u<|nt y<|u<|mv y<|zcU (x:=v4) (j:=4) 4 y y y y y gpn (fun A=>by replace P:=bF A P;obtain ⟨v3,q3,P⟩:=bs P;obtain rfl:=sm P;exact g y A<|fa ti y y y<|g y A<|ld ti y y<|g y A<|pc (zgu a.Super q3) y y y<|g y A<|nt y<|zb (eg [14,15,16,17] 4 y y y y)) (fun hb=>(sm (bT hb P)).symm)<|u<|mv y<|zcU (j:=10) 4 y y y y y gpn (fun C=>g y C<|fa ti y y y<|g y C<|ld ti y y<|g y C<|lnI ti y y<|g y C<|gtr ti y y<|zb (egO [20,21,22,23] 4 C y y y y)) orT<|u<|mv y<|zcU (j:=16) 4 y y y y y gpn (fun D=>g y D<|fa ti y y y<|g y D<|ld ti y y<|g y D<|lnI ti y y<|g y D<|gtr ti y y<|zb (egO [26,27,28,29] 4 D y y y y)) orT<|u<|mv y<|zcU (j:=22) 4 y y y y y gpn (fun E=>g y E<|fa ti y y y<|g y E<|ld ti y y<|g y E<|lnI ti y y<|g y E<|gtr ti y y<|zb (egO [32,33,34,35] 4 E y y y y)) orT<|zb ?_
 refine ze y (fun Q=>?_) (fun Q=>?_)
 ·
  replace h:=bT Q h
  refine rg y<|u<|asg y<|zb ?_
  refine zj ?_
  obtain rfl:=sm h
  exact ⟨_,y,zz []⟩
 ·
  replace h:=bF Q h
  refine zg ?_
  refine zi ?_
  refine rg y<|u<|fa ti y y y<|u<|ld ti y y<|u<|mv y<|z7 (j:=2) 9 y y y y y gpn (fun l=>g y l<|fa ti y y y<|g y l<|ld ti y y<|g y l<|sne ti y y<|g y l<|mv y<|zcU (j:=6) 4 y y y y y (gps y y l) (fun f=>g y f<|fa ti y y y<|g y f<|ld ti y y<|g y f<|lnI ti y y<|g y f<|gtr ti y y<|zb (egO [44,45,46,47] 4 f y y y y)) orT<|zb (egA [40,41,42,43,44,45,46,47,48] 5 l y y y y)) ze3<|zb ?_
  refine ze y (fun F=>?_) (fun F=>?_)
  ·
   replace h:=bT F h
   refine rg y<|u<|asg y<|zb ?_
   refine zj ?_
   obtain rfl:=sm h
   exact ⟨_,y,zz []⟩
  ·
   replace h:=bF F h
   refine zg ?_
   refine zi ?_
   refine rg y<|u<|asg y<|zb ?_
   obtain ⟨o,ho,h⟩:=bs h
   refine zY (X:=Int) (B:=Unit) (R:=Bool) (fun z=>[(1,.mpt 0 0 0),(3,iA z)]) (fun z=>[some (6,[(zd a)])]) (fun b=>[(1,.mpt 0 0 0)]) (fun b=>[some (6,[(zd a)])]) (fun r env st=>zaO Tryz.prog Tryz.f69 0 (bA r) [] env st) ho (zo [.old 0]) ?_ ?_ ?_
   ·
    rintro e r h
    replace h:zdd a e=some r:=h
    unfold zdd at h
    refine zi ?_
    refine rg y<|u<|mv y<|u<|fa ti y y y<|u<|ld ti y y<|u<|lnI ti y y<|u<|lss ti y y<|zb ?_
    refine ze y (fun G=>?_) (fun G=>?_)
    ·
     replace h:=bT G h
     refine zg ?_
     refine zi ?_
     refine zs ?_
     refine zi ?_
     obtain ⟨v15,V,h⟩:=bs h
     obtain ⟨v16,q26,h⟩:=bs h
     refine rg y<|u<|fa ti y y y<|u<|ld ti y y<|u<|mv y<|u<|ixI ti y ti y y y V<|u<|ldI ti y (zl V).2.2 y<|u<|pc (zgu v15 q26) y y y<|u<|nt y<|zb ?_
     refine ze y (fun H=>?_) (fun H=>?_)
     ·
      replace h:=bT H h
      refine rg y<|u<|asg y<|zb ?_
      refine zj ?_
      obtain rfl:=sm h
      exact ⟨_,y,_,y,zz []⟩
     ·
      replace h:=bF H h
      refine zg ?_
      refine rg y<|u<|asg y<|zb ?_
      obtain ⟨o,ho,h⟩:=bs h
      refine zY (X:=Int) (B:=Unit) (R:=Bool) (fun z=>[(1,.mpt 0 0 0),(3,iA e),(4,iA z)]) (fun z=>[some (6,[(zd a)])]) (fun b=>[(1,.mpt 0 0 0),(3,iA e)]) (fun b=>[some (6,[(zd a)])]) (fun r env st=>zaO Tryz.prog Tryz.f69 0 (bA r) [] env st) ho (zo [.old 0]) ?_ ?_ ?_
      ·
       rintro O r h
       replace h:zdc a e O=some r:=h
       unfold zdc at h
       refine zi ?_
       refine rg y<|u<|mv y<|u<|mv y<|u<|lss ti y y<|zb ?_
       refine ze y (fun I=>?_) (fun I=>?_)
       ·
        replace h:=bT I h
        refine zg ?_
        refine zi ?_
        refine zs ?_
        obtain ⟨S,W,h⟩:=bs h
        obtain ⟨T,Y,h⟩:=bs h
        refine rdA [(1,.mpt 0 0 0),(3,iA e),(4,iA O),(79,bA (S == T))] [some (6,[(zd a)])] [] [10,9,8,7,6,5,4,3,2,1,0] [(79,bA (S == T)),(78,sA T),(77,.ipt 1 (map zf a.Impl) (Int.toNat e) 0),(76,iA e),(75,.isl 1 (map zf a.Impl)),(74,.mpt 0 0 3),(73,sA S),(72,.ipt 1 (map zf a.Impl) (Int.toNat O) 0),(71,iA O),(70,.isl 1 (map zf a.Impl)),(69,.mpt 0 0 3)] 0 (zhA ⟨pe,(pb y (ldI ti y (zl Y).2.2 y w)),(pb y (ixI ti y ti y y y Y w)),pe,pe,pe,(pb y (ldI ti y (zl W).2.2 y w)),(pb y (ixI ti y ti y y y W w)),pe,pe,pe,t⟩ (zo [.old 0])) ?_
        refine ze y (fun J=>?_) (fun J=>?_)
        ·
         replace h:=bT J h
         refine rg y<|u<|asg y<|zb ?_
         refine zj ?_
         obtain rfl:=sm h
         exact ⟨_,y,_,y,zz []⟩
        ·
         replace h:=bF J h
         refine zg ?_
         refine rl y<|u<|mv y<|u<|add ti y y<|u<|asg y<|zb ?_
         obtain rfl:=sm h
         exact ⟨_,y,zo [.old 0]⟩
       ·
        replace h:=bF I h
        refine zE ?_
        obtain rfl:=sm h
        exact ⟨y,_,y,zo [.old 0]⟩
      ·
       rintro ⟨⟩ rfl
       replace h:ziF e=some r:=h
       unfold ziF at h
       refine zy ?_
       refine rl y<|u<|mv y<|u<|add ti y y<|u<|asg y<|zb ?_
       obtain rfl:=sm h
       exact ⟨_,y,zo [.old 0]⟩
      ·
       rintro r' rfl env st hp
       obtain rfl:=sm h
       exact ⟨_,y,hp⟩
    ·
     replace h:=bF G h
     refine zE ?_
     obtain rfl:=sm h
     exact ⟨y,_,y,zo [.old 0]⟩
   ·
    rintro ⟨⟩ rfl
    replace h:zg5 a=some r:=h
    unfold zg5 at h
    refine zy ?_
    refine zi ?_
    refine rg y<|u<|asg y<|zb ?_
    obtain ⟨o,ho,h⟩:=bs h
    refine zY (X:=Int) (B:=Unit) (R:=Bool) (fun z=>[(1,.mpt 0 0 0),(5,iA z)]) (fun z=>[some (6,[(zd a)])]) (fun b=>[(1,.mpt 0 0 0)]) (fun b=>[some (6,[(zd a)])]) (fun r env st=>zaO Tryz.prog Tryz.f69 0 (bA r) [] env st) ho (zo [.old 0]) ?_ ?_ ?_
    ·
     rintro v30 r h
     replace h:zde a v30=some r:=h
     unfold zde at h
     refine zi ?_
     refine rg y<|u<|mv y<|u<|fa ti y y y<|u<|ld ti y y<|u<|lnI ti y y<|u<|lss ti y y<|zb ?_
     refine ze y (fun K=>?_) (fun K=>?_)
     ·
      replace h:=bT K h
      refine zg ?_
      refine zi ?_
      refine zs ?_
      obtain ⟨U,Z,h⟩:=bs h
      refine rg y<|u<|fa ti y y y<|u<|ld ti y y<|u<|mv y<|u<|ixI ti y ti y y y Z<|u<|ldI ti y (zl Z).2.2 y<|u<|al 1 ti y<|u<|sto ti y y y<|zb ?_
      obtain ⟨v32,q49,h⟩:=bs h
      obtain ⟨v34,m,h⟩:=bs h
      obtain ⟨v36,n,h⟩:=bs h
      refine rg y<|u<|fa ti y y y<|u<|ld ti y y<|u<|pc (zlG U.Name q49) y y y<|u<|nt y<|u<|mv y<|zcU (j:=4) 3 y y y y y gpn (fun s=>g y s<|fa ti y y y<|g y s<|ld ti y y<|g y s<|seq ti y y<|zb (egO [97,98,99] 3 s y y y y)) orT<|u<|mv y<|zcU (x:=v34) (j:=9) 4 y y y y y gpn (fun i=>by replace m:=bF i m;obtain ⟨v33,q52,m⟩:=bs m;obtain rfl:=sm m;exact g y i<|fa ti y y y<|g y i<|ld ti y y<|g y i<|pc (zee U.Type_ q52) y y y<|g y i<|nt y<|zb (eg [102,103,104,105] 4 y y y y)) (fun hb=>(sm (bT hb m)).symm)<|u<|mv y<|zcU (x:=v36) (j:=15) 6 y y y y y gpn (fun c=>by replace n:=bF c n;obtain ⟨v35,q55,n⟩:=bs n;obtain rfl:=sm n;exact g y c<|ld ti y y<|g y c<|fa ti y y y<|g y c<|ld ti y y<|g y c<|pc (znC a U.Name q55) y y y<|g y c<|mv y<|g y c<|neq ti y y<|zb (eg [108,109,110,111,112,113] 6 y y y y)) (fun hb=>(sm (bT hb n)).symm)<|zb ?_
      refine ze y (fun L=>?_) (fun L=>?_)
      ·
       replace h:=bT L h
       refine rg y<|u<|asg y<|zb ?_
       refine zj ?_
       obtain rfl:=sm h
       exact ⟨_,y,_,y,zz []⟩
      ·
       replace h:=bF L h
       refine zg ?_
       refine rl y<|u<|mv y<|u<|add ti y y<|u<|asg y<|zb ?_
       obtain rfl:=sm h
       exact ⟨_,y,zo [.old 0]⟩
     ·
      replace h:=bF K h
      refine zE ?_
      obtain rfl:=sm h
      exact ⟨y,_,y,zo [.old 0]⟩
    ·
     rintro ⟨⟩ rfl
     replace h:zg6 a=some r:=h
     unfold zg6 at h
     refine zy ?_
     refine zi ?_
     refine rg y<|u<|asg y<|zb ?_
     obtain ⟨o,ho,h⟩:=bs h
     refine zY (X:=Int) (B:=Unit) (R:=Bool) (fun z=>[(1,.mpt 0 0 0),(7,iA z)]) (fun z=>[some (6,[(zd a)])]) (fun b=>[]) (fun b=>[]) (fun r env st=>zaO Tryz.prog Tryz.f69 0 (bA r) [] env st) ho (zo [.old 0]) ?_ ?_ ?_
     ·
      rintro v43 r h
      replace h:zdf a v43=some r:=h
      unfold zdf at h
      refine zi ?_
      refine rg y<|u<|mv y<|u<|fa ti y y y<|u<|ld ti y y<|u<|lnI ti y y<|u<|lss ti y y<|zb ?_
      refine ze y (fun M=>?_) (fun M=>?_)
      ·
       replace h:=bT M h
       refine zg ?_
       refine zi ?_
       refine zs ?_
       obtain ⟨v44,q68,h⟩:=bs h
       refine rg y<|u<|fa ti y y y<|u<|ld ti y y<|u<|mv y<|u<|ixI ti y ti y y y q68<|u<|ldI ti y (zl q68).2.2 y<|u<|al 1 ti y<|u<|sto ti y y y<|zb ?_
       obtain ⟨v46,p,h⟩:=bs h
       obtain ⟨v48,q,h⟩:=bs h
       refine rg y<|u<|fa ti y y y<|u<|ld ti y y<|u<|fa ti y y y<|u<|ld ti y y<|u<|bne ti y y y<|u<|mv y<|zcU (x:=v46) (j:=5) 6 y y y y y gpn (fun d=>by replace p:=bF d p;obtain ⟨v45,q70,p⟩:=bs p;obtain rfl:=sm p;exact g y d<|ld ti y y<|g y d<|fa ti y y y<|g y d<|ld ti y y<|g y d<|pc (zjK a v44.Name q70) y y y<|g y d<|mv y<|g y d<|neq ti y y<|zb (eg [133,134,135,136,137,138] 6 y y y y)) (fun hb=>(sm (bT hb p)).symm)<|u<|mv y<|zcU (x:=v48) (j:=13) 3 y y y y y gpn (fun v=>by replace q:=bF v q;obtain ⟨v47,q73,q⟩:=bs q;obtain rfl:=sm q;exact g y v<|ld ti y y<|g y v<|pc (zoh v44 q73) y y y<|g y v<|nt y<|zb (eg [141,142,143] 3 y y y y)) (fun hb=>(sm (bT hb q)).symm)<|zb ?_
       refine ze y (fun N=>?_) (fun N=>?_)
       ·
        replace h:=bT N h
        refine rg y<|u<|asg y<|zb ?_
        refine zj ?_
        obtain rfl:=sm h
        exact ⟨_,y,_,y,zz []⟩
       ·
        replace h:=bF N h
        refine zg ?_
        refine rl y<|u<|mv y<|u<|add ti y y<|u<|asg y<|zb ?_
        obtain rfl:=sm h
        exact ⟨_,y,zo [.old 0]⟩
      ·
       replace h:=bF M h
       refine zE ?_
       obtain rfl:=sm h
       exact ⟨y,_,y,zo []⟩
     ·
      rintro ⟨⟩ rfl
      replace h:zid=some r:=h
      unfold zid at h
      refine zy ?_
      refine rg y<|u<|asg y<|zb ?_
      refine zj ?_
      obtain rfl:=sm h
      exact ⟨_,y,zz []⟩
     ·
      rintro r' rfl env st hp
      obtain rfl:=sm h
      exact hp
    ·
     rintro r' rfl env st hp
     obtain rfl:=sm h
     exact hp
   ·
    rintro r' rfl env st hp
    obtain rfl:=sm h
    exact hp

end
end Go.Proofs.YtjbdfkapnffjnaaGreat
