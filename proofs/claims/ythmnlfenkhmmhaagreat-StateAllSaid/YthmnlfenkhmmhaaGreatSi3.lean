/- StateAll: for every input the law returns true, and each argument reads as it read before. No further condition. Part 3 of 8. -/
import Derived.Test.YthmnlfenkhmmhaaGreatSi2
namespace Go.Proofs.YthmnlfenkhmmhaaGreat
noncomputable section
set_option linter.unusedSimpArgs false
set_option linter.unusedVariables false
set_option maxRecDepth 100000
set_option maxHeartbeats 4000000
structure z3 where
  Op:Int
  A:Int
  C:List UInt8
  M:List UInt8
def zau (x:z3):List AV:=[iA x.Op,iA x.A,sA x.C,sA x.M]
def zbg (a:UInt8):Bool :=
  ((decide (97≤(a.toNat:Int)))&&(decide ((a.toNat:Int)≤122)))
theorem ziS (b:UInt8) {r:Bool} (h:zbg b=r):zF Tryz.prog 237 [.lit (.int .u8 (b.toNat:Int))] (bA r):=by
 refine zr Tryz.func237 j0 (by kernel_rfl) j0 j0 ?_
 unfold zbg at h
 refine rg j0<|u<|asg j0<|zc ?_
 refine rg j0<|u<|mv j0<|u<|geq ti5 j0 j0<|u<|mv j0<|z2 (j:=2) 2 j0 j0 j0 j0 j0 gpn (fun a=>g j0 a<|mv j0<|g j0 a<|leq ti5 j0 j0<|zc (egA [6,7] 2 a j0 j0 j0 j0)) zdb<|u<|asg j0<|zc ?_
 refine zp ?_
 obtain rfl:=h
 exact ⟨_,j0,[],ci j0,j0,j5,j0,j1⟩
def zbU (a:UInt8):Bool :=
  ((decide (65≤(a.toNat:Int)))&&(decide ((a.toNat:Int)≤90)))
theorem ziR (b:UInt8) {r:Bool} (h:zbU b=r):zF Tryz.prog 249 [.lit (.int .u8 (b.toNat:Int))] (bA r):=by
 refine zr Tryz.func249 j0 (by kernel_rfl) j0 j0 ?_
 unfold zbU at h
 refine rg j0<|u<|asg j0<|zc ?_
 refine rg j0<|u<|mv j0<|u<|geq ti5 j0 j0<|u<|mv j0<|z2 (j:=2) 2 j0 j0 j0 j0 j0 gpn (fun a=>g j0 a<|mv j0<|g j0 a<|leq ti5 j0 j0<|zc (egA [6,7] 2 a j0 j0 j0 j0)) zdb<|u<|asg j0<|zc ?_
 refine zp ?_
 obtain rfl:=h
 exact ⟨_,j0,[],ci j0,j0,j5,j0,j1⟩
def zej (a:UInt8):Bool :=
  ((decide (48≤(a.toNat:Int)))&&(decide ((a.toNat:Int)≤57)))
theorem zl2 (b:UInt8) {r:Bool} (h:zej b=r):zF Tryz.prog 322 [.lit (.int .u8 (b.toNat:Int))] (bA r):=by
 refine zr Tryz.func322 j0 (by kernel_rfl) j0 j0 ?_
 unfold zej at h
 refine rg j0<|u<|asg j0<|zc ?_
 refine rg j0<|u<|mv j0<|u<|geq ti5 j0 j0<|u<|mv j0<|z2 (j:=2) 2 j0 j0 j0 j0 j0 gpn (fun a=>g j0 a<|mv j0<|g j0 a<|leq ti5 j0 j0<|zc (egA [6,7] 2 a j0 j0 j0 j0)) zdb<|u<|asg j0<|zc ?_
 refine zp ?_
 obtain rfl:=h
 exact ⟨_,j0,[],ci j0,j0,j5,j0,j1⟩
def zhB (a:List UInt8):Option (Bool) :=
  some ((!(a == []))&&(decide ((List.length a:Int)≤8)))
def zcC (b:List UInt8) (a:Int):Option (Sum (Int) (Sum (Unit) (Bool))) :=
  cond (decide (a < (List.length b:Int))) ((idx b a).bind fun i=>(cond (!(zbg i)) ((idx b a).bind fun c=>some (!(zbU c))) (some false)).bind fun d=>(cond d ((idx b a).bind fun e=>some (!(zej e))) (some false)).bind fun f=>cond f (some (.inr (.inr false))) (some (.inl (IntKind.i64.wrap (a+1))))) (some (.inr (.inl ())))
def zgf (a:List UInt8):Option (Bool) :=
  (zu (fun z=>zcC a z) 0).bind fun o=>zQ o (fun b=>zhB a) some
theorem zjO (i:List UInt8) {r:Bool} (h:zgf i=some r):zF Tryz.prog 236 [sA i] (bA r):=by
 refine zr Tryz.func236 j0 (by kernel_rfl) j0 j0 ?_
 unfold zgf at h
 refine rg j0<|u<|asg j0<|zc ?_
 refine zl ?_
 refine rg j0<|u<|mv j0<|u<|lnS ti9 j0 j0<|u<|mv j0<|zc ?_
 obtain ⟨o,ho,h⟩:=bs h
 refine zU (X:=Int) (B:=Unit) (R:=Bool) (fun z=>[(0,sA i),(5,iA (List.length i:Int)),(6,iA z)]) (fun z=>[]) (fun b=>[(0,sA i)]) (fun b=>[]) (fun r env st=>zaD Tryz.prog Tryz.f236 0 (bA r) [] env st) ho ⟨[],ce j0 j0<|ce j0 j0<|ce j0 j0<|cn,j0,j5,j0,j1⟩ ?_ ?_ ?_
 ·
  rintro E r h
  replace h:zcC i E=some r:=h
  unfold zcC at h
  refine rg j0<|u<|lss ti3 j0 j0<|zc ?_
  refine zl ?_
  refine zk j0 (fun l=>?_) (fun l=>?_)
  ·
   replace h:=bT l h
   refine zm ?_
   refine zl ?_
   refine zs ?_
   refine rg j0<|u<|mv j0<|u<|asg j0<|zc ?_
   obtain ⟨F,n,h⟩:=bs h
   obtain ⟨p,d,h⟩:=bs h
   obtain ⟨q,e,h⟩:=bs h
   refine rg j0<|u<|mv j0<|u<|mv j0<|u<|ixS ti9 j0 j0 j0 n<|u<|pc (ziS F j0) j0 j0 j0<|u<|nt j0<|u<|mv j0<|z2 (x:=p) (j:=5) 5 j0 j0 j0 j0 j0 gpn (fun a=>by replace d:=bT a d; obtain ⟨s,v,d⟩:=bs d; obtain rfl:=sm d; exact g j0 a<|mv j0<|g j0 a<|mv j0<|g j0 a<|ixS ti9 j0 j0 j0 v<|g j0 a<|pc (ziR s j0) j0 j0 j0<|g j0 a<|nt j0<|zc (eg [15,16,17,18,19] 5 j0 j0 j0 j0)) (fun hb=>(sm (bF hb d)).symm)<|u<|mv j0<|z2 (x:=q) (j:=12) 5 j0 j0 j0 j0 j0 gpn (fun c=>by replace e:=bT c e; obtain ⟨C,D,e⟩:=bs e; obtain rfl:=sm e; exact g j0 c<|mv j0<|g j0 c<|mv j0<|g j0 c<|ixS ti9 j0 j0 j0 D<|g j0 c<|pc (zl2 C j0) j0 j0 j0<|g j0 c<|nt j0<|zc (eg [22,23,24,25,26] 5 j0 j0 j0 j0)) (fun hb=>(sm (bF hb e)).symm)<|zc ?_
   refine zk j0 (fun m=>?_) (fun m=>?_)
   ·
    replace h:=bT m h
    refine rg j0<|u<|asg j0<|zc ?_
    refine zp ?_
    obtain rfl:=sm h
    exact ⟨_,j0,_,j0,[],ci j0,j0,j5,j0,j1⟩
   ·
    replace h:=bF m h
    refine zm ?_
    refine rl j0<|u<|add ti3 j0 j0<|u<|mv j0<|zc ?_
    obtain rfl:=sm h
    exact ⟨_,j0,[],ce j0 j0<|ce j0 j0<|ce j0 j0<|cn,j0,j5,j0,j1⟩
  ·
   replace h:=bF l h
   refine zB ?_
   obtain rfl:=sm h
   exact ⟨j0,_,j0,[],ce j0 j0<|cn,j0,j5,j0,j1⟩
 ·
  rintro ⟨⟩ rfl
  replace h:zhB i=some r:=h
  unfold zhB at h
  refine zx ?_
  refine rg j0<|u<|mv j0<|u<|sne ti9 j0 j0<|u<|mv j0<|z2 (j:=2) 3 j0 j0 j0 j0 j0 gpn (fun f=>g j0 f<|mv j0<|g j0 f<|lnS ti9 j0 j0<|g j0 f<|leq ti3 j0 j0<|zc (egA [32,33,34] 3 f j0 j0 j0 j0)) zdb<|u<|asg j0<|zc ?_
  refine zp ?_
  obtain rfl:=sm h
  exact ⟨_,j0,[],ci j0,j0,j5,j0,j1⟩
 ·
  rintro r' rfl env st hp
  obtain rfl:=sm h
  exact hp
def zcT (a:List UInt8):Option (Bool) :=
  (zgf a).bind fun b=>(cond (b&&(decide (1 < (List.length a:Int)))) ((idx a 0).bind fun c=>some (zbU c)) (some false)).bind fun d=>some d
theorem zdF (d:List UInt8) {r:Bool} (h:zcT d=some r):zF Tryz.prog 158 [sA d] (bA r):=by
 refine zr Tryz.func158 j0 (by kernel_rfl) j0 j0 ?_
 unfold zcT at h
 refine rg j0<|u<|asg j0<|zc ?_
 obtain ⟨m,e,h⟩:=bs h
 obtain ⟨f,c,h⟩:=bs h
 refine rg j0<|u<|mv j0<|u<|pc (zjO d e) j0 j0 j0<|u<|mv j0<|z2 (j:=2) 3 j0 j0 j0 j0 j0 gpn (fun a=>g j0 a<|mv j0<|g j0 a<|lnS ti9 j0 j0<|g j0 a<|gtr ti3 j0 j0<|zc (egA [6,7,8] 3 a j0 j0 j0 j0)) zdb<|u<|mv j0<|z2 (x:=f) (j:=7) 3 j0 j0 j0 j0 j0 gpn (fun b=>by replace c:=bT b c; obtain ⟨i,l,c⟩:=bs c; obtain rfl:=sm c; exact g j0 b<|mv j0<|g j0 b<|ixS ti9 j0 j0 j0 l<|g j0 b<|pc (ziR i j0) j0 j0 j0<|zc (eg [11,12,13] 3 j0 j0 j0 j0)) (fun hb=>(sm (bF hb c)).symm)<|u<|asg j0<|zc ?_
 refine zp ?_
 obtain rfl:=sm h
 exact ⟨_,j0,[],ci j0,j0,j5,j0,j1⟩
def zfB (a:List UInt8):Option (Bool) :=
  (cond (a == [36,105,110,105,116]) (some true) ((zgf a).bind fun b=>(cond b ((idx a 0).bind fun c=>some (zbg c)) (some false)).bind fun d=>some d)).bind fun e=>some e
theorem zhA (e:List UInt8) {r:Bool} (h:zfB e=some r):zF Tryz.prog 152 [sA e] (bA r):=by
 refine zr Tryz.func152 j0 (by kernel_rfl) j0 j0 ?_
 unfold zfB at h
 refine rg j0<|u<|asg j0<|zc ?_
 obtain ⟨f,a,h⟩:=bs h
 refine rg j0<|u<|mv j0<|u<|seq ti9 j0 j0<|u<|mv j0<|zdf (x:=f) (j:=2) 7 j0 j0 j0 j0 j0 gpn (fun b=>by replace a:=bF b a; obtain ⟨o,i,a⟩:=bs a; obtain ⟨l,d,a⟩:=bs a; obtain rfl:=sm a; exact g j0 b<|mv j0<|g j0 b<|pc (zjO e i) j0 j0 j0<|g j0 b<|mv j0<|z2 (x:=l) (j:=5) 3 j0 j0 j0 j0 j0 (gps j0 j0 b) (fun c=>by replace d:=bT c d; obtain ⟨m,n,d⟩:=bs d; obtain rfl:=sm d; exact g j0 c<|mv j0<|g j0 c<|ixS ti9 j0 j0 j0 n<|g j0 c<|pc (ziS m j0) j0 j0 j0<|zc (eg [9,10,11] 3 j0 j0 j0 j0)) (fun hb=>(sm (bF hb d)).symm)<|zc (eg [6,7,8,9,10,11,12] 4 j0 j0 j0 j0)) (fun hb=>(sm (bT hb a)).symm)<|u<|asg j0<|zc ?_
 refine zp ?_
 obtain rfl:=sm h
 exact ⟨_,j0,[],ci j0,j0,j5,j0,j1⟩
def za0 (b:List UInt8) (a:List UInt8):Option (Bool) :=
  (cond (decide ((List.length a:Int)≤(List.length b:Int))) ((zkP b 0 (List.length a:Int)).bind fun c=>some (c == a)) (some false)).bind fun d=>some d
theorem zey (f:List UInt8) (e:List UInt8) {r:Bool} (h:za0 f e=some r):zF Tryz.prog 168 [sA f,sA e] (bA r):=by
 refine zr Tryz.func168 j0 (by kernel_rfl) j0 j0 ?_
 unfold za0 at h
 refine rg j0<|u<|asg j0<|zc ?_
 obtain ⟨l,d,h⟩:=bs h
 refine rg j0<|u<|mv j0<|u<|lnS ti9 j0 j0<|u<|mv j0<|u<|lnS ti9 j0 j0<|u<|geq ti3 j0 j0<|u<|mv j0<|z2 (x:=l) (j:=5) 6 j0 j0 j0 j0 j0 gpn (fun c=>by replace d:=bT c d; obtain ⟨m,i,d⟩:=bs d; obtain rfl:=sm d; exact g j0 c<|mv j0<|g j0 c<|mv j0<|g j0 c<|lnS ti9 j0 j0<|g j0 c<|slS (a:=0) (b:=(List.length e:Int)) ti9 j0 j0 j0 (zmR j0 i) i<|g j0 c<|mv j0<|g j0 c<|seq ti9 j0 j0<|zc (eg [11,12,13,14,15,16] 6 j0 j0 j0 j0)) (fun hb=>(sm (bF hb d)).symm)<|u<|asg j0<|zc ?_
 refine zp ?_
 obtain rfl:=sm h
 exact ⟨_,j0,[],ci j0,j0,j5,j0,j1⟩
def zaX (a:List UInt8) (b:List UInt8):Option ((List UInt8)) :=
  (za0 a b).bind fun c=>cond c ((zkP a (List.length b:Int) (List.length a:Int)).bind fun d=>some d) (some a)
theorem zeq (d:List UInt8) (e:List UInt8) {r:(List UInt8)} (h:zaX d e=some r):zF Tryz.prog 323 [sA d,sA e] (sA r):=by
 refine zr Tryz.func323 j0 (by kernel_rfl) j0 j0 ?_
 unfold zaX at h
 refine rg j0<|u<|asg j0<|zc ?_
 refine zl ?_
 obtain ⟨j,i,h⟩:=bs h
 refine rg j0<|u<|mv j0<|u<|mv j0<|u<|pc (zey d e i) j0 j0 j0<|zc ?_
 refine zk j0 (fun c=>?_) (fun c=>?_)
 ·
  replace h:=bT c h
  obtain ⟨l,f,h⟩:=bs h
  refine rg j0<|u<|mv j0<|u<|mv j0<|u<|lnS ti9 j0 j0<|u<|slS (a:=(List.length e:Int)) (b:=(List.length d:Int)) ti9 j0 j0 (zs4 j0 f) j0 f<|u<|asg j0<|zc ?_
  refine zp ?_
  obtain rfl:=sm h
  exact ⟨_,j0,[],ci j0,j0,j5,j0,j1⟩
 ·
  replace h:=bF c h
  refine zm ?_
  refine rg j0<|u<|mv j0<|u<|asg j0<|zc ?_
  refine zp ?_
  obtain rfl:=sm h
  exact ⟨_,j0,[],ci j0,j0,j5,j0,j1⟩
def zbG (a:List UInt8) (b:List UInt8):Option ((List UInt8)) :=
  (zaX a b).bind fun c=>some c
theorem ze8 (a:List UInt8) (b:List UInt8) {r:(List UInt8)} (h:zbG a b=some r):zF Tryz.prog 238 [sA a,sA b] (sA r):=by
 refine zr Tryz.func238 j0 (by kernel_rfl) j0 j0 ?_
 unfold zbG at h
 refine rg j0<|u<|asg j0<|zc ?_
 obtain ⟨d,c,h⟩:=bs h
 refine rg j0<|u<|mv j0<|u<|mv j0<|u<|pc (zeq a b c) j0 j0 j0<|u<|asg j0<|zc ?_
 refine zp ?_
 obtain rfl:=sm h
 exact ⟨_,j0,[],ci j0,j0,j5,j0,j1⟩
def zfX (b:List UInt8):Option (Bool) :=
  (zbG b [91]).bind fun c=>(zbG c [91]).bind fun a=>(cond (a == [73]) (some true) ((zcT a).bind fun d=>some d)).bind fun e=>some e
theorem zgN (c:List UInt8) {r:Bool} (h:zfX c=some r):zF Tryz.prog 153 [sA c] (bA r):=by
 refine zr Tryz.func153 j0 (by kernel_rfl) j0 j0 ?_
 unfold zfX at h
 refine rg j0<|u<|asg j0<|zc ?_
 obtain ⟨d,e,h⟩:=bs h
 obtain ⟨f,i,h⟩:=bs h
 refine rg j0<|u<|mv j0<|u<|pc (ze8 c [91] e) j0 j0 j0<|u<|pc (ze8 d [91] i) j0 j0 j0<|u<|asg j0<|zc ?_
 obtain ⟨l,a,h⟩:=bs h
 refine rg j0<|u<|mv j0<|u<|seq ti9 j0 j0<|u<|mv j0<|zdf (x:=l) (j:=2) 2 j0 j0 j0 j0 j0 gpn (fun b=>by replace a:=bF b a; obtain ⟨n,m,a⟩:=bs a; obtain rfl:=sm a; exact g j0 b<|mv j0<|g j0 b<|pc (zdF f m) j0 j0 j0<|zc (eg [9,10] 2 j0 j0 j0 j0)) (fun hb=>(sm (bT hb a)).symm)<|u<|asg j0<|zc ?_
 refine zp ?_
 obtain rfl:=sm h
 exact ⟨_,j0,[],ci j0,j0,j5,j0,j1⟩
def zgO (a:List UInt8):Option (Bool) :=
  (cond (!(a == [73])) ((zfX a).bind fun b=>some b) (some false)).bind fun c=>some c
theorem zis (c:List UInt8) {r:Bool} (h:zgO c=some r):zF Tryz.prog 107 [sA c] (bA r):=by
 refine zr Tryz.func107 j0 (by kernel_rfl) j0 j0 ?_
 unfold zgO at h
 refine rg j0<|u<|asg j0<|zc ?_
 obtain ⟨d,a,h⟩:=bs h
 refine rg j0<|u<|mv j0<|u<|sne ti9 j0 j0<|u<|mv j0<|z2 (x:=d) (j:=2) 2 j0 j0 j0 j0 j0 gpn (fun b=>by replace a:=bT b a; obtain ⟨f,e,a⟩:=bs a; obtain rfl:=sm a; exact g j0 b<|mv j0<|g j0 b<|pc (zgN c e) j0 j0 j0<|zc (eg [6,7] 2 j0 j0 j0 j0)) (fun hb=>(sm (bF hb a)).symm)<|u<|asg j0<|zc ?_
 refine zp ?_
 obtain rfl:=sm h
 exact ⟨_,j0,[],ci j0,j0,j5,j0,j1⟩
def zcX (a:Int) (b:Int) (c:Int):Bool :=
  ((decide (b≤a))&&(decide (a≤c)))
theorem zdH (b:Int) (c:Int) (d:Int) {r:Bool} (h:zcX b c d=r):zF Tryz.prog 288 [iA b,iA c,iA d] (bA r):=by
 refine zr Tryz.func288 j0 (by kernel_rfl) j0 j0 ?_
 unfold zcX at h
 refine rg j0<|u<|asg j0<|zc ?_
 refine rg j0<|u<|mv j0<|u<|mv j0<|u<|geq ti3 j0 j0<|u<|mv j0<|z2 (j:=3) 3 j0 j0 j0 j0 j0 gpn (fun a=>g j0 a<|mv j0<|g j0 a<|mv j0<|g j0 a<|leq ti3 j0 j0<|zc (egA [11,12,13] 3 a j0 j0 j0 j0)) zdb<|u<|asg j0<|zc ?_
 refine zp ?_
 obtain rfl:=h
 exact ⟨_,j0,[],ci j0,j0,j5,j0,j1⟩
def zh0 (a:Int):Bool :=
  (zcX a 1 61)
theorem zog (a:Int) {r:Bool} (h:zh0 a=r):zF Tryz.prog 360 [iA a] (bA r):=by
 refine zr Tryz.func360 j0 (by kernel_rfl) j0 j0 ?_
 unfold zh0 at h
 refine rg j0<|u<|asg j0<|zc ?_
 refine rg j0<|u<|mv j0<|u<|pc (zdH a 1 61 j0) j0 j0 j0<|u<|asg j0<|zc ?_
 refine zp ?_
 obtain rfl:=h
 exact ⟨_,j0,[],ci j0,j0,j5,j0,j1⟩
def zgU (a:Int):Bool :=
  (zcX a 20 36)
theorem zkB (a:Int) {r:Bool} (h:zgU a=r):zF Tryz.prog 201 [iA a] (bA r):=by
 refine zr Tryz.func201 j0 (by kernel_rfl) j0 j0 ?_
 unfold zgU at h
 refine rg j0<|u<|asg j0<|zc ?_
 refine rg j0<|u<|mv j0<|u<|pc (zdH a 20 36 j0) j0 j0 j0<|u<|asg j0<|zc ?_
 refine zp ?_
 obtain rfl:=h
 exact ⟨_,j0,[],ci j0,j0,j5,j0,j1⟩
def zix (a:Int) (b:Int):Bool :=
  cond (a == (1:Int)) ((zcX b (-2147483648) 2147483647)) (cond ((a == (3:Int))||(a == (4:Int))) ((zcX b 0 15)) (cond (zgU a) ((zcX b 0 99)) ((b == (0:Int)))))
theorem zpU (f:Int) (a:Int) {r:Bool} (h:zix f a=r):zF Tryz.prog 361 [iA f,iA a] (bA r):=by
 refine zr Tryz.func361 j0 (by kernel_rfl) j0 j0 ?_
 unfold zix at h
 refine rg j0<|u<|asg j0<|zc ?_
 refine zl ?_
 refine zs ?_
 refine rg j0<|u<|mv j0<|u<|eql ti3 j0 j0<|u<|asg j0<|zc ?_
 refine zk j0 (fun b=>?_) (fun b=>?_)
 ·
  replace h:=bT b h
  refine rg j0<|u<|mv j0<|u<|pc (zdH a (-2147483648) 2147483647 j0) j0 j0 j0<|u<|asg j0<|zc ?_
  refine zp ?_
  obtain rfl:=h
  exact ⟨_,j0,[],ci j0,j0,j5,j0,j1⟩
 ·
  replace h:=bF b h
  refine rg j0<|u<|mv j0<|u<|eql ti3 j0 j0<|u<|mv j0<|zdf (j:=2) 2 j0 j0 j0 j0 j0 gpn (fun c=>g j0 c<|mv j0<|g j0 c<|eql ti3 j0 j0<|zc (egO [14,15] 2 c j0 j0 j0 j0)) orT<|u<|asg j0<|zc ?_
  refine zk j0 (fun d=>?_) (fun d=>?_)
  ·
   replace h:=bT d h
   refine rg j0<|u<|mv j0<|u<|pc (zdH a 0 15 j0) j0 j0 j0<|u<|asg j0<|zc ?_
   refine zp ?_
   obtain rfl:=h
   exact ⟨_,j0,[],ci j0,j0,j5,j0,j1⟩
  ·
   replace h:=bF d h
   refine rg j0<|u<|mv j0<|u<|pc (zkB f j0) j0 j0 j0<|u<|asg j0<|zc ?_
   refine zk j0 (fun e=>?_) (fun e=>?_)
   ·
    replace h:=bT e h
    refine rg j0<|u<|mv j0<|u<|pc (zdH a 0 99 j0) j0 j0 j0<|u<|asg j0<|zc ?_
    refine zp ?_
    obtain rfl:=h
    exact ⟨_,j0,[],ci j0,j0,j5,j0,j1⟩
   ·
    replace h:=bF e h
    refine zm ?_
    refine rg j0<|u<|mv j0<|u<|eql ti3 j0 j0<|u<|asg j0<|zc ?_
    refine zp ?_
    obtain rfl:=h
    exact ⟨_,j0,[],ci j0,j0,j5,j0,j1⟩
def zfn (a:Int):Bool :=
  (((a == (50:Int))||(a == (56:Int)))||(a == (57:Int)))
theorem zkE (c:Int) {r:Bool} (h:zfn c=r):zF Tryz.prog 380 [iA c] (bA r):=by
 refine zr Tryz.func380 j0 (by kernel_rfl) j0 j0 ?_
 unfold zfn at h
 refine rg j0<|u<|asg j0<|zc ?_
 refine rg j0<|u<|mv j0<|u<|eql ti3 j0 j0<|u<|mv j0<|zdf (j:=2) 2 j0 j0 j0 j0 j0 gpn (fun a=>g j0 a<|mv j0<|g j0 a<|eql ti3 j0 j0<|zc (egO [6,7] 2 a j0 j0 j0 j0)) orT<|u<|mv j0<|zdf (j:=6) 2 j0 j0 j0 j0 j0 gpn (fun b=>g j0 b<|mv j0<|g j0 b<|eql ti3 j0 j0<|zc (egO [10,11] 2 b j0 j0 j0 j0)) orT<|u<|asg j0<|zc ?_
 refine zp ?_
 obtain rfl:=h
 exact ⟨_,j0,[],ci j0,j0,j5,j0,j1⟩
def ztj (a:Int):Bool :=
  (zcX a 38 45)
theorem zrj (a:Int) {r:Bool} (h:ztj a=r):zF Tryz.prog 373 [iA a] (bA r):=by
 refine zr Tryz.func373 j0 (by kernel_rfl) j0 j0 ?_
 unfold ztj at h
 refine rg j0<|u<|asg j0<|zc ?_
 refine rg j0<|u<|mv j0<|u<|pc (zdH a 38 45 j0) j0 j0 j0<|u<|asg j0<|zc ?_
 refine zp ?_
 obtain rfl:=h
 exact ⟨_,j0,[],ci j0,j0,j5,j0,j1⟩
def zti (a:Int):Bool :=
  (((a == (37:Int))||(ztj a))||(zfn a))
theorem zt9 (c:Int) {r:Bool} (h:zti c=r):zF Tryz.prog 372 [iA c] (bA r):=by
 refine zr Tryz.func372 j0 (by kernel_rfl) j0 j0 ?_
 unfold zti at h
 refine rg j0<|u<|asg j0<|zc ?_
 refine rg j0<|u<|mv j0<|u<|eql ti3 j0 j0<|u<|mv j0<|zdf (j:=2) 2 j0 j0 j0 j0 j0 gpn (fun a=>g j0 a<|mv j0<|g j0 a<|pc (zrj c j0) j0 j0 j0<|zc (egO [6,7] 2 a j0 j0 j0 j0)) orT<|u<|mv j0<|zdf (j:=6) 2 j0 j0 j0 j0 j0 gpn (fun b=>g j0 b<|mv j0<|g j0 b<|pc (zkE c j0) j0 j0 j0<|zc (egO [10,11] 2 b j0 j0 j0 j0)) orT<|u<|asg j0<|zc ?_
 refine zp ?_
 obtain rfl:=h
 exact ⟨_,j0,[],ci j0,j0,j5,j0,j1⟩
def zkC (b:Int) (a:List UInt8):Option (Bool) :=
  cond (zfn b) ((zgO a).bind fun c=>some c) (cond (zti b) ((zcT a).bind fun d=>some d) (some (a == [])))
theorem zpW (c:Int) (d:List UInt8) {r:Bool} (h:zkC c d=some r):zF Tryz.prog 362 [iA c,sA d] (bA r):=by
 refine zr Tryz.func362 j0 (by kernel_rfl) j0 j0 ?_
 unfold zkC at h
 refine rg j0<|u<|asg j0<|zc ?_
 refine zl ?_
 refine zs ?_
 refine rg j0<|u<|mv j0<|u<|pc (zkE c j0) j0 j0 j0<|u<|asg j0<|zc ?_
 refine zk j0 (fun a=>?_) (fun a=>?_)
 ·
  replace h:=bT a h
  obtain ⟨i,e,h⟩:=bs h
  refine rg j0<|u<|mv j0<|u<|pc (zis d e) j0 j0 j0<|u<|asg j0<|zc ?_
  refine zp ?_
  obtain rfl:=sm h
  exact ⟨_,j0,[],ci j0,j0,j5,j0,j1⟩
 ·
  replace h:=bF a h
  refine rg j0<|u<|mv j0<|u<|pc (zt9 c j0) j0 j0 j0<|u<|asg j0<|zc ?_
  refine zk j0 (fun b=>?_) (fun b=>?_)
  ·
   replace h:=bT b h
   obtain ⟨j,f,h⟩:=bs h
   refine rg j0<|u<|mv j0<|u<|pc (zdF d f) j0 j0 j0<|u<|asg j0<|zc ?_
   refine zp ?_
   obtain rfl:=sm h
   exact ⟨_,j0,[],ci j0,j0,j5,j0,j1⟩
  ·
   replace h:=bF b h
   refine zm ?_
   refine rg j0<|u<|mv j0<|u<|seq ti9 j0 j0<|u<|asg j0<|zc ?_
   refine zp ?_
   obtain rfl:=sm h
   exact ⟨_,j0,[],ci j0,j0,j5,j0,j1⟩
def zkD (b:Int) (a:List UInt8):Option (Bool) :=
  cond (ztj b) ((zfB a).bind fun c=>some (c&&(!(a == [36,105,110,105,116])))) (some (a == []))
theorem zpY (c:Int) (d:List UInt8) {r:Bool} (h:zkD c d=some r):zF Tryz.prog 363 [iA c,sA d] (bA r):=by
 refine zr Tryz.func363 j0 (by kernel_rfl) j0 j0 ?_
 unfold zkD at h
 refine rg j0<|u<|asg j0<|zc ?_
 refine zl ?_
 refine rg j0<|u<|mv j0<|u<|pc (zrj c j0) j0 j0 j0<|zc ?_
 refine zk j0 (fun a=>?_) (fun a=>?_)
 ·
  replace h:=bT a h
  obtain ⟨f,e,h⟩:=bs h
  refine rg j0<|u<|mv j0<|u<|pc (zhA d e) j0 j0 j0<|u<|mv j0<|z2 (j:=2) 2 j0 j0 j0 j0 j0 gpn (fun b=>g j0 b<|mv j0<|g j0 b<|sne ti9 j0 j0<|zc (egA [10,11] 2 b j0 j0 j0 j0)) zdb<|u<|asg j0<|zc ?_
  refine zp ?_
  obtain rfl:=sm h
  exact ⟨_,j0,[],ci j0,j0,j5,j0,j1⟩
 ·
  replace h:=bF a h
  refine zm ?_
  refine rg j0<|u<|mv j0<|u<|seq ti9 j0 j0<|u<|asg j0<|zc ?_
  refine zp ?_
  obtain rfl:=sm h
  exact ⟨_,j0,[],ci j0,j0,j5,j0,j1⟩
def znj (a:z3):Option (Bool) :=
  (cond ((zh0 a.Op)&&(zix a.Op a.A)) ((zkC a.Op a.C).bind fun b=>some b) (some false)).bind fun c=>(cond c ((zkD a.Op a.M).bind fun d=>some d) (some false)).bind fun e=>some e
theorem zre (d:z3) {r:Bool} (h:znj d=some r):zF Tryz.prog 326 [.agg (zau d)] (bA r):=by
 refine zr Tryz.func326 j0 (by kernel_rfl) j0 j0 ?_
 unfold znj at h
 refine rg j0<|u<|bx 0 4 j0 j0 j0 j0<|u<|asg j0<|zc ?_
 obtain ⟨i,e,h⟩:=bs h
 obtain ⟨l,f,h⟩:=bs h
 refine rg j0<|u<|fa zeU j0 j0 j0<|u<|ld ti3 j0 j0<|u<|pc (zog d.Op j0) j0 j0 j0<|u<|mv j0<|z2 (j:=3) 5 j0 j0 j0 j0 j0 gpn (fun a=>g j0 a<|fa zeU j0 j0 j0<|g j0 a<|ld ti3 j0 j0<|g j0 a<|fa zeU j0 j0 j0<|g j0 a<|ld ti3 j0 j0<|g j0 a<|pc (zpU d.Op d.A j0) j0 j0 j0<|zc (egA [7,8,9,10,11] 5 a j0 j0 j0 j0)) zdb<|u<|mv j0<|z2 (x:=i) (j:=10) 5 j0 j0 j0 j0 j0 gpn (fun b=>by replace e:=bT b e; obtain ⟨o,m,e⟩:=bs e; obtain rfl:=sm e; exact g j0 b<|fa zeU j0 j0 j0<|g j0 b<|ld ti3 j0 j0<|g j0 b<|fa zeU j0 j0 j0<|g j0 b<|ld ti9 j0 j0<|g j0 b<|pc (zpW d.Op d.C m) j0 j0 j0<|zc (eg [14,15,16,17,18] 5 j0 j0 j0 j0)) (fun hb=>(sm (bF hb e)).symm)<|u<|mv j0<|z2 (x:=l) (j:=17) 5 j0 j0 j0 j0 j0 gpn (fun c=>by replace f:=bT c f; obtain ⟨p,n,f⟩:=bs f; obtain rfl:=sm f; exact g j0 c<|fa zeU j0 j0 j0<|g j0 c<|ld ti3 j0 j0<|g j0 c<|fa zeU j0 j0 j0<|g j0 c<|ld ti9 j0 j0<|g j0 c<|pc (zpY d.Op d.M n) j0 j0 j0<|zc (eg [21,22,23,24,25] 5 j0 j0 j0 j0)) (fun hb=>(sm (bF hb f)).symm)<|u<|asg j0<|zc ?_
 refine zp ?_
 obtain rfl:=sm h
 exact ⟨_,j0,[],ci j0,j0,j5,j0,j1⟩
def zgp (a:UInt8):Bool :=
  ((decide (65≤(a.toNat:Int)))&&(decide ((a.toNat:Int)≤90)))
theorem zi6 (b:UInt8) {r:Bool} (h:zgp b=r):zF Tryz.prog 265 [.lit (.int .u8 (b.toNat:Int))] (bA r):=by
 refine zr Tryz.func265 j0 (by kernel_rfl) j0 j0 ?_
 unfold zgp at h
 refine rg j0<|u<|asg j0<|zc ?_
 refine rg j0<|u<|mv j0<|u<|geq ti5 j0 j0<|u<|mv j0<|z2 (j:=2) 2 j0 j0 j0 j0 j0 gpn (fun a=>g j0 a<|mv j0<|g j0 a<|leq ti5 j0 j0<|zc (egA [6,7] 2 a j0 j0 j0 j0)) zdb<|u<|asg j0<|zc ?_
 refine zp ?_
 obtain rfl:=h
 exact ⟨_,j0,[],ci j0,j0,j5,j0,j1⟩
def zfL (a:UInt8):Bool :=
  ((decide (97≤(a.toNat:Int)))&&(decide ((a.toNat:Int)≤122)))
theorem zia (b:UInt8) {r:Bool} (h:zfL b=r):zF Tryz.prog 266 [.lit (.int .u8 (b.toNat:Int))] (bA r):=by
 refine zr Tryz.func266 j0 (by kernel_rfl) j0 j0 ?_
 unfold zfL at h
 refine rg j0<|u<|asg j0<|zc ?_
 refine rg j0<|u<|mv j0<|u<|geq ti5 j0 j0<|u<|mv j0<|z2 (j:=2) 2 j0 j0 j0 j0 j0 gpn (fun a=>g j0 a<|mv j0<|g j0 a<|leq ti5 j0 j0<|zc (egA [6,7] 2 a j0 j0 j0 j0)) zdb<|u<|asg j0<|zc ?_
 refine zp ?_
 obtain rfl:=h
 exact ⟨_,j0,[],ci j0,j0,j5,j0,j1⟩
def zgo (a:UInt8):Bool :=
  ((decide (48≤(a.toNat:Int)))&&(decide ((a.toNat:Int)≤57)))
theorem zi5 (b:UInt8) {r:Bool} (h:zgo b=r):zF Tryz.prog 267 [.lit (.int .u8 (b.toNat:Int))] (bA r):=by
 refine zr Tryz.func267 j0 (by kernel_rfl) j0 j0 ?_
 unfold zgo at h
 refine rg j0<|u<|asg j0<|zc ?_
 refine rg j0<|u<|mv j0<|u<|geq ti5 j0 j0<|u<|mv j0<|z2 (j:=2) 2 j0 j0 j0 j0 j0 gpn (fun a=>g j0 a<|mv j0<|g j0 a<|leq ti5 j0 j0<|zc (egA [6,7] 2 a j0 j0 j0 j0)) zdb<|u<|asg j0<|zc ?_
 refine zp ?_
 obtain rfl:=h
 exact ⟨_,j0,[],ci j0,j0,j5,j0,j1⟩
def zgW (a:List UInt8):Option (Bool) :=
  some ((decide (2≤(List.length a:Int)))&&(decide ((List.length a:Int)≤8)))
def zbf (b:List UInt8) (a:Int):Option (Sum (Int) (Sum (Unit) (Bool))) :=
  cond (decide (a < (List.length b:Int))) ((idx b a).bind fun c=>(cond (!(zgp c)) ((cond (a == (0:Int)) (some true) ((idx b a).bind fun d=>(cond (!(zfL d)) ((idx b a).bind fun e=>some (!(zgo e))) (some false)).bind fun f=>some f)).bind fun i=>some i) (some false)).bind fun j=>cond j (some (.inr (.inr false))) (some (.inl (IntKind.i64.wrap (a+1))))) (some (.inr (.inl ())))
def zcY (a:List UInt8):Option (Bool) :=
  (zu (fun z=>zbf a z) 0).bind fun o=>zQ o (fun b=>zgW a) some
theorem zdJ (p:List UInt8) {r:Bool} (h:zcY p=some r):zF Tryz.prog 185 [sA p] (bA r):=by
 refine zr Tryz.func185 j0 (by kernel_rfl) j0 j0 ?_
 unfold zcY at h
 refine rg j0<|u<|asg j0<|zc ?_
 refine zl ?_
 refine rg j0<|u<|asg j0<|zc ?_
 obtain ⟨o,ho,h⟩:=bs h
 refine zU (X:=Int) (B:=Unit) (R:=Bool) (fun z=>[(0,sA p),(3,iA z)]) (fun z=>[]) (fun b=>[(0,sA p)]) (fun b=>[]) (fun r env st=>zaD Tryz.prog Tryz.f185 0 (bA r) [] env st) ho ⟨[],ce j0 j0<|ce j0 j0<|cn,j0,j5,j0,j1⟩ ?_ ?_ ?_
 ·
  rintro I r h
  replace h:zbf p I=some r:=h
  unfold zbf at h
  refine zl ?_
  refine rg j0<|u<|mv j0<|u<|mv j0<|u<|lnS ti9 j0 j0<|u<|lss ti3 j0 j0<|zc ?_
  refine zk j0 (fun m=>?_) (fun m=>?_)
  ·
   replace h:=bT m h
   refine zm ?_
   refine zl ?_
   refine zs ?_
   obtain ⟨q,s,h⟩:=bs h
   obtain ⟨v,f,h⟩:=bs h
   refine rg j0<|u<|mv j0<|u<|mv j0<|u<|ixS ti9 j0 j0 j0 s<|u<|pc (zi6 q j0) j0 j0 j0<|u<|nt j0<|u<|mv j0<|z2 (x:=v) (j:=5) 16 j0 j0 j0 j0 j0 gpn (fun e=>by replace f:=bT e f; obtain ⟨C,d,f⟩:=bs f; obtain rfl:=sm f; exact g j0 e<|mv j0<|g j0 e<|eql ti3 j0 j0<|g j0 e<|mv j0<|zdf (x:=C) (j:=8) 12 j0 j0 j0 j0 j0 (gps j0 j0 e) (fun a=>by replace d:=bF a d; obtain ⟨D,E,d⟩:=bs d; obtain ⟨F,i,d⟩:=bs d; obtain rfl:=sm d; exact g j0 a<|mv j0<|g j0 a<|mv j0<|g j0 a<|ixS ti9 j0 j0 j0 E<|g j0 a<|pc (zia D j0) j0 j0 j0<|g j0 a<|nt j0<|g j0 a<|mv j0<|z2 (x:=F) (j:=14) 5 j0 j0 j0 j0 j0 (gps j0 j0 a) (fun c=>by replace i:=bT c i; obtain ⟨G,H,i⟩:=bs i; obtain rfl:=sm i; exact g j0 c<|mv j0<|g j0 c<|mv j0<|g j0 c<|ixS ti9 j0 j0 j0 H<|g j0 c<|pc (zi5 G j0) j0 j0 j0<|g j0 c<|nt j0<|zc (eg [25,26,27,28,29] 5 j0 j0 j0 j0)) (fun hb=>(sm (bF hb i)).symm)<|zc (eg [19,20,21,22,23,24,25,26,27,28,29,30] 7 j0 j0 j0 j0)) (fun hb=>(sm (bT hb d)).symm)<|zc (eg [16,17,18,19,20,21,22,23,24,25,26,27,28,29,30,31] 4 j0 j0 j0 j0)) (fun hb=>(sm (bF hb f)).symm)<|zc ?_
   refine zk j0 (fun n=>?_) (fun n=>?_)
   ·
    replace h:=bT n h
    refine rg j0<|u<|asg j0<|zc ?_
    refine zp ?_
    obtain rfl:=sm h
    exact ⟨_,j0,_,j0,[],ci j0,j0,j5,j0,j1⟩
   ·
    replace h:=bF n h
    refine zm ?_
    refine rl j0<|u<|mv j0<|u<|add ti3 j0 j0<|u<|asg j0<|zc ?_
    obtain rfl:=sm h
    exact ⟨_,j0,[],ce j0 j0<|ce j0 j0<|cn,j0,j5,j0,j1⟩
  ·
   replace h:=bF m h
   refine zB ?_
   obtain rfl:=sm h
   exact ⟨j0,_,j0,[],ce j0 j0<|cn,j0,j5,j0,j1⟩
 ·
  rintro ⟨⟩ rfl
  replace h:zgW p=some r:=h
  unfold zgW at h
  refine zx ?_
  refine rg j0<|u<|mv j0<|u<|lnS ti9 j0 j0<|u<|geq ti3 j0 j0<|u<|mv j0<|z2 (j:=3) 3 j0 j0 j0 j0 j0 gpn (fun l=>g j0 l<|mv j0<|g j0 l<|lnS ti9 j0 j0<|g j0 l<|leq ti3 j0 j0<|zc (egA [37,38,39] 3 l j0 j0 j0 j0)) zdb<|u<|asg j0<|zc ?_
  refine zp ?_
  obtain rfl:=sm h
  exact ⟨_,j0,[],ci j0,j0,j5,j0,j1⟩
 ·
  rintro r' rfl env st hp
  obtain rfl:=sm h
  exact hp
def zeO (a:Int):Bool :=
  ((decide (20≤a))&&(decide (a≤36)))
theorem zgX (b:Int) {r:Bool} (h:zeO b=r):zF Tryz.prog 336 [iA b] (bA r):=by
 refine zr Tryz.func336 j0 (by kernel_rfl) j0 j0 ?_
 unfold zeO at h
 refine rg j0<|u<|asg j0<|zc ?_
 refine rg j0<|u<|mv j0<|u<|geq ti3 j0 j0<|u<|mv j0<|z2 (j:=2) 2 j0 j0 j0 j0 j0 gpn (fun a=>g j0 a<|mv j0<|g j0 a<|leq ti3 j0 j0<|zc (egA [6,7] 2 a j0 j0 j0 j0)) zdb<|u<|asg j0<|zc ?_
 refine zp ?_
 obtain rfl:=h
 exact ⟨_,j0,[],ci j0,j0,j5,j0,j1⟩
def zdL (a:Bool):Bool×Int×Bool :=
  cond a ((false,2,false)) ((false,0,false))
def zcI (a:Int) (b:Bool):Bool×Int×Bool :=
  cond b ((true,0,false)) (cond (a == (37:Int)) ((false,1,false)) (cond ((decide (38≤a))&&(decide (a≤45))) ((false,1,true)) (cond (a == (50:Int)) (zdL (a == (50:Int))) (cond (a == (56:Int)) (zdL (a == (56:Int))) (zdL (a == (57:Int)))))))
def zcz (a:Int):Bool×Int×Bool :=
  cond (a == (1:Int)) (zcI a (a == (1:Int))) (cond (a == (3:Int)) (zcI a (a == (3:Int))) (cond (a == (4:Int)) (zcI a (a == (4:Int))) (zcI a (zeO a))))
theorem zmo (a:Int) {r:Bool×Int×Bool} (h:zcz a=r):zF Tryz.prog 365 [iA a] (.tup [bA r.1,iA r.2.1,bA r.2.2]):=by
 refine zr Tryz.func365 j0 (by kernel_rfl) j0 j0 ?_
 unfold zcz at h
 refine rg j0<|u<|asg j0<|u<|asg j0<|u<|asg j0<|zc ?_
 refine zl ?_
 refine zs ?_
 refine zb3 (X:=Bool) (fun z=>[(0,iA a),(5,bA z)]) (fun z=>[]) (fun z=>zcI a z=r) ?_ ?_
 ·
  refine rg j0<|u<|mv j0<|u<|eql ti3 j0 j0<|u<|asg j0<|zc ?_
  refine zk j0 (fun c=>?_) (fun c=>?_)
  ·
   replace h:=bT c h
   refine zm ?_
   exact ⟨(a == (1:Int)),h,[],ce j0 j0<|ce j0 j0<|cn,j0,j5,j0,j1⟩
  ·
   replace h:=bF c h
   refine rg j0<|u<|mv j0<|u<|eql ti3 j0 j0<|u<|asg j0<|zc ?_
   refine zk j0 (fun d=>?_) (fun d=>?_)
   ·
    replace h:=bT d h
    refine zm ?_
    exact ⟨(a == (3:Int)),h,[],ce j0 j0<|ce j0 j0<|cn,j0,j5,j0,j1⟩
   ·
    replace h:=bF d h
    refine rg j0<|u<|mv j0<|u<|eql ti3 j0 j0<|u<|asg j0<|zc ?_
    refine zk j0 (fun e=>?_) (fun e=>?_)
    ·
     replace h:=bT e h
     refine zm ?_
     exact ⟨(a == (4:Int)),h,[],ce j0 j0<|ce j0 j0<|cn,j0,j5,j0,j1⟩
    ·
     replace h:=bF e h
     exact rl j0<|u<|mv j0<|u<|pc (zgX a j0) j0 j0 j0<|u<|asg j0<|zc (⟨(zeO a),h,[],ce j0 j0<|ce j0 j0<|cn,j0,j5,j0,j1⟩)
 ·
  rintro p h
  replace h:zcI a p=r:=h
  unfold zcI at h
  refine zk j0 (fun f=>?_) (fun f=>?_)
  ·
   replace h:=bT f h
   refine rg j0<|u<|asg j0<|u<|asg j0<|u<|asg j0<|zc ?_
   refine zp ?_
   obtain rfl:=h
   exact ⟨_,j0,[],zer ⟨(ci j0),(ci j0),(ci j0),j5⟩,j0,j5,j0,j1⟩
  ·
   replace h:=bF f h
   refine rg j0<|u<|mv j0<|u<|eql ti3 j0 j0<|u<|asg j0<|zc ?_
   refine zk j0 (fun i=>?_) (fun i=>?_)
   ·
    replace h:=bT i h
    refine rg j0<|u<|asg j0<|u<|asg j0<|u<|asg j0<|zc ?_
    refine zp ?_
    obtain rfl:=h
    exact ⟨_,j0,[],zer ⟨(ci j0),(ci j0),(ci j0),j5⟩,j0,j5,j0,j1⟩
   ·
    replace h:=bF i h
    refine rg j0<|u<|mv j0<|u<|geq ti3 j0 j0<|u<|mv j0<|z2 (j:=2) 2 j0 j0 j0 j0 j0 gpn (fun l=>g j0 l<|mv j0<|g j0 l<|leq ti3 j0 j0<|zc (egA [21,22] 2 l j0 j0 j0 j0)) zdb<|u<|asg j0<|zc ?_
    refine zk j0 (fun m=>?_) (fun m=>?_)
    ·
     replace h:=bT m h
     refine rg j0<|u<|asg j0<|u<|asg j0<|u<|asg j0<|zc ?_
     refine zp ?_
     obtain rfl:=h
     exact ⟨_,j0,[],zer ⟨(ci j0),(ci j0),(ci j0),j5⟩,j0,j5,j0,j1⟩
    ·
     replace h:=bF m h
     refine zb3 (X:=Bool) (fun z=>[(24,bA z)]) (fun z=>[]) (fun z=>zdL z=r) ?_ ?_
     ·
      refine rg j0<|u<|mv j0<|u<|eql ti3 j0 j0<|u<|asg j0<|zc ?_
      refine zk j0 (fun n=>?_) (fun n=>?_)
      ·
       replace h:=bT n h
       refine zm ?_
       exact ⟨(a == (50:Int)),h,[],ce j0 j0<|cn,j0,j5,j0,j1⟩
      ·
       replace h:=bF n h
       refine rg j0<|u<|mv j0<|u<|eql ti3 j0 j0<|u<|asg j0<|zc ?_
       refine zk j0 (fun o=>?_) (fun o=>?_)
       ·
        replace h:=bT o h
        refine zm ?_
        exact ⟨(a == (56:Int)),h,[],ce j0 j0<|cn,j0,j5,j0,j1⟩
       ·
        replace h:=bF o h
        exact rl j0<|u<|mv j0<|u<|eql ti3 j0 j0<|u<|asg j0<|zc (⟨(a == (57:Int)),h,[],ce j0 j0<|cn,j0,j5,j0,j1⟩)
     ·
      rintro q h
      replace h:zdL q=r:=h
      unfold zdL at h
      refine zk j0 (fun b=>?_) (fun b=>?_)
      ·
       replace h:=bT b h
       refine rg j0<|u<|asg j0<|u<|asg j0<|u<|asg j0<|zc ?_
       refine zp ?_
       obtain rfl:=h
       exact ⟨_,j0,[],zer ⟨(ci j0),(ci j0),(ci j0),j5⟩,j0,j5,j0,j1⟩
      ·
       replace h:=bF b h
       refine zm ?_
       refine rg j0<|u<|asg j0<|u<|asg j0<|u<|asg j0<|zc ?_
       refine zp ?_
       obtain rfl:=h
       exact ⟨_,j0,[],zer ⟨(ci j0),(ci j0),(ci j0),j5⟩,j0,j5,j0,j1⟩
def zeS (b:Int) (a:Int):Bool :=
  cond (b == (1:Int)) (((decide ((-2147483648)≤a))&&(decide (a < 2147483648)))) (cond (zeO b) (((decide (0≤a))&&(decide (a < 100)))) (((decide (0≤a))&&(decide (a < 16)))))
theorem zlf (f:Int) (i:Int) {r:Bool} (h:zeS f i=r):zF Tryz.prog 366 [iA f,iA i] (bA r):=by
 refine zr Tryz.func366 j0 (by kernel_rfl) j0 j0 ?_
 unfold zeS at h
 refine rg j0<|u<|asg j0<|zc ?_
 refine zl ?_
 refine zs ?_
 refine rg j0<|u<|mv j0<|u<|eql ti3 j0 j0<|u<|asg j0<|zc ?_
 refine zk j0 (fun a=>?_) (fun a=>?_)
 ·
  replace h:=bT a h
  refine rg j0<|u<|mv j0<|u<|geq ti3 j0 j0<|u<|mv j0<|z2 (j:=2) 2 j0 j0 j0 j0 j0 gpn (fun b=>g j0 b<|mv j0<|g j0 b<|lss ti3 j0 j0<|zc (egA [11,12] 2 b j0 j0 j0 j0)) zdb<|u<|asg j0<|zc ?_
  refine zp ?_
  obtain rfl:=h
  exact ⟨_,j0,[],ci j0,j0,j5,j0,j1⟩
 ·
  replace h:=bF a h
  refine rg j0<|u<|mv j0<|u<|pc (zgX f j0) j0 j0 j0<|u<|asg j0<|zc ?_
  refine zk j0 (fun c=>?_) (fun c=>?_)
  ·
   replace h:=bT c h
   refine rg j0<|u<|mv j0<|u<|geq ti3 j0 j0<|u<|mv j0<|z2 (j:=2) 2 j0 j0 j0 j0 j0 gpn (fun d=>g j0 d<|mv j0<|g j0 d<|lss ti3 j0 j0<|zc (egA [20,21] 2 d j0 j0 j0 j0)) zdb<|u<|asg j0<|zc ?_
   refine zp ?_
   obtain rfl:=h
   exact ⟨_,j0,[],ci j0,j0,j5,j0,j1⟩
  ·
   replace h:=bF c h
   refine zm ?_
   refine rg j0<|u<|mv j0<|u<|geq ti3 j0 j0<|u<|mv j0<|z2 (j:=2) 2 j0 j0 j0 j0 j0 gpn (fun e=>g j0 e<|mv j0<|g j0 e<|lss ti3 j0 j0<|zc (egA [26,27] 2 e j0 j0 j0 j0)) zdb<|u<|asg j0<|zc ?_
   refine zp ?_
   obtain rfl:=h
   exact ⟨_,j0,[],ci j0,j0,j5,j0,j1⟩
def zfI (a:List UInt8):Option (Bool) :=
  (cond (a == [73]) (some true) ((zcY a).bind fun b=>some b)).bind fun c=>some c
def zdt (a:List UInt8) (b:Int):Option (Sum ((List UInt8)×Int) (Sum ((List UInt8)) (Bool))) :=
  (cond ((decide (b < 2))&&(decide (0 < (List.length a:Int)))) ((idx a 0).bind fun e=>some ((e.toNat:Int) == (91:Int))) (some false)).bind fun c=>cond c ((zkP a 1 (List.length a:Int)).bind fun d=>some (.inl (d,(IntKind.i64.wrap (b+1))))) (some (.inr (.inl a)))
def ze0 (a:List UInt8):Option (Bool) :=
  (zu (fun z=>zdt z.1 z.2) (a,0)).bind fun o=>zQ o (fun b=>zfI b) some
theorem zeR (p:List UInt8) {r:Bool} (h:ze0 p=some r):zF Tryz.prog 187 [sA p] (bA r):=by
 refine zr Tryz.func187 j0 (by kernel_rfl) j0 j0 ?_
 unfold ze0 at h
 refine rg j0<|u<|asg j0<|zc ?_
 refine zl ?_
 refine rg j0<|u<|asg j0<|zc ?_
 obtain ⟨o,ho,h⟩:=bs h
 refine zU (X:=(List UInt8)×Int) (B:=(List UInt8)) (R:=Bool) (fun z=>[(0,sA z.1),(3,iA z.2)]) (fun z=>[]) (fun b=>[(0,sA b)]) (fun b=>[]) (fun r env st=>zaD Tryz.prog Tryz.f187 0 (bA r) [] env st) ho ⟨[],ce j0 j0<|ce j0 j0<|cn,j0,j5,j0,j1⟩ ?_ ?_ ?_
 ·
  rintro ⟨q,D⟩ r h
  replace h:zdt q D=some r:=h
  unfold zdt at h
  refine zl ?_
  obtain ⟨s,c,h⟩:=bs h
  refine rg j0<|u<|mv j0<|u<|lss ti3 j0 j0<|u<|mv j0<|z2 (j:=2) 3 j0 j0 j0 j0 j0 gpn (fun i=>g j0 i<|mv j0<|g j0 i<|lnS ti9 j0 j0<|g j0 i<|gtr ti3 j0 j0<|zc (egA [7,8,9] 3 i j0 j0 j0 j0)) zdb<|u<|mv j0<|z2 (x:=s) (j:=7) 3 j0 j0 j0 j0 j0 gpn (fun l=>by replace c:=bT l c; obtain ⟨H,E,c⟩:=bs c; obtain rfl:=sm c; exact g j0 l<|mv j0<|g j0 l<|ixS ti9 j0 j0 j0 E<|g j0 l<|eql ti5 j0 j0<|zc (eg [12,13,14] 3 j0 j0 j0 j0)) (fun hb=>(sm (bF hb c)).symm)<|zc ?_
  refine zk j0 (fun e=>?_) (fun e=>?_)
  ·
   replace h:=bT e h
   refine zm ?_
   refine zl ?_
   refine zs ?_
   obtain ⟨F,m,h⟩:=bs h
   refine rl j0<|u<|mv j0<|u<|slS (a:=1) (b:=(List.length q:Int)) ti9 j0 j0 (zs4 j0 m) j0 m<|u<|asg j0<|zc ?_
   refine rl j0<|u<|mv j0<|u<|add ti3 j0 j0<|u<|asg j0<|zc ?_
   obtain rfl:=sm h
   exact ⟨_,j0,[],ce j0 j0<|ce j0 j0<|cn,j0,j5,j0,j1⟩
  ·
   replace h:=bF e h
   refine zB ?_
   obtain rfl:=sm h
   exact ⟨j0,_,j0,[],ce j0 j0<|cn,j0,j5,j0,j1⟩
 ·
  rintro n rfl
  replace h:zfI n=some r:=h
  unfold zfI at h
  refine zx ?_
  obtain ⟨v,d,h⟩:=bs h
  refine rg j0<|u<|mv j0<|u<|seq ti9 j0 j0<|u<|mv j0<|zdf (x:=v) (j:=2) 2 j0 j0 j0 j0 j0 gpn (fun f=>by replace d:=bF f d; obtain ⟨G,C,d⟩:=bs d; obtain rfl:=sm d; exact g j0 f<|mv j0<|g j0 f<|pc (zdJ n C) j0 j0 j0<|zc (eg [23,24] 2 j0 j0 j0 j0)) (fun hb=>(sm (bT hb d)).symm)<|u<|asg j0<|zc ?_
  refine zp ?_
  obtain rfl:=sm h
  exact ⟨_,j0,[],ci j0,j0,j5,j0,j1⟩
 ·
  rintro r' rfl env st hp
  obtain rfl:=sm h
  exact hp
def zi3 (a:List UInt8):Option (Bool) :=
  (cond (!(a == [73])) ((ze0 a).bind fun b=>some b) (some false)).bind fun c=>some c
theorem zol (c:List UInt8) {r:Bool} (h:zi3 c=some r):zF Tryz.prog 367 [sA c] (bA r):=by
 refine zr Tryz.func367 j0 (by kernel_rfl) j0 j0 ?_
 unfold zi3 at h
 refine rg j0<|u<|asg j0<|zc ?_
 obtain ⟨d,a,h⟩:=bs h
 refine rg j0<|u<|mv j0<|u<|sne ti9 j0 j0<|u<|mv j0<|z2 (x:=d) (j:=2) 2 j0 j0 j0 j0 j0 gpn (fun b=>by replace a:=bT b a; obtain ⟨f,e,a⟩:=bs a; obtain rfl:=sm a; exact g j0 b<|mv j0<|g j0 b<|pc (zeR c e) j0 j0 j0<|zc (eg [6,7] 2 j0 j0 j0 j0)) (fun hb=>(sm (bF hb a)).symm)<|u<|asg j0<|zc ?_
 refine zp ?_
 obtain rfl:=sm h
 exact ⟨_,j0,[],ci j0,j0,j5,j0,j1⟩
def zhH (a:List UInt8):Option (Bool) :=
  some ((decide (1≤(List.length a:Int)))&&(decide ((List.length a:Int)≤8)))
def zbB (b:List UInt8) (a:Int):Option (Sum (Int) (Sum (Unit) (Bool))) :=
  cond (decide (a < (List.length b:Int))) ((idx b a).bind fun c=>(cond (!(zfL c)) ((cond (a == (0:Int)) (some true) ((idx b a).bind fun d=>(cond (!(zgp d)) ((idx b a).bind fun e=>some (!(zgo e))) (some false)).bind fun f=>some f)).bind fun i=>some i) (some false)).bind fun j=>cond j (some (.inr (.inr false))) (some (.inl (IntKind.i64.wrap (a+1))))) (some (.inr (.inl ())))
def zfK (a:List UInt8):Option (Bool) :=
  cond (a == [36,105,110,105,116]) (some true) ((zu (fun z=>zbB a z) 0).bind fun o=>zQ o (fun b=>zhH a) some)
theorem zhI (p:List UInt8) {r:Bool} (h:zfK p=some r):zF Tryz.prog 186 [sA p] (bA r):=by
 refine zr Tryz.func186 j0 (by kernel_rfl) j0 j0 ?_
 unfold zfK at h
 refine rg j0<|u<|asg j0<|zc ?_
 refine zl ?_
 refine rg j0<|u<|mv j0<|u<|seq ti9 j0 j0<|zc ?_
 refine zk j0 (fun q=>?_) (fun q=>?_)
 ·
  replace h:=bT q h
  refine rg j0<|u<|asg j0<|zc ?_
  refine zp ?_
  obtain rfl:=sm h
  exact ⟨_,j0,[],ci j0,j0,j5,j0,j1⟩
 ·
  replace h:=bF q h
  refine zm ?_
  refine zl ?_
  refine rg j0<|u<|asg j0<|zc ?_
  obtain ⟨o,ho,h⟩:=bs h
  refine zU (X:=Int) (B:=Unit) (R:=Bool) (fun z=>[(0,sA p),(3,iA z)]) (fun z=>[]) (fun b=>[(0,sA p)]) (fun b=>[]) (fun r env st=>zaD Tryz.prog Tryz.f186 0 (bA r) [] env st) ho ⟨[],ce j0 j0<|ce j0 j0<|cn,j0,j5,j0,j1⟩ ?_ ?_ ?_
  ·
   rintro J r h
   replace h:zbB p J=some r:=h
   unfold zbB at h
   refine zl ?_
   refine rg j0<|u<|mv j0<|u<|mv j0<|u<|lnS ti9 j0 j0<|u<|lss ti3 j0 j0<|zc ?_
   refine zk j0 (fun m=>?_) (fun m=>?_)
   ·
    replace h:=bT m h
    refine zm ?_
    refine zl ?_
    refine zs ?_
    obtain ⟨s,v,h⟩:=bs h
    obtain ⟨C,f,h⟩:=bs h
    refine rg j0<|u<|mv j0<|u<|mv j0<|u<|ixS ti9 j0 j0 j0 v<|u<|pc (zia s j0) j0 j0 j0<|u<|nt j0<|u<|mv j0<|z2 (x:=C) (j:=5) 16 j0 j0 j0 j0 j0 gpn (fun e=>by replace f:=bT e f; obtain ⟨D,d,f⟩:=bs f; obtain rfl:=sm f; exact g j0 e<|mv j0<|g j0 e<|eql ti3 j0 j0<|g j0 e<|mv j0<|zdf (x:=D) (j:=8) 12 j0 j0 j0 j0 j0 (gps j0 j0 e) (fun a=>by replace d:=bF a d; obtain ⟨E,F,d⟩:=bs d; obtain ⟨G,i,d⟩:=bs d; obtain rfl:=sm d; exact g j0 a<|mv j0<|g j0 a<|mv j0<|g j0 a<|ixS ti9 j0 j0 j0 F<|g j0 a<|pc (zi6 E j0) j0 j0 j0<|g j0 a<|nt j0<|g j0 a<|mv j0<|z2 (x:=G) (j:=14) 5 j0 j0 j0 j0 j0 (gps j0 j0 a) (fun c=>by replace i:=bT c i; obtain ⟨H,I,i⟩:=bs i; obtain rfl:=sm i; exact g j0 c<|mv j0<|g j0 c<|mv j0<|g j0 c<|ixS ti9 j0 j0 j0 I<|g j0 c<|pc (zi5 H j0) j0 j0 j0<|g j0 c<|nt j0<|zc (eg [27,28,29,30,31] 5 j0 j0 j0 j0)) (fun hb=>(sm (bF hb i)).symm)<|zc (eg [21,22,23,24,25,26,27,28,29,30,31,32] 7 j0 j0 j0 j0)) (fun hb=>(sm (bT hb d)).symm)<|zc (eg [18,19,20,21,22,23,24,25,26,27,28,29,30,31,32,33] 4 j0 j0 j0 j0)) (fun hb=>(sm (bF hb f)).symm)<|zc ?_
    refine zk j0 (fun n=>?_) (fun n=>?_)
    ·
     replace h:=bT n h
     refine rg j0<|u<|asg j0<|zc ?_
     refine zp ?_
     obtain rfl:=sm h
     exact ⟨_,j0,_,j0,[],ci j0,j0,j5,j0,j1⟩
    ·
     replace h:=bF n h
     refine zm ?_
     refine rl j0<|u<|mv j0<|u<|add ti3 j0 j0<|u<|asg j0<|zc ?_
     obtain rfl:=sm h
     exact ⟨_,j0,[],ce j0 j0<|ce j0 j0<|cn,j0,j5,j0,j1⟩
   ·
    replace h:=bF m h
    refine zB ?_
    obtain rfl:=sm h
    exact ⟨j0,_,j0,[],ce j0 j0<|cn,j0,j5,j0,j1⟩
  ·
   rintro ⟨⟩ rfl
   replace h:zhH p=some r:=h
   unfold zhH at h
   refine zx ?_
   refine rg j0<|u<|mv j0<|u<|lnS ti9 j0 j0<|u<|geq ti3 j0 j0<|u<|mv j0<|z2 (j:=3) 3 j0 j0 j0 j0 j0 gpn (fun l=>g j0 l<|mv j0<|g j0 l<|lnS ti9 j0 j0<|g j0 l<|leq ti3 j0 j0<|zc (egA [39,40,41] 3 l j0 j0 j0 j0)) zdb<|u<|asg j0<|zc ?_
   refine zp ?_
   obtain rfl:=sm h
   exact ⟨_,j0,[],ci j0,j0,j5,j0,j1⟩
  ·
   rintro r' rfl env st hp
   obtain rfl:=sm h
   exact hp
def zfH (a:z3):Option (Bool) :=
  cond ((decide (a.Op < 1))||(decide (61 < a.Op))) (some false) (cond ((((zcz a.Op).1)&&(!(zeS a.Op a.A)))||((!((zcz a.Op).1))&&(!(a.A == (0:Int))))) (some false) ((cond ((((zcz a.Op).2.1) == (0:Int))&&(!(a.C == []))) (some true) ((cond (((zcz a.Op).2.1) == (1:Int)) ((zcY a.C).bind fun b=>some (!b)) (some false)).bind fun c=>some c)).bind fun d=>(cond d (some true) ((cond (((zcz a.Op).2.1) == (2:Int)) ((zi3 a.C).bind fun e=>some (!e)) (some false)).bind fun f=>some f)).bind fun i=>cond i (some false) (cond ((zcz a.Op).2.2) ((zfK a.M).bind fun j=>some (j&&(!(a.M == [36,105,110,105,116])))) (some (a.M == [])))))
theorem zlc (m:z3) {r:Bool} (h:zfH m=some r):zF Tryz.prog 335 [.agg (zau m)] (bA r):=by
 refine zr Tryz.func335 j0 (by kernel_rfl) j0 j0 ?_
 unfold zfH at h
 refine rg j0<|u<|bx 0 4 j0 j0 j0 j0<|u<|asg j0<|zc ?_
 refine rg j0<|u<|fa zeU j0 j0 j0<|u<|ld ti3 j0 j0<|u<|pc (zmo m.Op j0) j0 j0 j0<|u<|mv j0<|u<|ex j0 j0<|u<|ex j0 j0<|u<|ex j0 j0<|u<|asg j0<|u<|asg j0<|u<|asg j0<|zc ?_
 refine zl ?_
 refine zs ?_
 refine rg j0<|u<|fa zeU j0 j0 j0<|u<|ld ti3 j0 j0<|u<|lss ti3 j0 j0<|u<|mv j0<|zdf (j:=3) 3 j0 j0 j0 j0 j0 gpn (fun v=>g j0 v<|fa zeU j0 j0 j0<|g j0 v<|ld ti3 j0 j0<|g j0 v<|gtr ti3 j0 j0<|zc (egO [18,19,20] 3 v j0 j0 j0 j0)) orT<|u<|asg j0<|zc ?_
 refine zk j0 (fun E=>?_) (fun E=>?_)
 ·
  replace h:=bT E h
  refine rg j0<|u<|asg j0<|zc ?_
  refine zp ?_
  obtain rfl:=sm h
  exact ⟨_,j0,[],ci j0,j0,j5,j0,j1⟩
 ·
  replace h:=bF E h
  refine rg j0<|u<|mv j0<|u<|mv j0<|z2 (j:=1) 6 j0 j0 j0 j0 j0 gpn (fun a=>g j0 a<|fa zeU j0 j0 j0<|g j0 a<|ld ti3 j0 j0<|g j0 a<|fa zeU j0 j0 j0<|g j0 a<|ld ti3 j0 j0<|g j0 a<|pc (zlf m.Op m.A j0) j0 j0 j0<|g j0 a<|nt j0<|zc (egA [25,26,27,28,29,30] 6 a j0 j0 j0 j0)) zdb<|u<|mv j0<|zdf (j:=9) 7 j0 j0 j0 j0 j0 gpn (fun n=>g j0 n<|mv j0<|g j0 n<|nt j0<|g j0 n<|mv j0<|z2 (j:=12) 3 j0 j0 j0 j0 j0 (gps j0 j0 n) (fun B=>g j0 B<|fa zeU j0 j0 j0<|g j0 B<|ld ti3 j0 j0<|g j0 B<|neq ti3 j0 j0<|zc (egA [36,37,38] 3 B j0 j0 j0 j0)) zdb<|zc (egO [33,34,35,36,37,38,39] 4 n j0 j0 j0 j0)) orT<|u<|asg j0<|zc ?_
  refine zk j0 (fun F=>?_) (fun F=>?_)
  ·
   replace h:=bT F h
   refine rg j0<|u<|asg j0<|zc ?_
   refine zp ?_
   obtain rfl:=sm h
   exact ⟨_,j0,[],ci j0,j0,j5,j0,j1⟩
  ·
   replace h:=bF F h
   obtain ⟨J,d,h⟩:=bs h
   obtain ⟨K,e,h⟩:=bs h
   refine rg j0<|u<|mv j0<|u<|eql ti3 j0 j0<|u<|mv j0<|z2 (j:=2) 3 j0 j0 j0 j0 j0 gpn (fun D=>g j0 D<|fa zeU j0 j0 j0<|g j0 D<|ld ti9 j0 j0<|g j0 D<|sne ti9 j0 j0<|zc (egA [45,46,47] 3 D j0 j0 j0 j0)) zdb<|u<|mv j0<|zdf (x:=J) (j:=7) 8 j0 j0 j0 j0 j0 gpn (fun o=>by replace d:=bF o d; obtain ⟨L,f,d⟩:=bs d; obtain rfl:=sm d; exact g j0 o<|mv j0<|g j0 o<|eql ti3 j0 j0<|g j0 o<|mv j0<|z2 (x:=L) (j:=10) 4 j0 j0 j0 j0 j0 (gps j0 j0 o) (fun p=>by replace f:=bT p f; obtain ⟨O,G,f⟩:=bs f; obtain rfl:=sm f; exact g j0 p<|fa zeU j0 j0 j0<|g j0 p<|ld ti9 j0 j0<|g j0 p<|pc (zdJ m.C G) j0 j0 j0<|g j0 p<|nt j0<|zc (eg [53,54,55,56] 4 j0 j0 j0 j0)) (fun hb=>(sm (bF hb f)).symm)<|zc (eg [50,51,52,53,54,55,56,57] 4 j0 j0 j0 j0)) (fun hb=>(sm (bT hb d)).symm)<|u<|mv j0<|zdf (x:=K) (j:=17) 8 j0 j0 j0 j0 j0 gpn (fun b=>by replace e:=bF b e; obtain ⟨N,i,e⟩:=bs e; obtain rfl:=sm e; exact g j0 b<|mv j0<|g j0 b<|eql ti3 j0 j0<|g j0 b<|mv j0<|z2 (x:=N) (j:=20) 4 j0 j0 j0 j0 j0 (gps j0 j0 b) (fun c=>by replace i:=bT c i; obtain ⟨P,H,i⟩:=bs i; obtain rfl:=sm i; exact g j0 c<|fa zeU j0 j0 j0<|g j0 c<|ld ti9 j0 j0<|g j0 c<|pc (zol m.C H) j0 j0 j0<|g j0 c<|nt j0<|zc (eg [63,64,65,66] 4 j0 j0 j0 j0)) (fun hb=>(sm (bF hb i)).symm)<|zc (eg [60,61,62,63,64,65,66,67] 4 j0 j0 j0 j0)) (fun hb=>(sm (bT hb e)).symm)<|u<|asg j0<|zc ?_
   refine zk j0 (fun q=>?_) (fun q=>?_)
   ·
    replace h:=bT q h
    refine rg j0<|u<|asg j0<|zc ?_
    refine zp ?_
    obtain rfl:=sm h
    exact ⟨_,j0,[],ci j0,j0,j5,j0,j1⟩
   ·
    replace h:=bF q h
    refine rg j0<|u<|mv j0<|u<|asg j0<|zc ?_
    refine zk j0 (fun s=>?_) (fun s=>?_)
    ·
     replace h:=bT s h
     obtain ⟨Q,I,h⟩:=bs h
     refine rg j0<|u<|fa zeU j0 j0 j0<|u<|ld ti9 j0 j0<|u<|pc (zhI m.M I) j0 j0 j0<|u<|mv j0<|z2 (j:=3) 3 j0 j0 j0 j0 j0 gpn (fun l=>g j0 l<|fa zeU j0 j0 j0<|g j0 l<|ld ti9 j0 j0<|g j0 l<|sne ti9 j0 j0<|zc (egA [75,76,77] 3 l j0 j0 j0 j0)) zdb<|u<|asg j0<|zc ?_
     refine zp ?_
     obtain rfl:=sm h
     exact ⟨_,j0,[],ci j0,j0,j5,j0,j1⟩
    ·
     replace h:=bF s h
     refine zm ?_
     refine rg j0<|u<|fa zeU j0 j0 j0<|u<|ld ti9 j0 j0<|u<|seq ti9 j0 j0<|u<|asg j0<|zc ?_
     refine zp ?_
     obtain rfl:=sm h
     exact ⟨_,j0,[],ci j0,j0,j5,j0,j1⟩
def zdG (a:Bool):Bool :=
  cond a (true) (false)
def zhF (a:Int):Bool :=
  cond (a == (20:Int)) (zdG (a == (20:Int))) (cond (a == (46:Int)) (zdG (a == (46:Int))) (cond (a == (47:Int)) (zdG (a == (47:Int))) (cond (a == (48:Int)) (zdG (a == (48:Int))) (cond (a == (58:Int)) (zdG (a == (58:Int))) (zdG (a == (61:Int)))))))
theorem zpR (a:Int) {r:Bool} (h:zhF a=r):zF Tryz.prog 203 [iA a] (bA r):=by
 refine zr Tryz.func203 j0 (by kernel_rfl) j0 j0 ?_
 unfold zhF at h
 refine rg j0<|u<|asg j0<|zc ?_
 refine zl ?_
 refine rg j0<|u<|mv j0<|zc ?_
 refine zs ?_
 refine zb3 (X:=Bool) (fun z=>[(4,bA z)]) (fun z=>[]) (fun z=>zdG z=r) ?_ ?_
 ·
  refine rg j0<|u<|eql ti3 j0 j0<|u<|asg j0<|zc ?_
  refine zk j0 (fun b=>?_) (fun b=>?_)
  ·
   replace h:=bT b h
   refine zm ?_
   exact ⟨(a == (20:Int)),h,[],ce j0 j0<|cn,j0,j5,j0,j1⟩
  ·
   replace h:=bF b h
   refine rg j0<|u<|eql ti3 j0 j0<|u<|asg j0<|zc ?_
   refine zk j0 (fun c=>?_) (fun c=>?_)
   ·
    replace h:=bT c h
    refine zm ?_
    exact ⟨(a == (46:Int)),h,[],ce j0 j0<|cn,j0,j5,j0,j1⟩
   ·
    replace h:=bF c h
    refine rg j0<|u<|eql ti3 j0 j0<|u<|asg j0<|zc ?_
    refine zk j0 (fun d=>?_) (fun d=>?_)
    ·
     replace h:=bT d h
     refine zm ?_
     exact ⟨(a == (47:Int)),h,[],ce j0 j0<|cn,j0,j5,j0,j1⟩
    ·
     replace h:=bF d h
     refine rg j0<|u<|eql ti3 j0 j0<|u<|asg j0<|zc ?_
     refine zk j0 (fun e=>?_) (fun e=>?_)
     ·
      replace h:=bT e h
      refine zm ?_
      exact ⟨(a == (48:Int)),h,[],ce j0 j0<|cn,j0,j5,j0,j1⟩
     ·
      replace h:=bF e h
      refine rg j0<|u<|eql ti3 j0 j0<|u<|asg j0<|zc ?_
      refine zk j0 (fun f=>?_) (fun f=>?_)
      ·
       replace h:=bT f h
       refine zm ?_
       exact ⟨(a == (58:Int)),h,[],ce j0 j0<|cn,j0,j5,j0,j1⟩
      ·
       replace h:=bF f h
       exact rl j0<|u<|eql ti3 j0 j0<|u<|asg j0<|zc (⟨(a == (61:Int)),h,[],ce j0 j0<|cn,j0,j5,j0,j1⟩)
 ·
  rintro j h
  replace h:zdG j=r:=h
  unfold zdG at h
  refine zk j0 (fun i=>?_) (fun i=>?_)
  ·
   replace h:=bT i h
   refine rg j0<|u<|asg j0<|zc ?_
   refine zp ?_
   obtain rfl:=h
   exact ⟨_,j0,[],ci j0,j0,j5,j0,j1⟩
  ·
   replace h:=bF i h
   refine zm ?_
   refine rg j0<|u<|asg j0<|zc ?_
   refine zp ?_
   obtain rfl:=h
   exact ⟨_,j0,[],ci j0,j0,j5,j0,j1⟩
def zck (a:Bool):Bool :=
  cond a (true) (false)
def zi2 (a:Int):Bool :=
  cond (a == (20:Int)) (zck (a == (20:Int))) (cond (a == (46:Int)) (zck (a == (46:Int))) (cond (a == (47:Int)) (zck (a == (47:Int))) (cond (a == (48:Int)) (zck (a == (48:Int))) (cond (a == (58:Int)) (zck (a == (58:Int))) (zck (a == (61:Int)))))))
theorem zno (a:Int) {r:Bool} (h:zi2 a=r):zF Tryz.prog 212 [iA a] (bA r):=by
 refine zr Tryz.func212 j0 (by kernel_rfl) j0 j0 ?_
 unfold zi2 at h
 refine rg j0<|u<|asg j0<|zc ?_
 refine zl ?_
 refine rg j0<|u<|mv j0<|zc ?_
 refine zs ?_
 refine zb3 (X:=Bool) (fun z=>[(4,bA z)]) (fun z=>[]) (fun z=>zck z=r) ?_ ?_
 ·
  refine rg j0<|u<|eql ti3 j0 j0<|u<|asg j0<|zc ?_
  refine zk j0 (fun b=>?_) (fun b=>?_)
  ·
   replace h:=bT b h
   refine zm ?_
   exact ⟨(a == (20:Int)),h,[],ce j0 j0<|cn,j0,j5,j0,j1⟩
  ·
   replace h:=bF b h
   refine rg j0<|u<|eql ti3 j0 j0<|u<|asg j0<|zc ?_
   refine zk j0 (fun c=>?_) (fun c=>?_)
   ·
    replace h:=bT c h
    refine zm ?_
    exact ⟨(a == (46:Int)),h,[],ce j0 j0<|cn,j0,j5,j0,j1⟩
   ·
    replace h:=bF c h
    refine rg j0<|u<|eql ti3 j0 j0<|u<|asg j0<|zc ?_
    refine zk j0 (fun d=>?_) (fun d=>?_)
    ·
     replace h:=bT d h
     refine zm ?_
     exact ⟨(a == (47:Int)),h,[],ce j0 j0<|cn,j0,j5,j0,j1⟩
    ·
     replace h:=bF d h
     refine rg j0<|u<|eql ti3 j0 j0<|u<|asg j0<|zc ?_
     refine zk j0 (fun e=>?_) (fun e=>?_)
     ·
      replace h:=bT e h
      refine zm ?_
      exact ⟨(a == (48:Int)),h,[],ce j0 j0<|cn,j0,j5,j0,j1⟩
     ·
      replace h:=bF e h
      refine rg j0<|u<|eql ti3 j0 j0<|u<|asg j0<|zc ?_
      refine zk j0 (fun f=>?_) (fun f=>?_)
      ·
       replace h:=bT f h
       refine zm ?_
       exact ⟨(a == (58:Int)),h,[],ce j0 j0<|cn,j0,j5,j0,j1⟩
      ·
       replace h:=bF f h
       exact rl j0<|u<|eql ti3 j0 j0<|u<|asg j0<|zc (⟨(a == (61:Int)),h,[],ce j0 j0<|cn,j0,j5,j0,j1⟩)
 ·
  rintro j h
  replace h:zck j=r:=h
  unfold zck at h
  refine zk j0 (fun i=>?_) (fun i=>?_)
  ·
   replace h:=bT i h
   refine rg j0<|u<|asg j0<|zc ?_
   refine zp ?_
   obtain rfl:=h
   exact ⟨_,j0,[],ci j0,j0,j5,j0,j1⟩
  ·
   replace h:=bF i h
   refine zm ?_
   refine rg j0<|u<|asg j0<|zc ?_
   refine zp ?_
   obtain rfl:=h
   exact ⟨_,j0,[],ci j0,j0,j5,j0,j1⟩
end
end Go.Proofs.YthmnlfenkhmmhaaGreat
namespace Go.Proofs.YthmnlfenkhmmhaaGreat
noncomputable section
set_option linter.unusedSimpArgs false
set_option linter.unusedVariables false
set_option maxRecDepth 100000
set_option maxHeartbeats 4000000
structure zt where
  Name:List UInt8
  Type_:List UInt8
  Static:Bool
def zW (x:zt):List AV:=[sA x.Name,sA x.Type_,bA x.Static]
structure zaY where
  At:Int
  Locals:List (List UInt8)
  Stack:List (List UInt8)
def zaf (x:zaY):List AV:=[iA x.At,.isl 1 (List.map zz x.Locals),.isl 1 (List.map zz x.Stack)]
structure zaI where
  From:Int
  To:Int
  At:Int
  C:List UInt8
def zb4 (x:zaI):List AV:=[iA x.From,iA x.To,iA x.At,sA x.C]
structure zi where
  Name:List UInt8
  Params:List (List UInt8)
  Ret:List UInt8
  Static:Bool
  Abstract:Bool
  Locals:Int
  Stack:Int
  Code:List z3
  Maps:List zaY
  Traps:List zaI
def zq (x:zi):List AV:=[sA x.Name,.isl 1 (List.map zz x.Params),sA x.Ret,bA x.Static,bA x.Abstract,iA x.Locals,iA x.Stack,.isl 4 (List.map zau x.Code),.isl 3 (List.map zaf x.Maps),.isl 4 (List.map zb4 x.Traps)]
structure za where
  Name:List UInt8
  Super:List UInt8
  Interface:Bool
  Impl:List (List UInt8)
  Fields:List zt
  Methods:List zi
def zb (x:za):List AV:=[sA x.Name,sA x.Super,bA x.Interface,.isl 1 (List.map zz x.Impl),.isl 3 (List.map zW x.Fields),.isl 10 (List.map zq x.Methods)]
def zfv (a:zt):Option (Bool) :=
  (zfB a.Name).bind fun b=>(cond (b&&(!(a.Name == [36,105,110,105,116]))) ((zfX a.Type_).bind fun c=>some c) (some false)).bind fun d=>some d
theorem zkT (d:zt) {r:Bool} (h:zfv d=some r):zF Tryz.prog 151 [.agg (zW d)] (bA r):=by
 refine zr Tryz.func151 j0 (by kernel_rfl) j0 j0 ?_
 unfold zfv at h
 refine rg j0<|u<|bx 0 3 j0 j0 j0 j0<|u<|asg j0<|zc ?_
 obtain ⟨l,e,h⟩:=bs h
 obtain ⟨f,c,h⟩:=bs h
 refine rg j0<|u<|fa zcG j0 j0 j0<|u<|ld ti9 j0 j0<|u<|pc (zhA d.Name e) j0 j0 j0<|u<|mv j0<|z2 (j:=3) 3 j0 j0 j0 j0 j0 gpn (fun a=>g j0 a<|fa zcG j0 j0 j0<|g j0 a<|ld ti9 j0 j0<|g j0 a<|sne ti9 j0 j0<|zc (egA [7,8,9] 3 a j0 j0 j0 j0)) zdb<|u<|mv j0<|z2 (x:=f) (j:=8) 3 j0 j0 j0 j0 j0 gpn (fun b=>by replace c:=bT b c; obtain ⟨m,i,c⟩:=bs c; obtain rfl:=sm c; exact g j0 b<|fa zcG j0 j0 j0<|g j0 b<|ld ti9 j0 j0<|g j0 b<|pc (zgN d.Type_ i) j0 j0 j0<|zc (eg [12,13,14] 3 j0 j0 j0 j0)) (fun hb=>(sm (bF hb c)).symm)<|u<|asg j0<|zc ?_
 refine zp ?_
 obtain rfl:=sm h
 exact ⟨_,j0,[],ci j0,j0,j5,j0,j1⟩
def zbH (a:zt):(List UInt8) :=
  a.Name
theorem zh5 (a:zt) {r:(List UInt8)} (h:zbH a=r):zF Tryz.prog 150 [.agg (zW a)] (sA r):=by
 refine zr Tryz.func150 j0 (by kernel_rfl) j0 j0 ?_
 unfold zbH at h
 refine rg j0<|u<|bx 0 3 j0 j0 j0 j0<|u<|asg j0<|zc ?_
 refine rg j0<|u<|fa zcG j0 j0 j0<|u<|ld ti9 j0 j0<|u<|asg j0<|zc ?_
 refine zp ?_
 obtain rfl:=h
 exact ⟨_,j0,[],ci j0,j0,j5,j0,j1⟩
def zdj (a:zt) (b:List UInt8) (c:List UInt8) (d:Bool):Bool :=
  ((zbH (zt.mk b c d)) == (zbH a))
theorem zf9 (a:zt) (b:List UInt8) (c:List UInt8) (d:Bool) {r:Bool} (h:zdj a b c d=r):zF Tryz.prog 235 [.agg (zW a),.ipt 1 [[.fn (.func 150) [] []]] 0 0,.ipt 3 [[sA b,sA c,bA d]] 0 0] (bA r):=by
 refine zr Tryz.func235 j0 (by kernel_rfl) j0 j0 ?_
 unfold zdj at h
 refine rg j0<|u<|bx 0 3 j0 j0 j0 j0<|u<|asg j0<|zc ?_
 refine rd [(4,bA ((zbH (zt.mk b c d)) == (zbH a)))] [] [] [7,6,5,4,3,2,1,0] [(4,bA ((zbH (zt.mk b c d)) == (zbH a))),(11,bA ((zbH (zt.mk b c d)) == (zbH a))),(10,sA (zbH a)),(9,.agg (zW a)),(8,.fn (.func 150) [] []),(7,sA (zbH (zt.mk b c d))),(6,.agg [sA b,sA c,bA d]),(5,.fn (.func 150) [] [])] 0 (by kernel_rfl) (by kernel_rfl) j0 (by kernel_rfl) (dt0 ⟨(fun _=>pa j0 j0 j0 j0 (asg j0<|j4)),(fun _=>pa j0 j0 j0 j0 (seq ti9 j0 j0<|j4)),(fun _=>pa j0 j0 j0 j0 (pc (zh5 a j0) j0 j0 j0<|j4)),(fun _=>pa j0 j0 j0 j0 (ld zcG j0 j0<|j4)),(fun _=>pa j0 j0 j0 j0 (ld zvt j0 j0<|j4)),(fun _=>pa j0 j0 j0 j0 (pc (zh5 (zt.mk b c d) j0) j0 j0 j0<|j4)),(fun _=>pa j0 j0 j0 j0 (ld zcG j0 j0<|j4)),(fun _=>pa j0 j0 j0 j0 (ld zvt j0 j0<|j4)),j5⟩ (by kernel_rfl) j0 ⟨[],ce j0 j0<|cn,j0,j5,j0,j1⟩) ?_
 refine zp ?_
 obtain rfl:=h
 exact ⟨_,j0,[],ci j0,j0,j5,j0,j1⟩
def zai:Option (Int) :=
  some (-1)
def zJ (b:List zt) (c:List UInt8) (d:List UInt8) (e:Bool) (a:Int):Option (Sum (Int) (Sum (Unit) (Int))) :=
  cond (decide (a < (List.length b:Int))) ((idx b a).bind fun f=>cond (zdj f c d e) (some (.inr (.inr a))) (some (.inl (IntKind.i64.wrap (a+1))))) (some (.inr (.inl ())))
def zax (a:List zt) (c:List UInt8) (d:List UInt8) (e:Bool):Option (Int) :=
  (zu (fun z=>zJ a c d e z) 0).bind fun o=>zQ o (fun b=>zai) some
theorem zdB (a:List zt) (c:List UInt8) (d:List UInt8) (e:Bool) {r:Int} (h:zax a c d e=some r):zF Tryz.prog 315 [.isl 3 (List.map zW a),.fn (.func 235) [] [.ipt 1 [[.fn (.func 150) [] []]] 0 0,.ipt 3 [[sA c,sA d,bA e]] 0 0]] (iA r):=by
 refine zr Tryz.func315 j0 (by kernel_rfl) j0 j0 ?_
 unfold zax at h
 refine rg j0<|u<|asg j0<|zc ?_
 refine zl ?_
 refine rg j0<|u<|mv j0<|u<|lnI zes j0 j0<|u<|mv j0<|zc ?_
 obtain ⟨o,ho,h⟩:=bs h
 refine zU (X:=Int) (B:=Unit) (R:=Int) (fun z=>[(0,.isl 3 (List.map zW a)),(1,.fn (.func 235) [] [.ipt 1 [[.fn (.func 150) [] []]] 0 0,.ipt 3 [[sA c,sA d,bA e]] 0 0]),(7,iA (List.length a:Int)),(8,iA z)]) (fun z=>[]) (fun b=>[]) (fun b=>[]) (fun r env st=>zaD Tryz.prog Tryz.f315 0 (iA r) [] env st) ho ⟨[],ce j0 j0<|ce j0 j0<|ce j0 j0<|ce j0 j0<|cn,j0,j5,j0,j1⟩ ?_ ?_ ?_
 ·
  rintro l r h
  replace h:zJ a c d e l=some r:=h
  unfold zJ at h
  refine rg j0<|u<|lss ti3 j0 j0<|zc ?_
  refine zl ?_
  refine zk j0 (fun f=>?_) (fun f=>?_)
  ·
   replace h:=bT f h
   refine zm ?_
   refine zl ?_
   refine zs ?_
   refine rg j0<|u<|mv j0<|u<|asg j0<|zc ?_
   obtain ⟨m,j,h⟩:=bs h
   refine rg j0<|u<|mv j0<|u<|mv j0<|u<|mv j0<|u<|ixI zes j0 zcG j0 j0 j0 j<|u<|ldI zcG j0 (zo j).2.2 j0<|u<|pc (zf9 m c d e j0) j0 j0 j0<|zc ?_
   refine zk j0 (fun i=>?_) (fun i=>?_)
   ·
    replace h:=bT i h
    refine rg j0<|u<|mv j0<|u<|asg j0<|zc ?_
    refine zp ?_
    obtain rfl:=sm h
    exact ⟨_,j0,_,j0,[],ci j0,j0,j5,j0,j1⟩
   ·
    replace h:=bF i h
    refine zm ?_
    refine rl j0<|u<|add ti3 j0 j0<|u<|mv j0<|zc ?_
    obtain rfl:=sm h
    exact ⟨_,j0,[],ce j0 j0<|ce j0 j0<|ce j0 j0<|ce j0 j0<|cn,j0,j5,j0,j1⟩
  ·
   replace h:=bF f h
   refine zB ?_
   obtain rfl:=sm h
   exact ⟨j0,_,j0,[],cn,j0,j5,j0,j1⟩
 ·
  rintro ⟨⟩ rfl
  replace h:zai=some r:=h
  unfold zai at h
  refine zx ?_
  refine rg j0<|u<|asg j0<|zc ?_
  refine zp ?_
  obtain rfl:=sm h
  exact ⟨_,j0,[],ci j0,j0,j5,j0,j1⟩
 ·
  rintro r' rfl env st hp
  obtain rfl:=sm h
  exact hp
def zX (a:List zt) (b:List UInt8) (c:List UInt8) (d:Bool):Option (Bool) :=
  (zax a b c d).bind fun e=>some (decide (0≤e))
theorem zcO (a:List zt) (b:List UInt8) (c:List UInt8) (d:Bool) {r:Bool} (h:zX a b c d=some r):zF Tryz.prog 234 [.isl 3 (List.map zW a),.fn (.func 235) [] [.ipt 1 [[.fn (.func 150) [] []]] 0 0,.ipt 3 [[sA b,sA c,bA d]] 0 0]] (bA r):=by
 refine zr Tryz.func234 j0 (by kernel_rfl) j0 j0 ?_
 unfold zX at h
 refine rg j0<|u<|asg j0<|zc ?_
 obtain ⟨f,e,h⟩:=bs h
 refine rg j0<|u<|mv j0<|u<|mv j0<|u<|pc (zdB a b c d e) j0 j0 j0<|u<|geq ti3 j0 j0<|u<|asg j0<|zc ?_
 refine zp ?_
 obtain rfl:=sm h
 exact ⟨_,j0,[],ci j0,j0,j5,j0,j1⟩
def zc1 (a:List zt) (b:Int):Option (Bool) :=
  some (decide ((List.length a:Int)≤b))
def zbn (c:List zt) (b:Int):Option (Sum (Int) (Sum (Unit) (Bool))) :=
  cond (decide (b < (List.length c:Int))) ((idx c b).bind fun a=>(zfv a).bind fun d=>(cond (!d) (some true) ((zkP c 0 b).bind fun e=>(zX e a.Name a.Type_ a.Static).bind fun f=>some f)).bind fun i=>cond i (some (.inr (.inr false))) (some (.inl (IntKind.i64.wrap (b+1))))) (some (.inr (.inl ())))
def zbW (a:List zt) (c:Int):Option (Bool) :=
  (zu (fun z=>zbn a z) 0).bind fun o=>zQ o (fun b=>zc1 a c) some
theorem zhi (e:List zt) (l:Int) {r:Bool} (h:zbW e l=some r):zF Tryz.prog 149 [.isl 3 (List.map zW e),iA l,.fn (.func 150) [] [],.fn (.func 151) [] []] (bA r):=by
 refine zr Tryz.func149 j0 (by kernel_rfl) j0 j0 ?_
 unfold zbW at h
 refine rg j0<|u<|bx 0 1 j0 j0 j0 j0<|u<|asg j0<|zc ?_
 refine zl ?_
 refine rg j0<|u<|mv j0<|u<|lnI zes j0 j0<|u<|mv j0<|zc ?_
 obtain ⟨o,ho,h⟩:=bs h
 refine zU (X:=Int) (B:=Unit) (R:=Bool) (fun z=>[(0,.isl 3 (List.map zW e)),(1,iA l),(3,.fn (.func 151) [] []),(6,.mpt 0 0 0),(11,.isl 3 (List.map zW e)),(12,iA (List.length e:Int)),(13,iA z)]) (fun z=>[some (1,[[.fn (.func 150) [] []]])]) (fun b=>[(0,.isl 3 (List.map zW e)),(1,iA l)]) (fun b=>[]) (fun r env st=>zaD Tryz.prog Tryz.f149 0 (bA r) [] env st) ho ⟨[.old 0],ce j0 j0<|ce j0 j0<|ce j0 j0<|cv j0 (.mpt j0)<|ce j0 j0<|ce j0 j0<|ce j0 j0<|cn,j0,⟨⟨_,j0,zn ⟨ci j0,j5⟩⟩,j5⟩,j0,j1⟩ ?_ ?_ ?_
 ·
  rintro q r h
  replace h:zbn e q=some r:=h
  unfold zbn at h
  refine rg j0<|u<|lss ti3 j0 j0<|zc ?_
  refine zl ?_
  refine zk j0 (fun m=>?_) (fun m=>?_)
  ·
   replace h:=bT m h
   refine zm ?_
   refine zl ?_
   refine zs ?_
   obtain ⟨i,n,h⟩:=bs h
   refine rg j0<|u<|mv j0<|u<|ixI zes j0 zcG j0 j0 j0 n<|u<|ldI zcG j0 (zo n).2.2 j0<|u<|al 1 zcG j0<|u<|asg j0<|u<|sto zcG j0 j0 j0<|zc ?_
   obtain ⟨E,s,h⟩:=bs h
   obtain ⟨v,d,h⟩:=bs h
   refine rg j0<|u<|mv j0<|u<|ld zcG j0 j0<|u<|pc (zkT i s) j0 j0 j0<|u<|nt j0<|u<|mv j0<|zdf (x:=v) (j:=4) 5 j0 j0 j0 j0 j0 gpn (fun c=>by replace d:=bF c d; obtain ⟨C,p,d⟩:=bs d; obtain ⟨F,D,d⟩:=bs d; obtain rfl:=sm d; exact g j0 c<|mv j0<|g j0 c<|mv j0<|g j0 c<|slI (a:=0) (b:=q) zes j0 zcG j0 j0 j0 (zmR j0 p) p<|g j0 c<|mf j0 j0<|g j0 c<|pcs (zcO C i.Name i.Type_ i.Static D) j0 j0 (.cons (si j0) (.cons (zif j5 ⟨(zbM j0 ⟨(si j0),j5⟩),(zbM j0 ⟨(si j0),(si j0),(si j0),j5⟩),j5⟩) .nil)) zek<|zc (eg [23,24,25,26,27] 5 j0 j0 j0 j0)) (fun hb=>(sm (bT hb d)).symm)<|zc ?_
   refine zk j0 (fun f=>?_) (fun f=>?_)
   ·
    replace h:=bT f h
    refine rg j0<|u<|asg j0<|zc ?_
    refine zp ?_
    obtain rfl:=sm h
    exact ⟨_,j0,_,j0,[],ci j0,j0,j5,j0,j1⟩
   ·
    replace h:=bF f h
    refine zm ?_
    refine rl j0<|u<|add ti3 j0 j0<|u<|mv j0<|zc ?_
    obtain rfl:=sm h
    exact ⟨_,j0,[.old 0],ce j0 j0<|ce j0 j0<|ce j0 j0<|cv j0 (.mpt j0)<|ce j0 j0<|ce j0 j0<|ce j0 j0<|cn,j0,⟨⟨_,j0,zn ⟨ci j0,j5⟩⟩,j5⟩,j0,j1⟩
  ·
   replace h:=bF m h
   refine zB ?_
   obtain rfl:=sm h
   exact ⟨j0,_,j0,[],ce j0 j0<|ce j0 j0<|cn,j0,j5,j0,j1⟩
 ·
  rintro ⟨⟩ rfl
  replace h:zc1 e l=some r:=h
  unfold zc1 at h
  refine zx ?_
  refine rg j0<|u<|mv j0<|u<|lnI zes j0 j0<|u<|mv j0<|u<|leq ti3 j0 j0<|u<|asg j0<|zc ?_
  refine zp ?_
  obtain rfl:=sm h
  exact ⟨_,j0,[],ci j0,j0,j5,j0,j1⟩
 ·
  rintro r' rfl env st hp
  obtain rfl:=sm h
  exact hp
def zfj (a:List UInt8):Option (Bool) :=
  (zfX a).bind fun b=>some (!b)
theorem zjX (a:List UInt8) {r:Bool} (h:zfj a=some r):zF Tryz.prog 324 [sA a,.ipt 1 [[.fn (.func 153) [] []]] 0 0] (bA r):=by
 refine zr Tryz.func324 j0 (by kernel_rfl) j0 j0 ?_
 unfold zfj at h
 refine rg j0<|u<|asg j0<|zc ?_
 obtain ⟨c,b,h⟩:=bs h
 refine rg j0<|u<|ld zvr j0 j0<|u<|mv j0<|u<|pc (zgN a b) j0 j0 j0<|u<|nt j0<|u<|asg j0<|zc ?_
 refine zp ?_
 obtain rfl:=sm h
 exact ⟨_,j0,[],ci j0,j0,j5,j0,j1⟩
def zaL:Option (Int) :=
  some (-1)
def zY (b:List (List UInt8)) (a:Int):Option (Sum (Int) (Sum (Unit) (Int))) :=
  cond (decide (a < (List.length b:Int))) ((idx b a).bind fun c=>(zfj c).bind fun d=>cond d (some (.inr (.inr a))) (some (.inl (IntKind.i64.wrap (a+1))))) (some (.inr (.inl ())))
def za3 (a:List (List UInt8)):Option (Int) :=
  (zu (fun z=>zY a z) 0).bind fun o=>zQ o (fun b=>zaL) some
theorem zeE (a:List (List UInt8)) {r:Int} (h:za3 a=some r):zF Tryz.prog 181 [.isl 1 (List.map zz a),.fn (.func 324) [] [.ipt 1 [[.fn (.func 153) [] []]] 0 0]] (iA r):=by
 refine zr Tryz.func181 j0 (by kernel_rfl) j0 j0 ?_
 unfold za3 at h
 refine rg j0<|u<|asg j0<|zc ?_
 refine zl ?_
 refine rg j0<|u<|mv j0<|u<|lnI zak j0 j0<|u<|mv j0<|zc ?_
 obtain ⟨o,ho,h⟩:=bs h
 refine zU (X:=Int) (B:=Unit) (R:=Int) (fun z=>[(0,.isl 1 (List.map zz a)),(1,.fn (.func 324) [] [.ipt 1 [[.fn (.func 153) [] []]] 0 0]),(7,iA (List.length a:Int)),(8,iA z)]) (fun z=>[]) (fun b=>[]) (fun b=>[]) (fun r env st=>zaD Tryz.prog Tryz.f181 0 (iA r) [] env st) ho ⟨[],ce j0 j0<|ce j0 j0<|ce j0 j0<|ce j0 j0<|cn,j0,j5,j0,j1⟩ ?_ ?_ ?_
 ·
  rintro f r h
  replace h:zY a f=some r:=h
  unfold zY at h
  refine rg j0<|u<|lss ti3 j0 j0<|zc ?_
  refine zl ?_
  refine zk j0 (fun c=>?_) (fun c=>?_)
  ·
   replace h:=bT c h
   refine zm ?_
   refine zl ?_
   refine zs ?_
   refine rg j0<|u<|mv j0<|u<|asg j0<|zc ?_
   obtain ⟨i,e,h⟩:=bs h
   obtain ⟨l,j,h⟩:=bs h
   refine rg j0<|u<|mv j0<|u<|mv j0<|u<|mv j0<|u<|ixI zak j0 ti9 j0 j0 j0 e<|u<|ldI ti9 j0 (zo e).2.2 j0<|u<|pc (zjX i j) j0 j0 j0<|zc ?_
   refine zk j0 (fun d=>?_) (fun d=>?_)
   ·
    replace h:=bT d h
    refine rg j0<|u<|mv j0<|u<|asg j0<|zc ?_
    refine zp ?_
    obtain rfl:=sm h
    exact ⟨_,j0,_,j0,[],ci j0,j0,j5,j0,j1⟩
   ·
    replace h:=bF d h
    refine zm ?_
    refine rl j0<|u<|add ti3 j0 j0<|u<|mv j0<|zc ?_
    obtain rfl:=sm h
    exact ⟨_,j0,[],ce j0 j0<|ce j0 j0<|ce j0 j0<|ce j0 j0<|cn,j0,j5,j0,j1⟩
  ·
   replace h:=bF c h
   refine zB ?_
   obtain rfl:=sm h
   exact ⟨j0,_,j0,[],cn,j0,j5,j0,j1⟩
 ·
  rintro ⟨⟩ rfl
  replace h:zaL=some r:=h
  unfold zaL at h
  refine zx ?_
  refine rg j0<|u<|asg j0<|zc ?_
  refine zp ?_
  obtain rfl:=sm h
  exact ⟨_,j0,[],ci j0,j0,j5,j0,j1⟩
 ·
  rintro r' rfl env st hp
  obtain rfl:=sm h
  exact hp
def zaK (a:List (List UInt8)):Option (Bool) :=
  (za3 a).bind fun b=>some (decide (0≤b))
theorem zdX (a:List (List UInt8)) {r:Bool} (h:zaK a=some r):zF Tryz.prog 99 [.isl 1 (List.map zz a),.fn (.func 324) [] [.ipt 1 [[.fn (.func 153) [] []]] 0 0]] (bA r):=by
 refine zr Tryz.func99 j0 (by kernel_rfl) j0 j0 ?_
 unfold zaK at h
 refine rg j0<|u<|asg j0<|zc ?_
 obtain ⟨c,b,h⟩:=bs h
 refine rg j0<|u<|mv j0<|u<|mv j0<|u<|pc (zeE a b) j0 j0 j0<|u<|geq ti3 j0 j0<|u<|asg j0<|zc ?_
 refine zp ?_
 obtain rfl:=sm h
 exact ⟨_,j0,[],ci j0,j0,j5,j0,j1⟩
def zfx (a:List (List UInt8)):Option (Bool) :=
  (zaK a).bind fun b=>some (!b)
theorem zkZ (a:List (List UInt8)) {r:Bool} (h:zfx a=some r):zF Tryz.prog 241 [.isl 1 (List.map zz a),.fn (.func 153) [] []] (bA r):=by
 refine zr Tryz.func241 j0 (by kernel_rfl) j0 j0 ?_
 unfold zfx at h
 refine rg j0<|u<|bx 0 1 j0 j0 j0 j0<|u<|asg j0<|zc ?_
 obtain ⟨c,b,h⟩:=bs h
 refine rg j0<|u<|mv j0<|u<|mf j0 j0<|u<|pcs (zdX a b) j0 j0 (.cons (si j0) (.cons (zif j5 ⟨(zbM j0 ⟨(si j0),j5⟩),j5⟩) .nil)) zek<|u<|nt j0<|u<|asg j0<|zc ?_
 refine zp ?_
 obtain rfl:=sm h
 exact ⟨_,j0,[],ci j0,j0,j5,j0,j1⟩
def ziQ (a:List UInt8):Option (Bool) :=
  (cond (a == [86]) (some true) ((zfX a).bind fun b=>some b)).bind fun c=>some c
theorem zn1 (c:List UInt8) {r:Bool} (h:ziQ c=some r):zF Tryz.prog 242 [sA c] (bA r):=by
 refine zr Tryz.func242 j0 (by kernel_rfl) j0 j0 ?_
 unfold ziQ at h
 refine rg j0<|u<|asg j0<|zc ?_
 obtain ⟨d,a,h⟩:=bs h
 refine rg j0<|u<|mv j0<|u<|seq ti9 j0 j0<|u<|mv j0<|zdf (x:=d) (j:=2) 2 j0 j0 j0 j0 j0 gpn (fun b=>by replace a:=bF b a; obtain ⟨f,e,a⟩:=bs a; obtain rfl:=sm a; exact g j0 b<|mv j0<|g j0 b<|pc (zgN c e) j0 j0 j0<|zc (eg [6,7] 2 j0 j0 j0 j0)) (fun hb=>(sm (bT hb a)).symm)<|u<|asg j0<|zc ?_
 refine zp ?_
 obtain rfl:=sm h
 exact ⟨_,j0,[],ci j0,j0,j5,j0,j1⟩
def zd7 (a:zi):Bool :=
  (((((!a.Static)&&(!(a.Name == [36,105,110,105,116])))&&(a.Locals == (0:Int)))&&(a.Stack == (0:Int)))&&((IntKind.i64.wrap ((IntKind.i64.wrap ((List.length a.Code:Int)+(List.length a.Maps:Int)))+(List.length a.Traps:Int))) == (0:Int)))
theorem zkV (e:zi) {r:Bool} (h:zd7 e=r):zF Tryz.prog 243 [.agg (zq e)] (bA r):=by
 refine zr Tryz.func243 j0 (by kernel_rfl) j0 j0 ?_
 unfold zd7 at h
 refine rg j0<|u<|bx 0 10 j0 j0 j0 j0<|u<|asg j0<|zc ?_
 refine rg j0<|u<|fa zad j0 j0 j0<|u<|ld ti4 j0 j0<|u<|nt j0<|u<|mv j0<|z2 (j:=3) 3 j0 j0 j0 j0 j0 gpn (fun b=>g j0 b<|fa zad j0 j0 j0<|g j0 b<|ld ti9 j0 j0<|g j0 b<|sne ti9 j0 j0<|zc (egA [7,8,9] 3 b j0 j0 j0 j0)) zdb<|u<|mv j0<|z2 (j:=8) 3 j0 j0 j0 j0 j0 gpn (fun c=>g j0 c<|fa zad j0 j0 j0<|g j0 c<|ld ti3 j0 j0<|g j0 c<|eql ti3 j0 j0<|zc (egA [12,13,14] 3 c j0 j0 j0 j0)) zdb<|u<|mv j0<|z2 (j:=13) 3 j0 j0 j0 j0 j0 gpn (fun d=>g j0 d<|fa zad j0 j0 j0<|g j0 d<|ld ti3 j0 j0<|g j0 d<|eql ti3 j0 j0<|zc (egA [17,18,19] 3 d j0 j0 j0 j0)) zdb<|u<|mv j0<|z2 (j:=18) 12 j0 j0 j0 j0 j0 gpn (fun a=>g j0 a<|fa zad j0 j0 j0<|g j0 a<|ld zeT j0 j0<|g j0 a<|lnI zeT j0 j0<|g j0 a<|fa zad j0 j0 j0<|g j0 a<|ld zfr j0 j0<|g j0 a<|lnI zfr j0 j0<|g j0 a<|add ti3 j0 j0<|g j0 a<|fa zad j0 j0 j0<|g j0 a<|ld zj9 j0 j0<|g j0 a<|lnI zj9 j0 j0<|g j0 a<|add ti3 j0 j0<|g j0 a<|eql ti3 j0 j0<|zc (egA [22,23,24,25,26,27,28,29,30,31,32,33] 12 a j0 j0 j0 j0)) zdb<|u<|asg j0<|zc ?_
 refine zp ?_
 obtain rfl:=h
 exact ⟨_,j0,[],ci j0,j0,j5,j0,j1⟩
def zA (a:zi):Int :=
  cond a.Static ((List.length a.Params:Int)) ((IntKind.i64.wrap ((List.length a.Params:Int)+1)))
theorem zeu (b:zi) {r:Int} (h:zA b=r):zF Tryz.prog 245 [.agg (zq b)] (iA r):=by
 refine zr Tryz.func245 j0 (by kernel_rfl) j0 j0 ?_
 unfold zA at h
 refine rg j0<|u<|bx 0 10 j0 j0 j0 j0<|u<|asg j0<|zc ?_
 refine zl ?_
 refine rg j0<|u<|fa zad j0 j0 j0<|u<|ld ti4 j0 j0<|zc ?_
 refine zk j0 (fun a=>?_) (fun a=>?_)
 ·
  replace h:=bT a h
  refine rg j0<|u<|fa zad j0 j0 j0<|u<|ld zak j0 j0<|u<|lnI zak j0 j0<|u<|asg j0<|zc ?_
  refine zp ?_
  obtain rfl:=h
  exact ⟨_,j0,[],ci j0,j0,j5,j0,j1⟩
 ·
  replace h:=bF a h
  refine zm ?_
  refine rg j0<|u<|fa zad j0 j0 j0<|u<|ld zak j0 j0<|u<|lnI zak j0 j0<|u<|add ti3 j0 j0<|u<|asg j0<|zc ?_
  refine zp ?_
  obtain rfl:=h
  exact ⟨_,j0,[],ci j0,j0,j5,j0,j1⟩
def zh (a:Int) (b:Int) (c:Int):Bool :=
  ((decide (b≤a))&&(decide (a≤c)))
theorem z8 (b:Int) (c:Int) (d:Int) {r:Bool} (h:zh b c d=r):zF Tryz.prog 244 [iA b,iA c,iA d] (bA r):=by
 refine zr Tryz.func244 j0 (by kernel_rfl) j0 j0 ?_
 unfold zh at h
 refine rg j0<|u<|asg j0<|zc ?_
 refine rg j0<|u<|mv j0<|u<|mv j0<|u<|geq ti3 j0 j0<|u<|mv j0<|z2 (j:=3) 3 j0 j0 j0 j0 j0 gpn (fun a=>g j0 a<|mv j0<|g j0 a<|mv j0<|g j0 a<|leq ti3 j0 j0<|zc (egA [11,12,13] 3 a j0 j0 j0 j0)) zdb<|u<|asg j0<|zc ?_
 refine zp ?_
 obtain rfl:=h
 exact ⟨_,j0,[],ci j0,j0,j5,j0,j1⟩
def zcw (a:z3) (b:Int):Option (Bool) :=
  (znj a).bind fun c=>some ((!c)||((zgU a.Op)&&(decide (b≤a.A))))
theorem zgx (c:z3) (d:Int) {r:Bool} (h:zcw c d=some r):zF Tryz.prog 325 [.agg (zau c),.ipt 1 [[iA d]] 0 0] (bA r):=by
 refine zr Tryz.func325 j0 (by kernel_rfl) j0 j0 ?_
 unfold zcw at h
 refine rg j0<|u<|bx 0 4 j0 j0 j0 j0<|u<|asg j0<|zc ?_
 obtain ⟨f,e,h⟩:=bs h
 refine rg j0<|u<|ld zeU j0 j0<|u<|pc (zre c e) j0 j0 j0<|u<|nt j0<|u<|mv j0<|zdf (j:=3) 9 j0 j0 j0 j0 j0 gpn (fun a=>g j0 a<|fa zeU j0 j0 j0<|g j0 a<|ld ti3 j0 j0<|g j0 a<|pc (zkB c.Op j0) j0 j0 j0<|g j0 a<|mv j0<|z2 (j:=7) 4 j0 j0 j0 j0 j0 (gps j0 j0 a) (fun b=>g j0 b<|fa zeU j0 j0 j0<|g j0 b<|ld ti3 j0 j0<|g j0 b<|ld ti3 j0 j0<|g j0 b<|geq ti3 j0 j0<|zc (egA [12,13,14,15] 4 b j0 j0 j0 j0)) zdb<|zc (egO [8,9,10,11,12,13,14,15,16] 5 a j0 j0 j0 j0)) orT<|u<|asg j0<|zc ?_
 refine zp ?_
 obtain rfl:=sm h
 exact ⟨_,j0,[],ci j0,j0,j5,j0,j1⟩
def zaH:Option (Int) :=
  some (-1)
def zT (b:List z3) (c:Int) (a:Int):Option (Sum (Int) (Sum (Unit) (Int))) :=
  cond (decide (a < (List.length b:Int))) ((idx b a).bind fun d=>(zcw d c).bind fun e=>cond e (some (.inr (.inr a))) (some (.inl (IntKind.i64.wrap (a+1))))) (some (.inr (.inl ())))
def zaR (a:List z3) (c:Int):Option (Int) :=
  (zu (fun z=>zT a c z) 0).bind fun o=>zQ o (fun b=>zaH) some
theorem zea (a:List z3) (c:Int) {r:Int} (h:zaR a c=some r):zF Tryz.prog 349 [.isl 4 (List.map zau a),.fn (.func 325) [] [.ipt 1 [[iA c]] 0 0]] (iA r):=by
 refine zr Tryz.func349 j0 (by kernel_rfl) j0 j0 ?_
 unfold zaR at h
 refine rg j0<|u<|asg j0<|zc ?_
 refine zl ?_
 refine rg j0<|u<|mv j0<|u<|lnI zeT j0 j0<|u<|mv j0<|zc ?_
 obtain ⟨o,ho,h⟩:=bs h
 refine zU (X:=Int) (B:=Unit) (R:=Int) (fun z=>[(0,.isl 4 (List.map zau a)),(1,.fn (.func 325) [] [.ipt 1 [[iA c]] 0 0]),(7,iA (List.length a:Int)),(8,iA z)]) (fun z=>[]) (fun b=>[]) (fun b=>[]) (fun r env st=>zaD Tryz.prog Tryz.f349 0 (iA r) [] env st) ho ⟨[],ce j0 j0<|ce j0 j0<|ce j0 j0<|ce j0 j0<|cn,j0,j5,j0,j1⟩ ?_ ?_ ?_
 ·
  rintro i r h
  replace h:zT a c i=some r:=h
  unfold zT at h
  refine rg j0<|u<|lss ti3 j0 j0<|zc ?_
  refine zl ?_
  refine zk j0 (fun d=>?_) (fun d=>?_)
  ·
   replace h:=bT d h
   refine zm ?_
   refine zl ?_
   refine zs ?_
   refine rg j0<|u<|mv j0<|u<|asg j0<|zc ?_
   obtain ⟨j,f,h⟩:=bs h
   obtain ⟨m,l,h⟩:=bs h
   refine rg j0<|u<|mv j0<|u<|mv j0<|u<|mv j0<|u<|ixI zeT j0 zeU j0 j0 j0 f<|u<|ldI zeU j0 (zo f).2.2 j0<|u<|pc (zgx j c l) j0 j0 j0<|zc ?_
   refine zk j0 (fun e=>?_) (fun e=>?_)
   ·
    replace h:=bT e h
    refine rg j0<|u<|mv j0<|u<|asg j0<|zc ?_
    refine zp ?_
    obtain rfl:=sm h
    exact ⟨_,j0,_,j0,[],ci j0,j0,j5,j0,j1⟩
   ·
    replace h:=bF e h
    refine zm ?_
    refine rl j0<|u<|add ti3 j0 j0<|u<|mv j0<|zc ?_
    obtain rfl:=sm h
    exact ⟨_,j0,[],ce j0 j0<|ce j0 j0<|ce j0 j0<|ce j0 j0<|cn,j0,j5,j0,j1⟩
  ·
   replace h:=bF d h
   refine zB ?_
   obtain rfl:=sm h
   exact ⟨j0,_,j0,[],cn,j0,j5,j0,j1⟩
 ·
  rintro ⟨⟩ rfl
  replace h:zaH=some r:=h
  unfold zaH at h
  refine zx ?_
  refine rg j0<|u<|asg j0<|zc ?_
  refine zp ?_
  obtain rfl:=sm h
  exact ⟨_,j0,[],ci j0,j0,j5,j0,j1⟩
 ·
  rintro r' rfl env st hp
  obtain rfl:=sm h
  exact hp
def z9 (a:List z3) (b:Int):Option (Bool) :=
  (zaR a b).bind fun c=>some (decide (0≤c))
theorem zdN (a:List z3) (b:Int) {r:Bool} (h:z9 a b=some r):zF Tryz.prog 304 [.isl 4 (List.map zau a),.fn (.func 325) [] [.ipt 1 [[iA b]] 0 0]] (bA r):=by
 refine zr Tryz.func304 j0 (by kernel_rfl) j0 j0 ?_
 unfold z9 at h
 refine rg j0<|u<|asg j0<|zc ?_
 obtain ⟨d,c,h⟩:=bs h
 refine rg j0<|u<|mv j0<|u<|mv j0<|u<|pc (zea a b c) j0 j0 j0<|u<|geq ti3 j0 j0<|u<|asg j0<|zc ?_
 refine zp ?_
 obtain rfl:=sm h
 exact ⟨_,j0,[],ci j0,j0,j5,j0,j1⟩
def zca (a:zi):Option (Bool) :=
  (cond (!(zh (List.length a.Code:Int) 1 100)) (some true) ((idx a.Code (IntKind.i64.wrap ((List.length a.Code:Int) - 1))).bind fun b=>some (!(zhF b.Op)))).bind fun c=>cond c (some false) ((z9 a.Code (List.length a.Code:Int)).bind fun d=>some (!d))
theorem zdk (c:zi) {r:Bool} (h:zca c=some r):zF Tryz.prog 246 [.agg (zq c)] (bA r):=by
 refine zr Tryz.func246 j0 (by kernel_rfl) j0 j0 ?_
 unfold zca at h
 refine rg j0<|u<|bx 0 10 j0 j0 j0 j0<|u<|asg j0<|zc ?_
 refine rg j0<|u<|fa zad j0 j0 j0<|u<|ld zeT j0 j0<|u<|lnI zeT j0 j0<|u<|al 1 ti3 j0<|u<|sto ti3 j0 j0 j0<|zc ?_
 refine zl ?_
 obtain ⟨f,b,h⟩:=bs h
 refine rg j0<|u<|ld ti3 j0 j0<|u<|pc (z8 (List.length c.Code:Int) 1 100 j0) j0 j0 j0<|u<|nt j0<|u<|mv j0<|zdf (x:=f) (j:=3) 9 j0 j0 j0 j0 j0 gpn (fun a=>by replace b:=bF a b; obtain ⟨i,e,b⟩:=bs b; obtain rfl:=sm b; exact g j0 a<|fa zad j0 j0 j0<|g j0 a<|ld zeT j0 j0<|g j0 a<|ld ti3 j0 j0<|g j0 a<|sub ti3 j0 j0<|g j0 a<|ixI zeT j0 zeU j0 j0 j0 e<|g j0 a<|fa zeU j0 j0 j0<|g j0 a<|ldI ti3 j0 (zo e).2.2 j0<|g j0 a<|pc (zpR i.Op j0) j0 j0 j0<|g j0 a<|nt j0<|zc (eg [11,12,13,14,15,16,17,18,19] 9 j0 j0 j0 j0)) (fun hb=>(sm (bT hb b)).symm)<|zc ?_
 refine zk j0 (fun d=>?_) (fun d=>?_)
 ·
  replace h:=bT d h
  refine rg j0<|u<|asg j0<|zc ?_
  refine zp ?_
  obtain rfl:=sm h
  exact ⟨_,j0,[],ci j0,j0,j5,j0,j1⟩
 ·
  replace h:=bF d h
  refine zm ?_
  obtain ⟨m,l,h⟩:=bs h
  refine rg j0<|u<|fa zad j0 j0 j0<|u<|ld zeT j0 j0<|u<|mf j0 j0<|u<|pcs (zdN c.Code (List.length c.Code:Int) l) j0 j0 (.cons (si j0) (.cons (zif j5 ⟨(zbM j0 ⟨(si j0),j5⟩),j5⟩) .nil)) zek<|u<|nt j0<|u<|asg j0<|zc ?_
  refine zp ?_
  obtain rfl:=sm h
  exact ⟨_,j0,[],ci j0,j0,j5,j0,j1⟩
def zgb (a:List UInt8):Option (Bool) :=
  (cond (((a == [73])||(a == [78]))||(a == [84])) (some true) ((zgO a).bind fun b=>some b)).bind fun c=>some c
theorem zlR (e:List UInt8) {r:Bool} (h:zgb e=some r):zF Tryz.prog 327 [sA e] (bA r):=by
 refine zr Tryz.func327 j0 (by kernel_rfl) j0 j0 ?_
 unfold zgb at h
 refine rg j0<|u<|asg j0<|zc ?_
 obtain ⟨f,a,h⟩:=bs h
 refine rg j0<|u<|mv j0<|u<|seq ti9 j0 j0<|u<|mv j0<|zdf (j:=2) 2 j0 j0 j0 j0 j0 gpn (fun b=>g j0 b<|mv j0<|g j0 b<|seq ti9 j0 j0<|zc (egO [6,7] 2 b j0 j0 j0 j0)) orT<|u<|mv j0<|zdf (j:=6) 2 j0 j0 j0 j0 j0 gpn (fun c=>g j0 c<|mv j0<|g j0 c<|seq ti9 j0 j0<|zc (egO [10,11] 2 c j0 j0 j0 j0)) orT<|u<|mv j0<|zdf (x:=f) (j:=10) 2 j0 j0 j0 j0 j0 gpn (fun d=>by replace a:=bF d a; obtain ⟨l,i,a⟩:=bs a; obtain rfl:=sm a; exact g j0 d<|mv j0<|g j0 d<|pc (zis e i) j0 j0 j0<|zc (eg [14,15] 2 j0 j0 j0 j0)) (fun hb=>(sm (bT hb a)).symm)<|u<|asg j0<|zc ?_
 refine zp ?_
 obtain rfl:=sm h
 exact ⟨_,j0,[],ci j0,j0,j5,j0,j1⟩
def zd2 (a:List UInt8):Option (Bool) :=
  (zgb a).bind fun b=>some (!b)
theorem zik (a:List UInt8) {r:Bool} (h:zd2 a=some r):zF Tryz.prog 324 [sA a,.ipt 1 [[.fn (.func 327) [] []]] 0 0] (bA r):=by
 refine zr Tryz.func324 j0 (by kernel_rfl) j0 j0 ?_
 unfold zd2 at h
 refine rg j0<|u<|asg j0<|zc ?_
 obtain ⟨c,b,h⟩:=bs h
 refine rg j0<|u<|ld zvr j0 j0<|u<|mv j0<|u<|pc (zlR a b) j0 j0 j0<|u<|nt j0<|u<|asg j0<|zc ?_
 refine zp ?_
 obtain rfl:=sm h
 exact ⟨_,j0,[],ci j0,j0,j5,j0,j1⟩
def zay:Option (Int) :=
  some (-1)
def zM (b:List (List UInt8)) (a:Int):Option (Sum (Int) (Sum (Unit) (Int))) :=
  cond (decide (a < (List.length b:Int))) ((idx b a).bind fun c=>(zd2 c).bind fun d=>cond d (some (.inr (.inr a))) (some (.inl (IntKind.i64.wrap (a+1))))) (some (.inr (.inl ())))
def zaM (a:List (List UInt8)):Option (Int) :=
  (zu (fun z=>zM a z) 0).bind fun o=>zQ o (fun b=>zay) some
theorem zdY (a:List (List UInt8)) {r:Int} (h:zaM a=some r):zF Tryz.prog 181 [.isl 1 (List.map zz a),.fn (.func 324) [] [.ipt 1 [[.fn (.func 327) [] []]] 0 0]] (iA r):=by
 refine zr Tryz.func181 j0 (by kernel_rfl) j0 j0 ?_
 unfold zaM at h
 refine rg j0<|u<|asg j0<|zc ?_
 refine zl ?_
 refine rg j0<|u<|mv j0<|u<|lnI zak j0 j0<|u<|mv j0<|zc ?_
 obtain ⟨o,ho,h⟩:=bs h
 refine zU (X:=Int) (B:=Unit) (R:=Int) (fun z=>[(0,.isl 1 (List.map zz a)),(1,.fn (.func 324) [] [.ipt 1 [[.fn (.func 327) [] []]] 0 0]),(7,iA (List.length a:Int)),(8,iA z)]) (fun z=>[]) (fun b=>[]) (fun b=>[]) (fun r env st=>zaD Tryz.prog Tryz.f181 0 (iA r) [] env st) ho ⟨[],ce j0 j0<|ce j0 j0<|ce j0 j0<|ce j0 j0<|cn,j0,j5,j0,j1⟩ ?_ ?_ ?_
 ·
  rintro f r h
  replace h:zM a f=some r:=h
  unfold zM at h
  refine rg j0<|u<|lss ti3 j0 j0<|zc ?_
  refine zl ?_
  refine zk j0 (fun c=>?_) (fun c=>?_)
  ·
   replace h:=bT c h
   refine zm ?_
   refine zl ?_
   refine zs ?_
   refine rg j0<|u<|mv j0<|u<|asg j0<|zc ?_
   obtain ⟨i,e,h⟩:=bs h
   obtain ⟨l,j,h⟩:=bs h
   refine rg j0<|u<|mv j0<|u<|mv j0<|u<|mv j0<|u<|ixI zak j0 ti9 j0 j0 j0 e<|u<|ldI ti9 j0 (zo e).2.2 j0<|u<|pc (zik i j) j0 j0 j0<|zc ?_
   refine zk j0 (fun d=>?_) (fun d=>?_)
   ·
    replace h:=bT d h
    refine rg j0<|u<|mv j0<|u<|asg j0<|zc ?_
    refine zp ?_
    obtain rfl:=sm h
    exact ⟨_,j0,_,j0,[],ci j0,j0,j5,j0,j1⟩
   ·
    replace h:=bF d h
    refine zm ?_
    refine rl j0<|u<|add ti3 j0 j0<|u<|mv j0<|zc ?_
    obtain rfl:=sm h
    exact ⟨_,j0,[],ce j0 j0<|ce j0 j0<|ce j0 j0<|ce j0 j0<|cn,j0,j5,j0,j1⟩
  ·
   replace h:=bF c h
   refine zB ?_
   obtain rfl:=sm h
   exact ⟨j0,_,j0,[],cn,j0,j5,j0,j1⟩
 ·
  rintro ⟨⟩ rfl
  replace h:zay=some r:=h
  unfold zay at h
  refine zx ?_
  refine rg j0<|u<|asg j0<|zc ?_
  refine zp ?_
  obtain rfl:=sm h
  exact ⟨_,j0,[],ci j0,j0,j5,j0,j1⟩
 ·
  rintro r' rfl env st hp
  obtain rfl:=sm h
  exact hp
def zaw (a:List (List UInt8)):Option (Bool) :=
  (zaM a).bind fun b=>some (decide (0≤b))
theorem zdx (a:List (List UInt8)) {r:Bool} (h:zaw a=some r):zF Tryz.prog 99 [.isl 1 (List.map zz a),.fn (.func 324) [] [.ipt 1 [[.fn (.func 327) [] []]] 0 0]] (bA r):=by
 refine zr Tryz.func99 j0 (by kernel_rfl) j0 j0 ?_
 unfold zaw at h
 refine rg j0<|u<|asg j0<|zc ?_
 obtain ⟨c,b,h⟩:=bs h
 refine rg j0<|u<|mv j0<|u<|mv j0<|u<|pc (zdY a b) j0 j0 j0<|u<|geq ti3 j0 j0<|u<|asg j0<|zc ?_
 refine zp ?_
 obtain rfl:=sm h
 exact ⟨_,j0,[],ci j0,j0,j5,j0,j1⟩
def zcR (a:List (List UInt8)):Option (Bool) :=
  (zaw a).bind fun b=>some (!b)
theorem zgd (a:List (List UInt8)) {r:Bool} (h:zcR a=some r):zF Tryz.prog 241 [.isl 1 (List.map zz a),.fn (.func 327) [] []] (bA r):=by
 refine zr Tryz.func241 j0 (by kernel_rfl) j0 j0 ?_
 unfold zcR at h
 refine rg j0<|u<|bx 0 1 j0 j0 j0 j0<|u<|asg j0<|zc ?_
 obtain ⟨c,b,h⟩:=bs h
 refine rg j0<|u<|mv j0<|u<|mf j0 j0<|u<|pcs (zdx a b) j0 j0 (.cons (si j0) (.cons (zif j5 ⟨(zbM j0 ⟨(si j0),j5⟩),j5⟩) .nil)) zek<|u<|nt j0<|u<|asg j0<|zc ?_
 refine zp ?_
 obtain rfl:=sm h
 exact ⟨_,j0,[],ci j0,j0,j5,j0,j1⟩
def za6:Option (Int) :=
  some (-1)
def zag (b:List (List UInt8)) (c:List UInt8) (a:Int):Option (Sum (Int) (Sum (Unit) (Int))) :=
  cond (decide (a < (List.length b:Int))) ((idx b a).bind fun d=>cond (c == d) (some (.inr (.inr a))) (some (.inl (IntKind.i64.wrap (a+1))))) (some (.inr (.inl ())))
def zbm (a:List (List UInt8)) (c:List UInt8):Option (Int) :=
  (zu (fun z=>zag a c z) 0).bind fun o=>zQ o (fun b=>za6) some
theorem zfe (a:List (List UInt8)) (e:List UInt8) {r:Int} (h:zbm a e=some r):zF Tryz.prog 131 [.isl 1 (List.map zz a),sA e] (iA r):=by
 refine zr Tryz.func131 j0 (by kernel_rfl) j0 j0 ?_
 unfold zbm at h
 refine rg j0<|u<|asg j0<|zc ?_
 refine zl ?_
 refine rg j0<|u<|mv j0<|u<|lnI zak j0 j0<|u<|mv j0<|zc ?_
 obtain ⟨o,ho,h⟩:=bs h
 refine zU (X:=Int) (B:=Unit) (R:=Int) (fun z=>[(0,.isl 1 (List.map zz a)),(1,sA e),(7,iA (List.length a:Int)),(8,iA z)]) (fun z=>[]) (fun b=>[]) (fun b=>[]) (fun r env st=>zaD Tryz.prog Tryz.f131 0 (iA r) [] env st) ho ⟨[],ce j0 j0<|ce j0 j0<|ce j0 j0<|ce j0 j0<|cn,j0,j5,j0,j1⟩ ?_ ?_ ?_
 ·
  rintro i r h
  replace h:zag a e i=some r:=h
  unfold zag at h
  refine rg j0<|u<|lss ti3 j0 j0<|zc ?_
  refine zl ?_
  refine zk j0 (fun c=>?_) (fun c=>?_)
  ·
   replace h:=bT c h
   refine zm ?_
   refine zl ?_
   refine zs ?_
   refine rg j0<|u<|mv j0<|u<|asg j0<|zc ?_
   obtain ⟨j,f,h⟩:=bs h
   refine rg j0<|u<|mv j0<|u<|mv j0<|u<|mv j0<|u<|ixI zak j0 ti9 j0 j0 j0 f<|u<|ldI ti9 j0 (zo f).2.2 j0<|u<|seq ti9 j0 j0<|zc ?_
   refine zk j0 (fun d=>?_) (fun d=>?_)
   ·
    replace h:=bT d h
    refine rg j0<|u<|mv j0<|u<|asg j0<|zc ?_
    refine zp ?_
    obtain rfl:=sm h
    exact ⟨_,j0,_,j0,[],ci j0,j0,j5,j0,j1⟩
   ·
    replace h:=bF d h
    refine zm ?_
    refine rl j0<|u<|add ti3 j0 j0<|u<|mv j0<|zc ?_
    obtain rfl:=sm h
    exact ⟨_,j0,[],ce j0 j0<|ce j0 j0<|ce j0 j0<|ce j0 j0<|cn,j0,j5,j0,j1⟩
  ·
   replace h:=bF c h
   refine zB ?_
   obtain rfl:=sm h
   exact ⟨j0,_,j0,[],cn,j0,j5,j0,j1⟩
 ·
  rintro ⟨⟩ rfl
  replace h:za6=some r:=h
  unfold za6 at h
  refine zx ?_
  refine rg j0<|u<|asg j0<|zc ?_
  refine zp ?_
  obtain rfl:=sm h
  exact ⟨_,j0,[],ci j0,j0,j5,j0,j1⟩
 ·
  rintro r' rfl env st hp
  obtain rfl:=sm h
  exact hp
def zZ (a:List (List UInt8)) (b:List UInt8):Option (Bool) :=
  (zbm a b).bind fun c=>some (decide (0≤c))
theorem zcv (a:List (List UInt8)) (b:List UInt8) {r:Bool} (h:zZ a b=some r):zF Tryz.prog 136 [.isl 1 (List.map zz a),sA b] (bA r):=by
 refine zr Tryz.func136 j0 (by kernel_rfl) j0 j0 ?_
 unfold zZ at h
 refine rg j0<|u<|asg j0<|zc ?_
 obtain ⟨d,c,h⟩:=bs h
 refine rg j0<|u<|mv j0<|u<|mv j0<|u<|pc (zfe a b c) j0 j0 j0<|u<|geq ti3 j0 j0<|u<|asg j0<|zc ?_
 refine zp ?_
 obtain rfl:=sm h
 exact ⟨_,j0,[],ci j0,j0,j5,j0,j1⟩
def zgy (a:zi):Option (Bool) :=
  some (decide ((List.length a.Maps:Int)≤100))
def zcb (b:zi) (c:Int) (a:zaY) (d:Bool):Option (Sum (Int) (Sum (Unit) (Bool))) :=
  cond d (some (.inr (.inr false))) ((cond ((!((List.length a.Locals:Int) == b.Locals))||(decide (b.Stack < (List.length a.Stack:Int)))) (some true) ((zcR a.Locals).bind fun e=>some (!e))).bind fun f=>(cond f (some true) ((zcR a.Stack).bind fun i=>some (!i))).bind fun j=>(cond j (some true) ((zZ a.Stack [84]).bind fun l=>some l)).bind fun m=>cond m (some (.inr (.inr false))) (some (.inl (IntKind.i64.wrap (c+1)))))
def zcc (c:zi) (a:Int):Option (Sum (Int) (Sum (Unit) (Bool))) :=
  cond (decide (a < (List.length c.Maps:Int))) ((idx c.Maps a).bind fun b=>cond (!(zh b.At 0 (IntKind.i64.wrap ((List.length c.Code:Int) - 1)))) (zcb c a b true) (cond (decide (0 < a)) ((idx c.Maps (IntKind.i64.wrap (a - 1))).bind fun d=>zcb c a b (decide (b.At≤d.At))) (zcb c a b false))) (some (.inr (.inl ())))
def zga (a:zi):Option (Bool) :=
  (zu (fun z=>zcc a z) 0).bind fun o=>zQ o (fun b=>zgy a) some
theorem ziI (e:zi) {r:Bool} (h:zga e=some r):zF Tryz.prog 247 [.agg (zq e)] (bA r):=by
 refine zr Tryz.func247 j0 (by kernel_rfl) j0 j0 ?_
 unfold zga at h
 refine rg j0<|u<|bx 0 10 j0 j0 j0 j0<|u<|asg j0<|zc ?_
 refine zl ?_
 refine rg j0<|u<|fa zad j0 j0 j0<|u<|ld zfr j0 j0<|u<|lnI zfr j0 j0<|u<|mv j0<|zc ?_
 obtain ⟨o,ho,h⟩:=bs h
 refine zU (X:=Int) (B:=Unit) (R:=Bool) (fun z=>[(1,.mpt 0 0 0),(6,.isl 3 (List.map zaf e.Maps)),(7,iA (List.length e.Maps:Int)),(8,iA z)]) (fun z=>[some (10,[(zq e)])]) (fun b=>[(1,.mpt 0 0 0)]) (fun b=>[some (10,[(zq e)])]) (fun r env st=>zaD Tryz.prog Tryz.f247 0 (bA r) [] env st) ho ⟨[.old 0],cv j0 (.mpt j0)<|ce j0 j0<|ce j0 j0<|ce j0 j0<|cn,j0,⟨⟨_,j0,zn (ciL j0)⟩,j5⟩,j0,j1⟩ ?_ ?_ ?_
 ·
  rintro c r h
  replace h:zcc e c=some r:=h
  unfold zcc at h
  refine rg j0<|u<|lss ti3 j0 j0<|zc ?_
  refine zl ?_
  refine zk j0 (fun C=>?_) (fun C=>?_)
  ·
   replace h:=bT C h
   refine zm ?_
   refine zl ?_
   refine zs ?_
   obtain ⟨a,F,h⟩:=bs h
   refine rg j0<|u<|mv j0<|u<|ixI zfr j0 zdh j0 j0 j0 F<|u<|ldI zdh j0 (zo F).2.2 j0<|u<|al 1 zdh j0<|u<|asg j0<|u<|sto zdh j0 j0 j0<|zc ?_
   refine zl ?_
   refine zb3 (X:=Bool) (fun z=>[(1,.mpt 0 0 0),(4,.mpt 1 0 0),(6,.isl 3 (List.map zaf e.Maps)),(7,iA (List.length e.Maps:Int)),(8,iA c),(36,bA z)]) (fun z=>[some (10,[(zq e)]),some (3,[(zaf a)])]) (fun z=>zcb e c a z=some r) ?_ ?_
   ·
    rcases bb (!(zh a.At 0 (IntKind.i64.wrap ((List.length e.Code:Int) - 1)))) with f | f
    ·
     replace h:=bT f h
     exact zI [] [23,22,21,20,19,18,17,16,15,14,13,12,11,10,9,8,7,6,5,4,3,2,1,0] [(36,bA true),(35,.lit undef),(34,.lit undef),(33,.lit undef),(32,.lit undef),(31,.lit undef),(30,.lit undef),(29,.lit undef),(28,.lit undef),(27,.lit undef),(26,.lit undef),(25,.lit undef),(24,.lit undef),(23,.lit undef),(22,.lit undef),(21,bA (!(zh a.At 0 (IntKind.i64.wrap ((List.length e.Code:Int) - 1))))),(20,bA (!(zh a.At 0 (IntKind.i64.wrap ((List.length e.Code:Int) - 1))))),(19,bA (zh a.At 0 (IntKind.i64.wrap ((List.length e.Code:Int) - 1)))),(18,iA (IntKind.i64.wrap ((List.length e.Code:Int) - 1))),(17,iA (List.length e.Code:Int)),(16,.isl 4 (List.map zau e.Code)),(15,.mpt 0 0 7),(14,iA a.At),(13,.mpt 1 0 0)] 0 (by kernel_rfl) (by kernel_rfl) j0 (by kernel_rfl) (dt0 ⟨(fun _=>pa j0 j0 j0 j0 (pkb j0 f j0<|j4)),(fun _=>pas (b:=(!(zh a.At 0 (IntKind.i64.wrap ((List.length e.Code:Int) - 1))))) j0 j0 j0 j0 f j0),(fun _=>pau j0 j0 j0 j0 j0),(fun _=>pau j0 j0 j0 j0 j0),(fun _=>pau j0 j0 j0 j0 j0),(fun _=>pau j0 j0 j0 j0 j0),(fun _=>pau j0 j0 j0 j0 j0),(fun _=>pau j0 j0 j0 j0 j0),(fun _=>pau j0 j0 j0 j0 j0),(fun _=>pau j0 j0 j0 j0 j0),(fun _=>pau j0 j0 j0 j0 j0),(fun _=>pau j0 j0 j0 j0 j0),(fun _=>pas (b:=(!(zh a.At 0 (IntKind.i64.wrap ((List.length e.Code:Int) - 1))))) j0 j0 j0 j0 f j0),(fun _=>pas (b:=(!(zh a.At 0 (IntKind.i64.wrap ((List.length e.Code:Int) - 1))))) j0 j0 j0 j0 f j0),(fun _=>pas (b:=(!(zh a.At 0 (IntKind.i64.wrap ((List.length e.Code:Int) - 1))))) j0 j0 j0 j0 f j0),(fun _=>pa j0 j0 j0 j0 (mv j0<|j4)),(fun _=>pa j0 j0 j0 j0 (nt j0<|j4)),(fun _=>pa j0 j0 j0 j0 (pc (z8 a.At 0 (IntKind.i64.wrap ((List.length e.Code:Int) - 1)) j0) j0 j0 j0<|j4)),(fun _=>pa j0 j0 j0 j0 (sub ti3 j0 j0<|j4)),(fun _=>pa j0 j0 j0 j0 (lnI zeT j0 j0<|j4)),(fun _=>pa j0 j0 j0 j0 (ld zeT j0 j0<|j4)),(fun _=>pa j0 j0 j0 j0 (fa zad j0 j0 j0<|j4)),(fun _=>pa j0 j0 j0 j0 (ld ti3 j0 j0<|j4)),(fun _=>pa j0 j0 j0 j0 (fa zdh j0 j0 j0<|j4)),j5⟩ (by kernel_rfl) j0 ⟨true,h,[.old 0,.old 1],cv j0 (.mpt j0)<|cv j0 (.mpt j0)<|ce j0 j0<|ce j0 j0<|ce j0 j0<|ce j0 j0<|cn,j0,⟨⟨_,j0,zn (ciL j0)⟩,⟨_,j0,zn (ciL j0)⟩,j5⟩,j0,j1⟩)
    ·
     replace h:=bF f h
     rcases bb (decide (0 < c)) with d | d
     ·
      replace h:=bT d h
      obtain ⟨v,G,h⟩:=bs h
      exact zI [] [23,22,21,20,19,18,17,16,15,14,13,12,11,10,9,8,7,6,5,4,3,2,1,0] [(36,bA (decide (a.At≤v.At))),(35,bA (decide (a.At≤v.At))),(34,bA (decide (a.At≤v.At))),(33,iA a.At),(32,.mpt 1 0 0),(31,iA v.At),(30,.ipt 3 (List.map zaf e.Maps) (Int.toNat (IntKind.i64.wrap (c - 1))) 0),(29,.ipt 3 (List.map zaf e.Maps) (Int.toNat (IntKind.i64.wrap (c - 1))) 0),(28,iA (IntKind.i64.wrap (c - 1))),(27,iA c),(26,.isl 3 (List.map zaf e.Maps)),(25,.mpt 0 0 8),(24,bA (decide (0 < c))),(23,bA (decide (0 < c))),(22,iA c),(21,bA (!(zh a.At 0 (IntKind.i64.wrap ((List.length e.Code:Int) - 1))))),(20,bA (!(zh a.At 0 (IntKind.i64.wrap ((List.length e.Code:Int) - 1))))),(19,bA (zh a.At 0 (IntKind.i64.wrap ((List.length e.Code:Int) - 1)))),(18,iA (IntKind.i64.wrap ((List.length e.Code:Int) - 1))),(17,iA (List.length e.Code:Int)),(16,.isl 4 (List.map zau e.Code)),(15,.mpt 0 0 7),(14,iA a.At),(13,.mpt 1 0 0)] 0 (by kernel_rfl) (by kernel_rfl) j0 (by kernel_rfl) (dt0 ⟨(fun _=>pa j0 j0 j0 j0 (pkb j0 f j0<|j4)),(fun _=>pag (b:=(!(zh a.At 0 (IntKind.i64.wrap ((List.length e.Code:Int) - 1))))) j0 j0 j0 j0 f j0 (pkb j0 d j0<|j4)),(fun _=>pag (b:=(decide (0 < c))) j0 j0 j0 j0 d j0 (geq ti3 j0 j0<|j4)),(fun _=>pag (b:=(decide (0 < c))) j0 j0 j0 j0 d j0 (ld ti3 j0 j0<|j4)),(fun _=>pag (b:=(decide (0 < c))) j0 j0 j0 j0 d j0 (fa zdh j0 j0 j0<|j4)),(fun _=>pag (b:=(decide (0 < c))) j0 j0 j0 j0 d j0 (ldI ti3 j0 (zo G).2.2 j0<|j4)),(fun _=>pag (b:=(decide (0 < c))) j0 j0 j0 j0 d j0 (fa zdh j0 j0 j0<|j4)),(fun _=>pag (b:=(decide (0 < c))) j0 j0 j0 j0 d j0 (ixI zfr j0 zdh j0 j0 j0 G<|j4)),(fun _=>pag (b:=(decide (0 < c))) j0 j0 j0 j0 d j0 (sub ti3 j0 j0<|j4)),(fun _=>pag (b:=(decide (0 < c))) j0 j0 j0 j0 d j0 (mv j0<|j4)),(fun _=>pag (b:=(decide (0 < c))) j0 j0 j0 j0 d j0 (ld zfr j0 j0<|j4)),(fun _=>pag (b:=(decide (0 < c))) j0 j0 j0 j0 d j0 (fa zad j0 j0 j0<|j4)),(fun _=>pag (b:=(!(zh a.At 0 (IntKind.i64.wrap ((List.length e.Code:Int) - 1))))) j0 j0 j0 j0 f j0 (mv j0<|j4)),(fun _=>pag (b:=(!(zh a.At 0 (IntKind.i64.wrap ((List.length e.Code:Int) - 1))))) j0 j0 j0 j0 f j0 (gtr ti3 j0 j0<|j4)),(fun _=>pag (b:=(!(zh a.At 0 (IntKind.i64.wrap ((List.length e.Code:Int) - 1))))) j0 j0 j0 j0 f j0 (mv j0<|j4)),(fun _=>pa j0 j0 j0 j0 (mv j0<|j4)),(fun _=>pa j0 j0 j0 j0 (nt j0<|j4)),(fun _=>pa j0 j0 j0 j0 (pc (z8 a.At 0 (IntKind.i64.wrap ((List.length e.Code:Int) - 1)) j0) j0 j0 j0<|j4)),(fun _=>pa j0 j0 j0 j0 (sub ti3 j0 j0<|j4)),(fun _=>pa j0 j0 j0 j0 (lnI zeT j0 j0<|j4)),(fun _=>pa j0 j0 j0 j0 (ld zeT j0 j0<|j4)),(fun _=>pa j0 j0 j0 j0 (fa zad j0 j0 j0<|j4)),(fun _=>pa j0 j0 j0 j0 (ld ti3 j0 j0<|j4)),(fun _=>pa j0 j0 j0 j0 (fa zdh j0 j0 j0<|j4)),j5⟩ (by kernel_rfl) j0 ⟨(decide (a.At≤v.At)),h,[.old 0,.old 1],cv j0 (.mpt j0)<|cv j0 (.mpt j0)<|ce j0 j0<|ce j0 j0<|ce j0 j0<|ce j0 j0<|cn,j0,⟨⟨_,j0,zn (ciL j0)⟩,⟨_,j0,zn (ciL j0)⟩,j5⟩,j0,j1⟩)
     ·
      replace h:=bF d h
      exact zI [] [23,22,21,20,19,18,17,16,15,14,13,12,11,10,9,8,7,6,5,4,3,2,1,0] [(36,bA false),(35,bA false),(34,.lit undef),(33,.lit undef),(32,.lit undef),(31,.lit undef),(30,.lit undef),(29,.lit undef),(28,.lit undef),(27,.lit undef),(26,.lit undef),(25,.lit undef),(24,bA (decide (0 < c))),(23,bA (decide (0 < c))),(22,iA c),(21,bA (!(zh a.At 0 (IntKind.i64.wrap ((List.length e.Code:Int) - 1))))),(20,bA (!(zh a.At 0 (IntKind.i64.wrap ((List.length e.Code:Int) - 1))))),(19,bA (zh a.At 0 (IntKind.i64.wrap ((List.length e.Code:Int) - 1)))),(18,iA (IntKind.i64.wrap ((List.length e.Code:Int) - 1))),(17,iA (List.length e.Code:Int)),(16,.isl 4 (List.map zau e.Code)),(15,.mpt 0 0 7),(14,iA a.At),(13,.mpt 1 0 0)] 0 (by kernel_rfl) (by kernel_rfl) j0 (by kernel_rfl) (dt0 ⟨(fun _=>pa j0 j0 j0 j0 (pkb j0 f j0<|j4)),(fun _=>pag (b:=(!(zh a.At 0 (IntKind.i64.wrap ((List.length e.Code:Int) - 1))))) j0 j0 j0 j0 f j0 (pkb j0 d j0<|j4)),(fun _=>pas (b:=(decide (0 < c))) j0 j0 j0 j0 d j0),(fun _=>pas (b:=(decide (0 < c))) j0 j0 j0 j0 d j0),(fun _=>pas (b:=(decide (0 < c))) j0 j0 j0 j0 d j0),(fun _=>pas (b:=(decide (0 < c))) j0 j0 j0 j0 d j0),(fun _=>pas (b:=(decide (0 < c))) j0 j0 j0 j0 d j0),(fun _=>pas (b:=(decide (0 < c))) j0 j0 j0 j0 d j0),(fun _=>pas (b:=(decide (0 < c))) j0 j0 j0 j0 d j0),(fun _=>pas (b:=(decide (0 < c))) j0 j0 j0 j0 d j0),(fun _=>pas (b:=(decide (0 < c))) j0 j0 j0 j0 d j0),(fun _=>pas (b:=(decide (0 < c))) j0 j0 j0 j0 d j0),(fun _=>pag (b:=(!(zh a.At 0 (IntKind.i64.wrap ((List.length e.Code:Int) - 1))))) j0 j0 j0 j0 f j0 (mv j0<|j4)),(fun _=>pag (b:=(!(zh a.At 0 (IntKind.i64.wrap ((List.length e.Code:Int) - 1))))) j0 j0 j0 j0 f j0 (gtr ti3 j0 j0<|j4)),(fun _=>pag (b:=(!(zh a.At 0 (IntKind.i64.wrap ((List.length e.Code:Int) - 1))))) j0 j0 j0 j0 f j0 (mv j0<|j4)),(fun _=>pa j0 j0 j0 j0 (mv j0<|j4)),(fun _=>pa j0 j0 j0 j0 (nt j0<|j4)),(fun _=>pa j0 j0 j0 j0 (pc (z8 a.At 0 (IntKind.i64.wrap ((List.length e.Code:Int) - 1)) j0) j0 j0 j0<|j4)),(fun _=>pa j0 j0 j0 j0 (sub ti3 j0 j0<|j4)),(fun _=>pa j0 j0 j0 j0 (lnI zeT j0 j0<|j4)),(fun _=>pa j0 j0 j0 j0 (ld zeT j0 j0<|j4)),(fun _=>pa j0 j0 j0 j0 (fa zad j0 j0 j0<|j4)),(fun _=>pa j0 j0 j0 j0 (ld ti3 j0 j0<|j4)),(fun _=>pa j0 j0 j0 j0 (fa zdh j0 j0 j0<|j4)),j5⟩ (by kernel_rfl) j0 ⟨false,h,[.old 0,.old 1],cv j0 (.mpt j0)<|cv j0 (.mpt j0)<|ce j0 j0<|ce j0 j0<|ce j0 j0<|ce j0 j0<|cn,j0,⟨⟨_,j0,zn (ciL j0)⟩,⟨_,j0,zn (ciL j0)⟩,j5⟩,j0,j1⟩)
   ·
    rintro H h
    replace h:zcb e c a H=some r:=h
    unfold zcb at h
    refine zk j0 (fun D=>?_) (fun D=>?_)
    ·
     replace h:=bT D h
     refine rg j0<|u<|asg j0<|zc ?_
     refine zp ?_
     obtain rfl:=sm h
     exact ⟨_,j0,_,j0,[],ci j0,j0,j5,j0,j1⟩
    ·
     replace h:=bF D h
     refine zm ?_
     obtain ⟨I,n,h⟩:=bs h
     obtain ⟨J,p,h⟩:=bs h
     obtain ⟨K,q,h⟩:=bs h
     refine rg j0<|u<|fa zdh j0 j0 j0<|u<|ld zak j0 j0<|u<|lnI zak j0 j0<|u<|fa zad j0 j0 j0<|u<|ld ti3 j0 j0<|u<|neq ti3 j0 j0<|u<|mv j0<|zdf (j:=6) 6 j0 j0 j0 j0 j0 gpn (fun i=>g j0 i<|fa zdh j0 j0 j0<|g j0 i<|ld zak j0 j0<|g j0 i<|lnI zak j0 j0<|g j0 i<|fa zad j0 j0 j0<|g j0 i<|ld ti3 j0 j0<|g j0 i<|gtr ti3 j0 j0<|zc (egO [44,45,46,47,48,49] 6 i j0 j0 j0 j0)) orT<|u<|mv j0<|zdf (x:=I) (j:=14) 4 j0 j0 j0 j0 j0 gpn (fun l=>by replace n:=bF l n; obtain ⟨O,L,n⟩:=bs n; obtain rfl:=sm n; exact g j0 l<|fa zdh j0 j0 j0<|g j0 l<|ld zak j0 j0<|g j0 l<|pc (zgd a.Locals L) j0 j0 j0<|g j0 l<|nt j0<|zc (eg [52,53,54,55] 4 j0 j0 j0 j0)) (fun hb=>(sm (bT hb n)).symm)<|u<|mv j0<|zdf (x:=J) (j:=20) 4 j0 j0 j0 j0 j0 gpn (fun m=>by replace p:=bF m p; obtain ⟨P,M,p⟩:=bs p; obtain rfl:=sm p; exact g j0 m<|fa zdh j0 j0 j0<|g j0 m<|ld zak j0 j0<|g j0 m<|pc (zgd a.Stack M) j0 j0 j0<|g j0 m<|nt j0<|zc (eg [58,59,60,61] 4 j0 j0 j0 j0)) (fun hb=>(sm (bT hb p)).symm)<|u<|mv j0<|zdf (x:=K) (j:=26) 3 j0 j0 j0 j0 j0 gpn (fun s=>by replace q:=bF s q; obtain ⟨Q,N,q⟩:=bs q; obtain rfl:=sm q; exact g j0 s<|fa zdh j0 j0 j0<|g j0 s<|ld zak j0 j0<|g j0 s<|pc (zcv a.Stack [84] N) j0 j0 j0<|zc (eg [64,65,66] 3 j0 j0 j0 j0)) (fun hb=>(sm (bT hb q)).symm)<|zc ?_
     refine zk j0 (fun E=>?_) (fun E=>?_)
     ·
      replace h:=bT E h
      refine rg j0<|u<|asg j0<|zc ?_
      refine zp ?_
      obtain rfl:=sm h
      exact ⟨_,j0,_,j0,[],ci j0,j0,j5,j0,j1⟩
     ·
      replace h:=bF E h
      refine zm ?_
      refine rl j0<|u<|add ti3 j0 j0<|u<|mv j0<|zc ?_
      obtain rfl:=sm h
      exact ⟨_,j0,[.old 0],cv j0 (.mpt j0)<|ce j0 j0<|ce j0 j0<|ce j0 j0<|cn,j0,⟨⟨_,j0,zn (ciL j0)⟩,j5⟩,j0,j1⟩
  ·
   replace h:=bF C h
   refine zB ?_
   obtain rfl:=sm h
   exact ⟨j0,_,j0,[.old 0],cv j0 (.mpt j0)<|cn,j0,⟨⟨_,j0,zn (ciL j0)⟩,j5⟩,j0,j1⟩
 ·
  rintro ⟨⟩ rfl
  replace h:zgy e=some r:=h
  unfold zgy at h
  refine zx ?_
  refine rg j0<|u<|fa zad j0 j0 j0<|u<|ld zfr j0 j0<|u<|lnI zfr j0 j0<|u<|leq ti3 j0 j0<|u<|asg j0<|zc ?_
  refine zp ?_
  obtain rfl:=sm h
  exact ⟨_,j0,[],ci j0,j0,j5,j0,j1⟩
 ·
  rintro r' rfl env st hp
  obtain rfl:=sm h
  exact hp
def zfi (a:zaI) (j:List UInt8) (l:List (List UInt8)) (m:List UInt8) (n:Bool) (o:Bool) (p:Int) (q:Int) (b:List z3) (f:List zaY) (i:List zaI):Option (Bool) :=
  (cond ((((decide (a.From < 0))||(decide (a.To≤a.From)))||(decide ((List.length b:Int) < a.To)))||(!(zh a.At 0 (IntKind.i64.wrap ((List.length b:Int) - 1))))) (some true) ((cond (!(a.C == [])) ((zcT a.C).bind fun c=>some (!c)) (some false)).bind fun d=>some d)).bind fun e=>some e
theorem zjW (l:zaI) (p:List UInt8) (q:List (List UInt8)) (s:List UInt8) (v:Bool) (B:Bool) (D:Int) (E:Int) (o:List z3) (m:List zaY) (n:List zaI) {r:Bool} (h:zfi l p q s v B D E o m n=some r):zF Tryz.prog 328 [.agg (zb4 l),.ipt 10 [[sA p,.isl 1 (List.map zz q),sA s,bA v,bA B,iA D,iA E,.isl 4 (List.map zau o),.isl 3 (List.map zaf m),.isl 4 (List.map zb4 n)]] 0 0] (bA r):=by
 refine zr Tryz.func328 j0 (by kernel_rfl) j0 j0 ?_
 unfold zfi at h
 refine rg j0<|u<|bx 0 4 j0 j0 j0 j0<|u<|asg j0<|zc ?_
 obtain ⟨F,f,h⟩:=bs h
 refine rg j0<|u<|fa ziD j0 j0 j0<|u<|ld ti3 j0 j0<|u<|lss ti3 j0 j0<|u<|mv j0<|zdf (j:=3) 5 j0 j0 j0 j0 j0 gpn (fun c=>g j0 c<|fa ziD j0 j0 j0<|g j0 c<|ld ti3 j0 j0<|g j0 c<|fa ziD j0 j0 j0<|g j0 c<|ld ti3 j0 j0<|g j0 c<|geq ti3 j0 j0<|zc (egO [8,9,10,11,12] 5 c j0 j0 j0 j0)) orT<|u<|mv j0<|zdf (j:=10) 6 j0 j0 j0 j0 j0 gpn (fun b=>g j0 b<|fa ziD j0 j0 j0<|g j0 b<|ld ti3 j0 j0<|g j0 b<|fa zad j0 j0 j0<|g j0 b<|ld zeT j0 j0<|g j0 b<|lnI zeT j0 j0<|g j0 b<|gtr ti3 j0 j0<|zc (egO [15,16,17,18,19,20] 6 b j0 j0 j0 j0)) orT<|u<|mv j0<|zdf (j:=18) 8 j0 j0 j0 j0 j0 gpn (fun a=>g j0 a<|fa ziD j0 j0 j0<|g j0 a<|ld ti3 j0 j0<|g j0 a<|fa zad j0 j0 j0<|g j0 a<|ld zeT j0 j0<|g j0 a<|lnI zeT j0 j0<|g j0 a<|sub ti3 j0 j0<|g j0 a<|pc (z8 l.At 0 (IntKind.i64.wrap ((List.length o:Int) - 1)) j0) j0 j0 j0<|g j0 a<|nt j0<|zc (egO [23,24,25,26,27,28,29,30] 8 a j0 j0 j0 j0)) orT<|u<|mv j0<|zdf (x:=F) (j:=28) 9 j0 j0 j0 j0 j0 gpn (fun d=>by replace f:=bF d f; obtain ⟨G,i,f⟩:=bs f; obtain rfl:=sm f; exact g j0 d<|fa ziD j0 j0 j0<|g j0 d<|ld ti9 j0 j0<|g j0 d<|sne ti9 j0 j0<|g j0 d<|mv j0<|z2 (x:=G) (j:=32) 4 j0 j0 j0 j0 j0 (gps j0 j0 d) (fun e=>by replace i:=bT e i; obtain ⟨I,H,i⟩:=bs i; obtain rfl:=sm i; exact g j0 e<|fa ziD j0 j0 j0<|g j0 e<|ld ti9 j0 j0<|g j0 e<|pc (zdF l.C H) j0 j0 j0<|g j0 e<|nt j0<|zc (eg [37,38,39,40] 4 j0 j0 j0 j0)) (fun hb=>(sm (bF hb i)).symm)<|zc (eg [33,34,35,36,37,38,39,40,41] 5 j0 j0 j0 j0)) (fun hb=>(sm (bT hb f)).symm)<|u<|asg j0<|zc ?_
 refine zp ?_
 obtain rfl:=sm h
 exact ⟨_,j0,[],ci j0,j0,j5,j0,j1⟩
def zas:Option (Int) :=
  some (-1)
def zL (b:List zaI) (i:List UInt8) (j:List (List UInt8)) (l:List UInt8) (m:Bool) (n:Bool) (o:Int) (p:Int) (q:List z3) (c:List zaY) (d:List zaI) (a:Int):Option (Sum (Int) (Sum (Unit) (Int))) :=
  cond (decide (a < (List.length b:Int))) ((idx b a).bind fun e=>(zfi e i j l m n o p q c d).bind fun f=>cond f (some (.inr (.inr a))) (some (.inl (IntKind.i64.wrap (a+1))))) (some (.inr (.inl ())))
def zaJ (d:List zaI) (e:List UInt8) (f:List (List UInt8)) (i:List UInt8) (j:Bool) (l:Bool) (m:Int) (n:Int) (p:List z3) (a:List zaY) (c:List zaI):Option (Int) :=
  (zu (fun z=>zL d e f i j l m n p a c z) 0).bind fun o=>zQ o (fun b=>zas) some
theorem zdS (d:List zaI) (e:List UInt8) (f:List (List UInt8)) (i:List UInt8) (j:Bool) (l:Bool) (m:Int) (n:Int) (p:List z3) (a:List zaY) (c:List zaI) {r:Int} (h:zaJ d e f i j l m n p a c=some r):zF Tryz.prog 348 [.isl 4 (List.map zb4 d),.fn (.func 328) [] [.ipt 10 [[sA e,.isl 1 (List.map zz f),sA i,bA j,bA l,iA m,iA n,.isl 4 (List.map zau p),.isl 3 (List.map zaf a),.isl 4 (List.map zb4 c)]] 0 0]] (iA r):=by
 refine zr Tryz.func348 j0 (by kernel_rfl) j0 j0 ?_
 unfold zaJ at h
 refine rg j0<|u<|asg j0<|zc ?_
 refine zl ?_
 refine rg j0<|u<|mv j0<|u<|lnI zj9 j0 j0<|u<|mv j0<|zc ?_
 obtain ⟨o,ho,h⟩:=bs h
 refine zU (X:=Int) (B:=Unit) (R:=Int) (fun z=>[(0,.isl 4 (List.map zb4 d)),(1,.fn (.func 328) [] [.ipt 10 [[sA e,.isl 1 (List.map zz f),sA i,bA j,bA l,iA m,iA n,.isl 4 (List.map zau p),.isl 3 (List.map zaf a),.isl 4 (List.map zb4 c)]] 0 0]),(7,iA (List.length d:Int)),(8,iA z)]) (fun z=>[]) (fun b=>[]) (fun b=>[]) (fun r env st=>zaD Tryz.prog Tryz.f348 0 (iA r) [] env st) ho ⟨[],ce j0 j0<|ce j0 j0<|ce j0 j0<|ce j0 j0<|cn,j0,j5,j0,j1⟩ ?_ ?_ ?_
 ·
  rintro v r h
  replace h:zL d e f i j l m n p a c v=some r:=h
  unfold zL at h
  refine rg j0<|u<|lss ti3 j0 j0<|zc ?_
  refine zl ?_
  refine zk j0 (fun q=>?_) (fun q=>?_)
  ·
   replace h:=bT q h
   refine zm ?_
   refine zl ?_
   refine zs ?_
   refine rg j0<|u<|mv j0<|u<|asg j0<|zc ?_
   obtain ⟨x,C,h⟩:=bs h
   obtain ⟨E,D,h⟩:=bs h
   refine rg j0<|u<|mv j0<|u<|mv j0<|u<|mv j0<|u<|ixI zj9 j0 ziD j0 j0 j0 C<|u<|ldI ziD j0 (zo C).2.2 j0<|u<|pc (zjW x e f i j l m n p a c D) j0 j0 j0<|zc ?_
   refine zk j0 (fun s=>?_) (fun s=>?_)
   ·
    replace h:=bT s h
    refine rg j0<|u<|mv j0<|u<|asg j0<|zc ?_
    refine zp ?_
    obtain rfl:=sm h
    exact ⟨_,j0,_,j0,[],ci j0,j0,j5,j0,j1⟩
   ·
    replace h:=bF s h
    refine zm ?_
    refine rl j0<|u<|add ti3 j0 j0<|u<|mv j0<|zc ?_
    obtain rfl:=sm h
    exact ⟨_,j0,[],ce j0 j0<|ce j0 j0<|ce j0 j0<|ce j0 j0<|cn,j0,j5,j0,j1⟩
  ·
   replace h:=bF q h
   refine zB ?_
   obtain rfl:=sm h
   exact ⟨j0,_,j0,[],cn,j0,j5,j0,j1⟩
 ·
  rintro ⟨⟩ rfl
  replace h:zas=some r:=h
  unfold zas at h
  refine zx ?_
  refine rg j0<|u<|asg j0<|zc ?_
  refine zp ?_
  obtain rfl:=sm h
  exact ⟨_,j0,[],ci j0,j0,j5,j0,j1⟩
 ·
  rintro r' rfl env st hp
  obtain rfl:=sm h
  exact hp
def zar (d:List zaI) (e:List UInt8) (f:List (List UInt8)) (i:List UInt8) (j:Bool) (l:Bool) (m:Int) (n:Int) (o:List z3) (a:List zaY) (b:List zaI):Option (Bool) :=
  (zaJ d e f i j l m n o a b).bind fun c=>some (decide (0≤c))
theorem zdg (c:List zaI) (d:List UInt8) (e:List (List UInt8)) (f:List UInt8) (i:Bool) (j:Bool) (l:Int) (m:Int) (n:List z3) (a:List zaY) (b:List zaI) {r:Bool} (h:zar c d e f i j l m n a b=some r):zF Tryz.prog 302 [.isl 4 (List.map zb4 c),.fn (.func 328) [] [.ipt 10 [[sA d,.isl 1 (List.map zz e),sA f,bA i,bA j,iA l,iA m,.isl 4 (List.map zau n),.isl 3 (List.map zaf a),.isl 4 (List.map zb4 b)]] 0 0]] (bA r):=by
 refine zr Tryz.func302 j0 (by kernel_rfl) j0 j0 ?_
 unfold zar at h
 refine rg j0<|u<|asg j0<|zc ?_
 obtain ⟨p,o,h⟩:=bs h
 refine rg j0<|u<|mv j0<|u<|mv j0<|u<|pc (zdS c d e f i j l m n a b o) j0 j0 j0<|u<|geq ti3 j0 j0<|u<|asg j0<|zc ?_
 refine zp ?_
 obtain rfl:=sm h
 exact ⟨_,j0,[],ci j0,j0,j5,j0,j1⟩
def zfw (a:zi):Option (Bool) :=
  (zar a.Traps a.Name a.Params a.Ret a.Static a.Abstract a.Locals a.Stack a.Code a.Maps a.Traps).bind fun b=>some ((!b)&&(decide ((List.length a.Traps:Int)≤6)))
theorem zkX (a:zi) {r:Bool} (h:zfw a=some r):zF Tryz.prog 248 [.agg (zq a)] (bA r):=by
 refine zr Tryz.func248 j0 (by kernel_rfl) j0 j0 ?_
 unfold zfw at h
 refine rg j0<|u<|bx 0 10 j0 j0 j0 j0<|u<|asg j0<|zc ?_
 obtain ⟨d,c,h⟩:=bs h
 refine rg j0<|u<|fa zad j0 j0 j0<|u<|ld zj9 j0 j0<|u<|mf j0 j0<|u<|pcs (zdg a.Traps a.Name a.Params a.Ret a.Static a.Abstract a.Locals a.Stack a.Code a.Maps a.Traps c) j0 j0 (.cons (si j0) (.cons (zif j5 ⟨(zbM j0 ⟨(si j0),(si j0),(si j0),(si j0),(si j0),(si j0),(si j0),(si j0),(si j0),(si j0),j5⟩),j5⟩) .nil)) zek<|u<|asg j0<|zc ?_
 refine rg j0<|u<|mv j0<|u<|nt j0<|u<|mv j0<|z2 (j:=2) 4 j0 j0 j0 j0 j0 gpn (fun b=>g j0 b<|fa zad j0 j0 j0<|g j0 b<|ld zj9 j0 j0<|g j0 b<|lnI zj9 j0 j0<|g j0 b<|leq ti3 j0 j0<|zc (egA [11,12,13,14] 4 b j0 j0 j0 j0)) zdb<|u<|asg j0<|zc ?_
 refine zp ?_
 obtain rfl:=sm h
 exact ⟨_,j0,[],ci j0,j0,j5,j0,j1⟩
def zbz (a:Bool):Option (Bool) :=
  some a
def ze3 (a:zi):Option (Bool) :=
  (zfB a.Name).bind fun b=>(cond ((!b)||(decide (6 < (List.length a.Params:Int)))) (some true) ((zfx a.Params).bind fun c=>some (!c))).bind fun d=>(cond d (some true) ((ziQ a.Ret).bind fun e=>some (!e))).bind fun f=>cond f (some false) (cond a.Abstract (some (zd7 a)) (cond ((a.Name == [36,105,110,105,116])&&(((!a.Static)||(decide (0 < (List.length a.Params:Int))))||(!(a.Ret == [86])))) (some false) (cond (zh a.Locals (zA a) 16) (cond (zh a.Stack 0 16) ((zca a).bind fun i=>cond i ((zga a).bind fun j=>cond j ((zfw a).bind fun l=>zbz l) (zbz false)) (zbz false)) (zbz false)) (zbz false))))
theorem zkn (a:zi) {r:Bool} (h:ze3 a=some r):zF Tryz.prog 157 [.agg (zq a)] (bA r):=by
 refine zr Tryz.func157 j0 (by kernel_rfl) j0 j0 ?_
 unfold ze3 at h
 refine rg j0<|u<|bx 0 10 j0 j0 j0 j0<|u<|asg j0<|zc ?_
 refine zl ?_
 obtain ⟨P,K,h⟩:=bs h
 obtain ⟨L,C,h⟩:=bs h
 obtain ⟨M,D,h⟩:=bs h
 refine rg j0<|u<|fa zad j0 j0 j0<|u<|ld ti9 j0 j0<|u<|pc (zhA a.Name K) j0 j0 j0<|u<|nt j0<|u<|mv j0<|zdf (j:=4) 4 j0 j0 j0 j0 j0 gpn (fun p=>g j0 p<|fa zad j0 j0 j0<|g j0 p<|ld zak j0 j0<|g j0 p<|lnI zak j0 j0<|g j0 p<|gtr ti3 j0 j0<|zc (egO [8,9,10,11] 4 p j0 j0 j0 j0)) orT<|u<|mv j0<|zdf (x:=L) (j:=10) 4 j0 j0 j0 j0 j0 gpn (fun q=>by replace C:=bF q C; obtain ⟨Q,N,C⟩:=bs C; obtain rfl:=sm C; exact g j0 q<|fa zad j0 j0 j0<|g j0 q<|ld zak j0 j0<|g j0 q<|pc (zkZ a.Params N) j0 j0 j0<|g j0 q<|nt j0<|zc (eg [14,15,16,17] 4 j0 j0 j0 j0)) (fun hb=>(sm (bT hb C)).symm)<|u<|mv j0<|zdf (x:=M) (j:=16) 4 j0 j0 j0 j0 j0 gpn (fun s=>by replace D:=bF s D; obtain ⟨R,O,D⟩:=bs D; obtain rfl:=sm D; exact g j0 s<|fa zad j0 j0 j0<|g j0 s<|ld ti9 j0 j0<|g j0 s<|pc (zn1 a.Ret O) j0 j0 j0<|g j0 s<|nt j0<|zc (eg [20,21,22,23] 4 j0 j0 j0 j0)) (fun hb=>(sm (bT hb D)).symm)<|zc ?_
 refine zk j0 (fun E=>?_) (fun E=>?_)
 ·
  replace h:=bT E h
  refine rg j0<|u<|asg j0<|zc ?_
  refine zp ?_
  obtain rfl:=sm h
  exact ⟨_,j0,[],ci j0,j0,j5,j0,j1⟩
 ·
  replace h:=bF E h
  refine zm ?_
  refine zl ?_
  refine rg j0<|u<|fa zad j0 j0 j0<|u<|ld ti4 j0 j0<|zc ?_
  refine zk j0 (fun v=>?_) (fun v=>?_)
  ·
   replace h:=bT v h
   refine rg j0<|u<|ld zad j0 j0<|u<|pc (zkV a j0) j0 j0 j0<|u<|asg j0<|zc ?_
   refine zp ?_
   obtain rfl:=sm h
   exact ⟨_,j0,[],ci j0,j0,j5,j0,j1⟩
  ·
   replace h:=bF v h
   refine zm ?_
   refine zl ?_
   refine rg j0<|u<|fa zad j0 j0 j0<|u<|ld ti9 j0 j0<|u<|seq ti9 j0 j0<|u<|mv j0<|z2 (j:=3) 14 j0 j0 j0 j0 j0 gpn (fun i=>g j0 i<|fa zad j0 j0 j0<|g j0 i<|ld ti4 j0 j0<|g j0 i<|nt j0<|g j0 i<|mv j0<|zdf (j:=7) 4 j0 j0 j0 j0 j0 (gps j0 j0 i) (fun m=>g j0 m<|fa zad j0 j0 j0<|g j0 m<|ld zak j0 j0<|g j0 m<|lnI zak j0 j0<|g j0 m<|gtr ti3 j0 j0<|zc (egO [37,38,39,40] 4 m j0 j0 j0 j0)) orT<|g j0 i<|mv j0<|zdf (j:=13) 3 j0 j0 j0 j0 j0 (gps j0 j0 i) (fun o=>g j0 o<|fa zad j0 j0 j0<|g j0 o<|ld ti9 j0 j0<|g j0 o<|sne ti9 j0 j0<|zc (egO [43,44,45] 3 o j0 j0 j0 j0)) orT<|zc (egA [33,34,35,36,37,38,39,40,41,42,43,44,45,46] 7 i j0 j0 j0 j0)) zdb<|zc ?_
   refine zk j0 (fun B=>?_) (fun B=>?_)
   ·
    replace h:=bT B h
    refine rg j0<|u<|asg j0<|zc ?_
    refine zp ?_
    obtain rfl:=sm h
    exact ⟨_,j0,[],ci j0,j0,j5,j0,j1⟩
   ·
    replace h:=bF B h
    refine zm ?_
    refine zb3 (X:=Bool) (fun z=>[(2,bA z)]) (fun z=>[]) (fun z=>zbz z=some r) ?_ ?_
    ·
     rcases bb (zh a.Locals (zA a) 16) with c | c
     ·
      replace h:=bT c h
      rcases bb (zh a.Stack 0 16) with d | d
      ·
       replace h:=bT d h
       obtain ⟨l,F,h⟩:=bs h
       rcases bb l with e | e
       ·
        replace h:=bT e h
        obtain ⟨n,H,h⟩:=bs h
        rcases bb n with f | f
        ·
         replace h:=bT f h
         obtain ⟨G,I,h⟩:=bs h
         exact zI [] [22,21,20,19,18,17,16,15,14,13,12,11,10,9,8,7,6,5,4,3,2,1,0] [(2,bA G),(69,bA G),(68,bA G),(67,.agg (zq a)),(66,bA n),(65,bA n),(64,bA n),(63,.agg (zq a)),(62,bA l),(61,bA l),(60,bA l),(59,.agg (zq a)),(58,bA (zh a.Stack 0 16)),(57,bA (zh a.Stack 0 16)),(56,bA (zh a.Stack 0 16)),(55,iA a.Stack),(54,.mpt 0 0 6),(53,bA (zh a.Locals (zA a) 16)),(52,bA (zh a.Locals (zA a) 16)),(51,iA (zA a)),(50,.agg (zq a)),(49,iA a.Locals),(48,.mpt 0 0 5)] 0 (by kernel_rfl) (by kernel_rfl) j0 (by kernel_rfl) (dt0 ⟨(fun _=>pa j0 j0 j0 j0 (asg j0<|j4)),(fun _=>pa j0 j0 j0 j0 (pkb j0 f j0<|j4)),(fun _=>pag (b:=n) j0 j0 j0 j0 f j0 (pc (zkX a I) j0 j0 j0<|j4)),(fun _=>pag (b:=n) j0 j0 j0 j0 f j0 (ld zad j0 j0<|j4)),(fun _=>pa j0 j0 j0 j0 (mv j0<|j4)),(fun _=>pa j0 j0 j0 j0 (pkb j0 e j0<|j4)),(fun _=>pag (b:=l) j0 j0 j0 j0 e j0 (pc (ziI a H) j0 j0 j0<|j4)),(fun _=>pag (b:=l) j0 j0 j0 j0 e j0 (ld zad j0 j0<|j4)),(fun _=>pa j0 j0 j0 j0 (mv j0<|j4)),(fun _=>pa j0 j0 j0 j0 (pkb j0 d j0<|j4)),(fun _=>pag (b:=(zh a.Stack 0 16)) j0 j0 j0 j0 d j0 (pc (zdk a F) j0 j0 j0<|j4)),(fun _=>pag (b:=(zh a.Stack 0 16)) j0 j0 j0 j0 d j0 (ld zad j0 j0<|j4)),(fun _=>pa j0 j0 j0 j0 (mv j0<|j4)),(fun _=>pa j0 j0 j0 j0 (pkb j0 c j0<|j4)),(fun _=>pag (b:=(zh a.Locals (zA a) 16)) j0 j0 j0 j0 c j0 (pc (z8 a.Stack 0 16 j0) j0 j0 j0<|j4)),(fun _=>pag (b:=(zh a.Locals (zA a) 16)) j0 j0 j0 j0 c j0 (ld ti3 j0 j0<|j4)),(fun _=>pag (b:=(zh a.Locals (zA a) 16)) j0 j0 j0 j0 c j0 (fa zad j0 j0 j0<|j4)),(fun _=>pa j0 j0 j0 j0 (mv j0<|j4)),(fun _=>pa j0 j0 j0 j0 (pc (z8 a.Locals (zA a) 16 j0) j0 j0 j0<|j4)),(fun _=>pa j0 j0 j0 j0 (pc (zeu a j0) j0 j0 j0<|j4)),(fun _=>pa j0 j0 j0 j0 (ld zad j0 j0<|j4)),(fun _=>pa j0 j0 j0 j0 (ld ti3 j0 j0<|j4)),(fun _=>pa j0 j0 j0 j0 (fa zad j0 j0 j0<|j4)),j5⟩ (by kernel_rfl) j0 ⟨G,h,[],ce j0 j0<|cn,j0,j5,j0,j1⟩)
        ·
         replace h:=bF f h
         exact zI [] [22,21,20,19,18,17,16,15,14,13,12,11,10,9,8,7,6,5,4,3,2,1,0] [(2,bA false),(69,bA false),(68,.lit undef),(67,.lit undef),(66,bA n),(65,bA n),(64,bA n),(63,.agg (zq a)),(62,bA l),(61,bA l),(60,bA l),(59,.agg (zq a)),(58,bA (zh a.Stack 0 16)),(57,bA (zh a.Stack 0 16)),(56,bA (zh a.Stack 0 16)),(55,iA a.Stack),(54,.mpt 0 0 6),(53,bA (zh a.Locals (zA a) 16)),(52,bA (zh a.Locals (zA a) 16)),(51,iA (zA a)),(50,.agg (zq a)),(49,iA a.Locals),(48,.mpt 0 0 5)] 0 (by kernel_rfl) (by kernel_rfl) j0 (by kernel_rfl) (dt0 ⟨(fun _=>pa j0 j0 j0 j0 (asg j0<|j4)),(fun _=>pa j0 j0 j0 j0 (pkb j0 f j0<|j4)),(fun _=>pas (b:=n) j0 j0 j0 j0 f j0),(fun _=>pas (b:=n) j0 j0 j0 j0 f j0),(fun _=>pa j0 j0 j0 j0 (mv j0<|j4)),(fun _=>pa j0 j0 j0 j0 (pkb j0 e j0<|j4)),(fun _=>pag (b:=l) j0 j0 j0 j0 e j0 (pc (ziI a H) j0 j0 j0<|j4)),(fun _=>pag (b:=l) j0 j0 j0 j0 e j0 (ld zad j0 j0<|j4)),(fun _=>pa j0 j0 j0 j0 (mv j0<|j4)),(fun _=>pa j0 j0 j0 j0 (pkb j0 d j0<|j4)),(fun _=>pag (b:=(zh a.Stack 0 16)) j0 j0 j0 j0 d j0 (pc (zdk a F) j0 j0 j0<|j4)),(fun _=>pag (b:=(zh a.Stack 0 16)) j0 j0 j0 j0 d j0 (ld zad j0 j0<|j4)),(fun _=>pa j0 j0 j0 j0 (mv j0<|j4)),(fun _=>pa j0 j0 j0 j0 (pkb j0 c j0<|j4)),(fun _=>pag (b:=(zh a.Locals (zA a) 16)) j0 j0 j0 j0 c j0 (pc (z8 a.Stack 0 16 j0) j0 j0 j0<|j4)),(fun _=>pag (b:=(zh a.Locals (zA a) 16)) j0 j0 j0 j0 c j0 (ld ti3 j0 j0<|j4)),(fun _=>pag (b:=(zh a.Locals (zA a) 16)) j0 j0 j0 j0 c j0 (fa zad j0 j0 j0<|j4)),(fun _=>pa j0 j0 j0 j0 (mv j0<|j4)),(fun _=>pa j0 j0 j0 j0 (pc (z8 a.Locals (zA a) 16 j0) j0 j0 j0<|j4)),(fun _=>pa j0 j0 j0 j0 (pc (zeu a j0) j0 j0 j0<|j4)),(fun _=>pa j0 j0 j0 j0 (ld zad j0 j0<|j4)),(fun _=>pa j0 j0 j0 j0 (ld ti3 j0 j0<|j4)),(fun _=>pa j0 j0 j0 j0 (fa zad j0 j0 j0<|j4)),j5⟩ (by kernel_rfl) j0 ⟨false,h,[],ce j0 j0<|cn,j0,j5,j0,j1⟩)
       ·
        replace h:=bF e h
        exact zI [] [22,21,20,19,18,17,16,15,14,13,12,11,10,9,8,7,6,5,4,3,2,1,0] [(2,bA false),(69,bA false),(68,.lit undef),(67,.lit undef),(66,bA false),(65,bA false),(64,.lit undef),(63,.lit undef),(62,bA l),(61,bA l),(60,bA l),(59,.agg (zq a)),(58,bA (zh a.Stack 0 16)),(57,bA (zh a.Stack 0 16)),(56,bA (zh a.Stack 0 16)),(55,iA a.Stack),(54,.mpt 0 0 6),(53,bA (zh a.Locals (zA a) 16)),(52,bA (zh a.Locals (zA a) 16)),(51,iA (zA a)),(50,.agg (zq a)),(49,iA a.Locals),(48,.mpt 0 0 5)] 0 (by kernel_rfl) (by kernel_rfl) j0 (by kernel_rfl) (dt0 ⟨(fun _=>pa j0 j0 j0 j0 (asg j0<|j4)),(fun _=>pa j0 j0 j0 j0 (pk (b:=false) j0 j0<|j4)),(fun _=>pas (b:=false) j0 j0 j0 j0 j0 j0),(fun _=>pas (b:=false) j0 j0 j0 j0 j0 j0),(fun _=>pa j0 j0 j0 j0 (mv j0<|j4)),(fun _=>pa j0 j0 j0 j0 (pkb j0 e j0<|j4)),(fun _=>pas (b:=l) j0 j0 j0 j0 e j0),(fun _=>pas (b:=l) j0 j0 j0 j0 e j0),(fun _=>pa j0 j0 j0 j0 (mv j0<|j4)),(fun _=>pa j0 j0 j0 j0 (pkb j0 d j0<|j4)),(fun _=>pag (b:=(zh a.Stack 0 16)) j0 j0 j0 j0 d j0 (pc (zdk a F) j0 j0 j0<|j4)),(fun _=>pag (b:=(zh a.Stack 0 16)) j0 j0 j0 j0 d j0 (ld zad j0 j0<|j4)),(fun _=>pa j0 j0 j0 j0 (mv j0<|j4)),(fun _=>pa j0 j0 j0 j0 (pkb j0 c j0<|j4)),(fun _=>pag (b:=(zh a.Locals (zA a) 16)) j0 j0 j0 j0 c j0 (pc (z8 a.Stack 0 16 j0) j0 j0 j0<|j4)),(fun _=>pag (b:=(zh a.Locals (zA a) 16)) j0 j0 j0 j0 c j0 (ld ti3 j0 j0<|j4)),(fun _=>pag (b:=(zh a.Locals (zA a) 16)) j0 j0 j0 j0 c j0 (fa zad j0 j0 j0<|j4)),(fun _=>pa j0 j0 j0 j0 (mv j0<|j4)),(fun _=>pa j0 j0 j0 j0 (pc (z8 a.Locals (zA a) 16 j0) j0 j0 j0<|j4)),(fun _=>pa j0 j0 j0 j0 (pc (zeu a j0) j0 j0 j0<|j4)),(fun _=>pa j0 j0 j0 j0 (ld zad j0 j0<|j4)),(fun _=>pa j0 j0 j0 j0 (ld ti3 j0 j0<|j4)),(fun _=>pa j0 j0 j0 j0 (fa zad j0 j0 j0<|j4)),j5⟩ (by kernel_rfl) j0 ⟨false,h,[],ce j0 j0<|cn,j0,j5,j0,j1⟩)
      ·
       replace h:=bF d h
       exact zI [] [22,21,20,19,18,17,16,15,14,13,12,11,10,9,8,7,6,5,4,3,2,1,0] [(2,bA false),(69,bA false),(68,.lit undef),(67,.lit undef),(66,bA false),(65,bA false),(64,.lit undef),(63,.lit undef),(62,bA false),(61,bA false),(60,.lit undef),(59,.lit undef),(58,bA (zh a.Stack 0 16)),(57,bA (zh a.Stack 0 16)),(56,bA (zh a.Stack 0 16)),(55,iA a.Stack),(54,.mpt 0 0 6),(53,bA (zh a.Locals (zA a) 16)),(52,bA (zh a.Locals (zA a) 16)),(51,iA (zA a)),(50,.agg (zq a)),(49,iA a.Locals),(48,.mpt 0 0 5)] 0 (by kernel_rfl) (by kernel_rfl) j0 (by kernel_rfl) (dt0 ⟨(fun _=>pa j0 j0 j0 j0 (asg j0<|j4)),(fun _=>pa j0 j0 j0 j0 (pk (b:=false) j0 j0<|j4)),(fun _=>pas (b:=false) j0 j0 j0 j0 j0 j0),(fun _=>pas (b:=false) j0 j0 j0 j0 j0 j0),(fun _=>pa j0 j0 j0 j0 (mv j0<|j4)),(fun _=>pa j0 j0 j0 j0 (pk (b:=false) j0 j0<|j4)),(fun _=>pas (b:=false) j0 j0 j0 j0 j0 j0),(fun _=>pas (b:=false) j0 j0 j0 j0 j0 j0),(fun _=>pa j0 j0 j0 j0 (mv j0<|j4)),(fun _=>pa j0 j0 j0 j0 (pkb j0 d j0<|j4)),(fun _=>pas (b:=(zh a.Stack 0 16)) j0 j0 j0 j0 d j0),(fun _=>pas (b:=(zh a.Stack 0 16)) j0 j0 j0 j0 d j0),(fun _=>pa j0 j0 j0 j0 (mv j0<|j4)),(fun _=>pa j0 j0 j0 j0 (pkb j0 c j0<|j4)),(fun _=>pag (b:=(zh a.Locals (zA a) 16)) j0 j0 j0 j0 c j0 (pc (z8 a.Stack 0 16 j0) j0 j0 j0<|j4)),(fun _=>pag (b:=(zh a.Locals (zA a) 16)) j0 j0 j0 j0 c j0 (ld ti3 j0 j0<|j4)),(fun _=>pag (b:=(zh a.Locals (zA a) 16)) j0 j0 j0 j0 c j0 (fa zad j0 j0 j0<|j4)),(fun _=>pa j0 j0 j0 j0 (mv j0<|j4)),(fun _=>pa j0 j0 j0 j0 (pc (z8 a.Locals (zA a) 16 j0) j0 j0 j0<|j4)),(fun _=>pa j0 j0 j0 j0 (pc (zeu a j0) j0 j0 j0<|j4)),(fun _=>pa j0 j0 j0 j0 (ld zad j0 j0<|j4)),(fun _=>pa j0 j0 j0 j0 (ld ti3 j0 j0<|j4)),(fun _=>pa j0 j0 j0 j0 (fa zad j0 j0 j0<|j4)),j5⟩ (by kernel_rfl) j0 ⟨false,h,[],ce j0 j0<|cn,j0,j5,j0,j1⟩)
     ·
      replace h:=bF c h
      exact zI [] [22,21,20,19,18,17,16,15,14,13,12,11,10,9,8,7,6,5,4,3,2,1,0] [(2,bA false),(69,bA false),(68,.lit undef),(67,.lit undef),(66,bA false),(65,bA false),(64,.lit undef),(63,.lit undef),(62,bA false),(61,bA false),(60,.lit undef),(59,.lit undef),(58,bA false),(57,bA false),(56,.lit undef),(55,.lit undef),(54,.lit undef),(53,bA (zh a.Locals (zA a) 16)),(52,bA (zh a.Locals (zA a) 16)),(51,iA (zA a)),(50,.agg (zq a)),(49,iA a.Locals),(48,.mpt 0 0 5)] 0 (by kernel_rfl) (by kernel_rfl) j0 (by kernel_rfl) (dt0 ⟨(fun _=>pa j0 j0 j0 j0 (asg j0<|j4)),(fun _=>pa j0 j0 j0 j0 (pk (b:=false) j0 j0<|j4)),(fun _=>pas (b:=false) j0 j0 j0 j0 j0 j0),(fun _=>pas (b:=false) j0 j0 j0 j0 j0 j0),(fun _=>pa j0 j0 j0 j0 (mv j0<|j4)),(fun _=>pa j0 j0 j0 j0 (pk (b:=false) j0 j0<|j4)),(fun _=>pas (b:=false) j0 j0 j0 j0 j0 j0),(fun _=>pas (b:=false) j0 j0 j0 j0 j0 j0),(fun _=>pa j0 j0 j0 j0 (mv j0<|j4)),(fun _=>pa j0 j0 j0 j0 (pk (b:=false) j0 j0<|j4)),(fun _=>pas (b:=false) j0 j0 j0 j0 j0 j0),(fun _=>pas (b:=false) j0 j0 j0 j0 j0 j0),(fun _=>pa j0 j0 j0 j0 (mv j0<|j4)),(fun _=>pa j0 j0 j0 j0 (pkb j0 c j0<|j4)),(fun _=>pas (b:=(zh a.Locals (zA a) 16)) j0 j0 j0 j0 c j0),(fun _=>pas (b:=(zh a.Locals (zA a) 16)) j0 j0 j0 j0 c j0),(fun _=>pas (b:=(zh a.Locals (zA a) 16)) j0 j0 j0 j0 c j0),(fun _=>pa j0 j0 j0 j0 (mv j0<|j4)),(fun _=>pa j0 j0 j0 j0 (pc (z8 a.Locals (zA a) 16 j0) j0 j0 j0<|j4)),(fun _=>pa j0 j0 j0 j0 (pc (zeu a j0) j0 j0 j0<|j4)),(fun _=>pa j0 j0 j0 j0 (ld zad j0 j0<|j4)),(fun _=>pa j0 j0 j0 j0 (ld ti3 j0 j0<|j4)),(fun _=>pa j0 j0 j0 j0 (fa zad j0 j0 j0<|j4)),j5⟩ (by kernel_rfl) j0 ⟨false,h,[],ce j0 j0<|cn,j0,j5,j0,j1⟩)
    ·
     rintro J h
     replace h:zbz J=some r:=h
     unfold zbz at h
     refine zp ?_
     obtain rfl:=sm h
     exact ⟨_,j0,[],ci j0,j0,j5,j0,j1⟩
def zgv (a:zi) (e:List UInt8) (f:List UInt8) (b:Bool) (i:List (List UInt8)) (j:List zt) (l:List zi):Option (Bool) :=
  (cond (a.Abstract == b) ((ze3 a).bind fun c=>some c) (some false)).bind fun d=>some d
theorem zkU (c:zi) (d:List UInt8) (e:List UInt8) (f:Bool) (i:List (List UInt8)) (l:List zt) (m:List zi) {r:Bool} (h:zgv c d e f i l m=some r):zF Tryz.prog 156 [.agg (zq c),.ipt 6 [[sA d,sA e,bA f,.isl 1 (List.map zz i),.isl 3 (List.map zW l),.isl 10 (List.map zq m)]] 0 0] (bA r):=by
 refine zr Tryz.func156 j0 (by kernel_rfl) j0 j0 ?_
 unfold zgv at h
 refine rg j0<|u<|bx 0 10 j0 j0 j0 j0<|u<|asg j0<|zc ?_
 obtain ⟨n,a,h⟩:=bs h
 refine rg j0<|u<|fa zad j0 j0 j0<|u<|ld ti4 j0 j0<|u<|fa zS j0 j0 j0<|u<|ld ti4 j0 j0<|u<|beq ti4 j0 j0 j0<|u<|mv j0<|z2 (x:=n) (j:=5) 2 j0 j0 j0 j0 j0 gpn (fun b=>by replace a:=bT b a; obtain ⟨p,o,a⟩:=bs a; obtain rfl:=sm a; exact g j0 b<|ld zad j0 j0<|g j0 b<|pc (zkn c o) j0 j0 j0<|zc (eg [10,11] 2 j0 j0 j0 j0)) (fun hb=>(sm (bF hb a)).symm)<|u<|asg j0<|zc ?_
 refine zp ?_
 obtain rfl:=sm h
 exact ⟨_,j0,[],ci j0,j0,j5,j0,j1⟩
def zbI (a:zi):(List UInt8) :=
  a.Name
theorem zh6 (a:zi) {r:(List UInt8)} (h:zbI a=r):zF Tryz.prog 155 [.agg (zq a)] (sA r):=by
 refine zr Tryz.func155 j0 (by kernel_rfl) j0 j0 ?_
 unfold zbI at h
 refine rg j0<|u<|bx 0 10 j0 j0 j0 j0<|u<|asg j0<|zc ?_
 refine rg j0<|u<|fa zad j0 j0 j0<|u<|ld ti9 j0 j0<|u<|asg j0<|zc ?_
 refine zp ?_
 obtain rfl:=h
 exact ⟨_,j0,[],ci j0,j0,j5,j0,j1⟩
def zc2 (c:zi) (d:List UInt8) (e:List (List UInt8)) (f:List UInt8) (i:Bool) (j:Bool) (l:Int) (m:Int) (n:List z3) (a:List zaY) (b:List zaI):Bool :=
  ((zbI (zi.mk d e f i j l m n a b)) == (zbI c))
theorem zf5 (c:zi) (d:List UInt8) (e:List (List UInt8)) (f:List UInt8) (i:Bool) (j:Bool) (l:Int) (m:Int) (n:List z3) (a:List zaY) (b:List zaI) {r:Bool} (h:zc2 c d e f i j l m n a b=r):zF Tryz.prog 240 [.agg (zq c),.ipt 1 [[.fn (.func 155) [] []]] 0 0,.ipt 10 [[sA d,.isl 1 (List.map zz e),sA f,bA i,bA j,iA l,iA m,.isl 4 (List.map zau n),.isl 3 (List.map zaf a),.isl 4 (List.map zb4 b)]] 0 0] (bA r):=by
 refine zr Tryz.func240 j0 (by kernel_rfl) j0 j0 ?_
 unfold zc2 at h
 refine rg j0<|u<|bx 0 10 j0 j0 j0 j0<|u<|asg j0<|zc ?_
 refine rd [(4,bA ((zbI (zi.mk d e f i j l m n a b)) == (zbI c)))] [] [] [7,6,5,4,3,2,1,0] [(4,bA ((zbI (zi.mk d e f i j l m n a b)) == (zbI c))),(11,bA ((zbI (zi.mk d e f i j l m n a b)) == (zbI c))),(10,sA (zbI c)),(9,.agg (zq c)),(8,.fn (.func 155) [] []),(7,sA (zbI (zi.mk d e f i j l m n a b))),(6,.agg [sA d,.isl 1 (List.map zz e),sA f,bA i,bA j,iA l,iA m,.isl 4 (List.map zau n),.isl 3 (List.map zaf a),.isl 4 (List.map zb4 b)]),(5,.fn (.func 155) [] [])] 0 (by kernel_rfl) (by kernel_rfl) j0 (by kernel_rfl) (dt0 ⟨(fun _=>pa j0 j0 j0 j0 (asg j0<|j4)),(fun _=>pa j0 j0 j0 j0 (seq ti9 j0 j0<|j4)),(fun _=>pa j0 j0 j0 j0 (pc (zh6 c j0) j0 j0 j0<|j4)),(fun _=>pa j0 j0 j0 j0 (ld zad j0 j0<|j4)),(fun _=>pa j0 j0 j0 j0 (ld zvu j0 j0<|j4)),(fun _=>pa j0 j0 j0 j0 (pc (zh6 (zi.mk d e f i j l m n a b) j0) j0 j0 j0<|j4)),(fun _=>pa j0 j0 j0 j0 (ld zad j0 j0<|j4)),(fun _=>pa j0 j0 j0 j0 (ld zvu j0 j0<|j4)),j5⟩ (by kernel_rfl) j0 ⟨[],ce j0 j0<|cn,j0,j5,j0,j1⟩) ?_
 refine zp ?_
 obtain rfl:=h
 exact ⟨_,j0,[],ci j0,j0,j5,j0,j1⟩
def zac:Option (Int) :=
  some (-1)
def zG (b:List zi) (f:List UInt8) (i:List (List UInt8)) (j:List UInt8) (l:Bool) (m:Bool) (n:Int) (o:Int) (p:List z3) (c:List zaY) (d:List zaI) (a:Int):Option (Sum (Int) (Sum (Unit) (Int))) :=
  cond (decide (a < (List.length b:Int))) ((idx b a).bind fun e=>cond (zc2 e f i j l m n o p c d) (some (.inr (.inr a))) (some (.inl (IntKind.i64.wrap (a+1))))) (some (.inr (.inl ())))
def zal (d:List zi) (e:List UInt8) (f:List (List UInt8)) (i:List UInt8) (j:Bool) (l:Bool) (m:Int) (n:Int) (p:List z3) (a:List zaY) (c:List zaI):Option (Int) :=
  (zu (fun z=>zG d e f i j l m n p a c z) 0).bind fun o=>zQ o (fun b=>zac) some
theorem zc6 (d:List zi) (e:List UInt8) (f:List (List UInt8)) (i:List UInt8) (j:Bool) (l:Bool) (m:Int) (n:Int) (p:List z3) (a:List zaY) (c:List zaI) {r:Int} (h:zal d e f i j l m n p a c=some r):zF Tryz.prog 225 [.isl 10 (List.map zq d),.fn (.func 240) [] [.ipt 1 [[.fn (.func 155) [] []]] 0 0,.ipt 10 [[sA e,.isl 1 (List.map zz f),sA i,bA j,bA l,iA m,iA n,.isl 4 (List.map zau p),.isl 3 (List.map zaf a),.isl 4 (List.map zb4 c)]] 0 0]] (iA r):=by
 refine zr Tryz.func225 j0 (by kernel_rfl) j0 j0 ?_
 unfold zal at h
 refine rg j0<|u<|asg j0<|zc ?_
 refine zl ?_
 refine rg j0<|u<|mv j0<|u<|lnI zh3 j0 j0<|u<|mv j0<|zc ?_
 obtain ⟨o,ho,h⟩:=bs h
 refine zU (X:=Int) (B:=Unit) (R:=Int) (fun z=>[(0,.isl 10 (List.map zq d)),(1,.fn (.func 240) [] [.ipt 1 [[.fn (.func 155) [] []]] 0 0,.ipt 10 [[sA e,.isl 1 (List.map zz f),sA i,bA j,bA l,iA m,iA n,.isl 4 (List.map zau p),.isl 3 (List.map zaf a),.isl 4 (List.map zb4 c)]] 0 0]),(7,iA (List.length d:Int)),(8,iA z)]) (fun z=>[]) (fun b=>[]) (fun b=>[]) (fun r env st=>zaD Tryz.prog Tryz.f225 0 (iA r) [] env st) ho ⟨[],ce j0 j0<|ce j0 j0<|ce j0 j0<|ce j0 j0<|cn,j0,j5,j0,j1⟩ ?_ ?_ ?_
 ·
  rintro v r h
  replace h:zG d e f i j l m n p a c v=some r:=h
  unfold zG at h
  refine rg j0<|u<|lss ti3 j0 j0<|zc ?_
  refine zl ?_
  refine zk j0 (fun q=>?_) (fun q=>?_)
  ·
   replace h:=bT q h
   refine zm ?_
   refine zl ?_
   refine zs ?_
   refine rg j0<|u<|mv j0<|u<|asg j0<|zc ?_
   obtain ⟨x,C,h⟩:=bs h
   refine rg j0<|u<|mv j0<|u<|mv j0<|u<|mv j0<|u<|ixI zh3 j0 zad j0 j0 j0 C<|u<|ldI zad j0 (zo C).2.2 j0<|u<|pc (zf5 x e f i j l m n p a c j0) j0 j0 j0<|zc ?_
   refine zk j0 (fun s=>?_) (fun s=>?_)
   ·
    replace h:=bT s h
    refine rg j0<|u<|mv j0<|u<|asg j0<|zc ?_
    refine zp ?_
    obtain rfl:=sm h
    exact ⟨_,j0,_,j0,[],ci j0,j0,j5,j0,j1⟩
   ·
    replace h:=bF s h
    refine zm ?_
    refine rl j0<|u<|add ti3 j0 j0<|u<|mv j0<|zc ?_
    obtain rfl:=sm h
    exact ⟨_,j0,[],ce j0 j0<|ce j0 j0<|ce j0 j0<|ce j0 j0<|cn,j0,j5,j0,j1⟩
  ·
   replace h:=bF q h
   refine zB ?_
   obtain rfl:=sm h
   exact ⟨j0,_,j0,[],cn,j0,j5,j0,j1⟩
 ·
  rintro ⟨⟩ rfl
  replace h:zac=some r:=h
  unfold zac at h
  refine zx ?_
  refine rg j0<|u<|asg j0<|zc ?_
  refine zp ?_
  obtain rfl:=sm h
  exact ⟨_,j0,[],ci j0,j0,j5,j0,j1⟩
 ·
  rintro r' rfl env st hp
  obtain rfl:=sm h
  exact hp
def zR (d:List zi) (e:List UInt8) (f:List (List UInt8)) (i:List UInt8) (j:Bool) (l:Bool) (m:Int) (n:Int) (o:List z3) (a:List zaY) (b:List zaI):Option (Bool) :=
  (zal d e f i j l m n o a b).bind fun c=>some (decide (0≤c))
theorem zcB (c:List zi) (d:List UInt8) (e:List (List UInt8)) (f:List UInt8) (i:Bool) (j:Bool) (l:Int) (m:Int) (n:List z3) (a:List zaY) (b:List zaI) {r:Bool} (h:zR c d e f i j l m n a b=some r):zF Tryz.prog 239 [.isl 10 (List.map zq c),.fn (.func 240) [] [.ipt 1 [[.fn (.func 155) [] []]] 0 0,.ipt 10 [[sA d,.isl 1 (List.map zz e),sA f,bA i,bA j,iA l,iA m,.isl 4 (List.map zau n),.isl 3 (List.map zaf a),.isl 4 (List.map zb4 b)]] 0 0]] (bA r):=by
 refine zr Tryz.func239 j0 (by kernel_rfl) j0 j0 ?_
 unfold zR at h
 refine rg j0<|u<|asg j0<|zc ?_
 obtain ⟨p,o,h⟩:=bs h
 refine rg j0<|u<|mv j0<|u<|mv j0<|u<|pc (zc6 c d e f i j l m n a b o) j0 j0 j0<|u<|geq ti3 j0 j0<|u<|asg j0<|zc ?_
 refine zp ?_
 obtain rfl:=sm h
 exact ⟨_,j0,[],ci j0,j0,j5,j0,j1⟩
def zcH (a:List zi) (b:Int):Option (Bool) :=
  some (decide ((List.length a:Int)≤b))
def zbd (c:List zi) (j:List UInt8) (l:List UInt8) (m:Bool) (n:List (List UInt8)) (o:List zt) (p:List zi) (b:Int):Option (Sum (Int) (Sum (Unit) (Bool))) :=
  cond (decide (b < (List.length c:Int))) ((idx c b).bind fun a=>(zgv a j l m n o p).bind fun d=>(cond (!d) (some true) ((zkP c 0 b).bind fun e=>(zR e a.Name a.Params a.Ret a.Static a.Abstract a.Locals a.Stack a.Code a.Maps a.Traps).bind fun f=>some f)).bind fun i=>cond i (some (.inr (.inr false))) (some (.inl (IntKind.i64.wrap (b+1))))) (some (.inr (.inl ())))
def zbK (a:List zi) (c:Int) (d:List UInt8) (e:List UInt8) (f:Bool) (i:List (List UInt8)) (j:List zt) (l:List zi):Option (Bool) :=
  (zu (fun z=>zbd a d e f i j l z) 0).bind fun o=>zQ o (fun b=>zcH a c) some
theorem zgw (f:List zi) (l:Int) (m:List UInt8) (n:List UInt8) (p:Bool) (q:List (List UInt8)) (s:List zt) (v:List zi) {r:Bool} (h:zbK f l m n p q s v=some r):zF Tryz.prog 154 [.isl 10 (List.map zq f),iA l,.fn (.func 155) [] [],.fn (.func 156) [] [.ipt 6 [[sA m,sA n,bA p,.isl 1 (List.map zz q),.isl 3 (List.map zW s),.isl 10 (List.map zq v)]] 0 0]] (bA r):=by
 refine zr Tryz.func154 j0 (by kernel_rfl) j0 j0 ?_
 unfold zbK at h
 refine rg j0<|u<|bx 0 1 j0 j0 j0 j0<|u<|asg j0<|zc ?_
 refine zl ?_
 refine rg j0<|u<|mv j0<|u<|lnI zh3 j0 j0<|u<|mv j0<|zc ?_
 obtain ⟨o,ho,h⟩:=bs h
 refine zU (X:=Int) (B:=Unit) (R:=Bool) (fun z=>[(0,.isl 10 (List.map zq f)),(1,iA l),(3,.fn (.func 156) [] [.ipt 6 [[sA m,sA n,bA p,.isl 1 (List.map zz q),.isl 3 (List.map zW s),.isl 10 (List.map zq v)]] 0 0]),(6,.mpt 0 0 0),(11,.isl 10 (List.map zq f)),(12,iA (List.length f:Int)),(13,iA z)]) (fun z=>[some (1,[[.fn (.func 155) [] []]])]) (fun b=>[(0,.isl 10 (List.map zq f)),(1,iA l)]) (fun b=>[]) (fun r env st=>zaD Tryz.prog Tryz.f154 0 (bA r) [] env st) ho ⟨[.old 0],ce j0 j0<|ce j0 j0<|ce j0 j0<|cv j0 (.mpt j0)<|ce j0 j0<|ce j0 j0<|ce j0 j0<|cn,j0,⟨⟨_,j0,zn ⟨ci j0,j5⟩⟩,j5⟩,j0,j1⟩ ?_ ?_ ?_
 ·
  rintro D r h
  replace h:zbd f m n p q s v D=some r:=h
  unfold zbd at h
  refine rg j0<|u<|lss ti3 j0 j0<|zc ?_
  refine zl ?_
  refine zk j0 (fun C=>?_) (fun C=>?_)
  ·
   replace h:=bT C h
   refine zm ?_
   refine zl ?_
   refine zs ?_
   obtain ⟨c,E,h⟩:=bs h
   refine rg j0<|u<|mv j0<|u<|ixI zh3 j0 zad j0 j0 j0 E<|u<|ldI zad j0 (zo E).2.2 j0<|u<|al 1 zad j0<|u<|asg j0<|u<|sto zad j0 j0 j0<|zc ?_
   obtain ⟨K,G,h⟩:=bs h
   obtain ⟨H,e,h⟩:=bs h
   refine rg j0<|u<|mv j0<|u<|ld zad j0 j0<|u<|pc (zkU c m n p q s v G) j0 j0 j0<|u<|nt j0<|u<|mv j0<|zdf (x:=H) (j:=4) 5 j0 j0 j0 j0 j0 gpn (fun d=>by replace e:=bF d e; obtain ⟨I,F,e⟩:=bs e; obtain ⟨L,J,e⟩:=bs e; obtain rfl:=sm e; exact g j0 d<|mv j0<|g j0 d<|mv j0<|g j0 d<|slI (a:=0) (b:=D) zh3 j0 zad j0 j0 j0 (zmR j0 F) F<|g j0 d<|mf j0 j0<|g j0 d<|pcs (zcB I c.Name c.Params c.Ret c.Static c.Abstract c.Locals c.Stack c.Code c.Maps c.Traps J) j0 j0 (.cons (si j0) (.cons (zif j5 ⟨(zbM j0 ⟨(si j0),j5⟩),(zbM j0 ⟨(si j0),(si j0),(si j0),(si j0),(si j0),(si j0),(si j0),(si j0),(si j0),(si j0),j5⟩),j5⟩) .nil)) zek<|zc (eg [23,24,25,26,27] 5 j0 j0 j0 j0)) (fun hb=>(sm (bT hb e)).symm)<|zc ?_
   refine zk j0 (fun i=>?_) (fun i=>?_)
   ·
    replace h:=bT i h
    refine rg j0<|u<|asg j0<|zc ?_
    refine zp ?_
    obtain rfl:=sm h
    exact ⟨_,j0,_,j0,[],ci j0,j0,j5,j0,j1⟩
   ·
    replace h:=bF i h
    refine zm ?_
    refine rl j0<|u<|add ti3 j0 j0<|u<|mv j0<|zc ?_
    obtain rfl:=sm h
    exact ⟨_,j0,[.old 0],ce j0 j0<|ce j0 j0<|ce j0 j0<|cv j0 (.mpt j0)<|ce j0 j0<|ce j0 j0<|ce j0 j0<|cn,j0,⟨⟨_,j0,zn ⟨ci j0,j5⟩⟩,j5⟩,j0,j1⟩
  ·
   replace h:=bF C h
   refine zB ?_
   obtain rfl:=sm h
   exact ⟨j0,_,j0,[],ce j0 j0<|ce j0 j0<|cn,j0,j5,j0,j1⟩
 ·
  rintro ⟨⟩ rfl
  replace h:zcH f l=some r:=h
  unfold zcH at h
  refine zx ?_
  refine rg j0<|u<|mv j0<|u<|lnI zh3 j0 j0<|u<|mv j0<|u<|leq ti3 j0 j0<|u<|asg j0<|zc ?_
  refine zp ?_
  obtain rfl:=sm h
  exact ⟨_,j0,[],ci j0,j0,j5,j0,j1⟩
 ·
  rintro r' rfl env st hp
  obtain rfl:=sm h
  exact hp
def zb7 (a:List UInt8):(List UInt8) :=
  a
theorem ziJ (a:List UInt8) {r:(List UInt8)} (h:zb7 a=r):zF Tryz.prog 160 [sA a] (sA r):=by
 refine zr Tryz.func160 j0 (by kernel_rfl) j0 j0 ?_
 unfold zb7 at h
 refine rg j0<|u<|asg j0<|zc ?_
 refine rg j0<|u<|mv j0<|u<|asg j0<|zc ?_
 refine zp ?_
 obtain rfl:=h
 exact ⟨_,j0,[],ci j0,j0,j5,j0,j1⟩
def zet (a:List UInt8) (b:List UInt8):Bool :=
  ((zb7 b) == (zb7 a))
theorem zhu (a:List UInt8) (b:List UInt8) {r:Bool} (h:zet a b=r):zF Tryz.prog 250 [sA a,.ipt 1 [[.fn (.func 160) [] []]] 0 0,.ipt 1 [[sA b]] 0 0] (bA r):=by
 refine zr Tryz.func250 j0 (by kernel_rfl) j0 j0 ?_
 unfold zet at h
 refine rg j0<|u<|asg j0<|zc ?_
 refine rd [(4,bA ((zb7 b) == (zb7 a)))] [] [] [7,6,5,4,3,2,1,0] [(4,bA ((zb7 b) == (zb7 a))),(11,bA ((zb7 b) == (zb7 a))),(10,sA (zb7 a)),(9,sA a),(8,.fn (.func 160) [] []),(7,sA (zb7 b)),(6,sA b),(5,.fn (.func 160) [] [])] 0 (by kernel_rfl) (by kernel_rfl) j0 (by kernel_rfl) (dt0 ⟨(fun _=>pa j0 j0 j0 j0 (asg j0<|j4)),(fun _=>pa j0 j0 j0 j0 (seq ti9 j0 j0<|j4)),(fun _=>pa j0 j0 j0 j0 (pc (ziJ a j0) j0 j0 j0<|j4)),(fun _=>pa j0 j0 j0 j0 (mv j0<|j4)),(fun _=>pa j0 j0 j0 j0 (ld zvs j0 j0<|j4)),(fun _=>pa j0 j0 j0 j0 (pc (ziJ b j0) j0 j0 j0<|j4)),(fun _=>pa j0 j0 j0 j0 (ld ti9 j0 j0<|j4)),(fun _=>pa j0 j0 j0 j0 (ld zvs j0 j0<|j4)),j5⟩ (by kernel_rfl) j0 ⟨[],ce j0 j0<|cn,j0,j5,j0,j1⟩) ?_
 refine zp ?_
 obtain rfl:=h
 exact ⟨_,j0,[],ci j0,j0,j5,j0,j1⟩
def zaz:Option (Int) :=
  some (-1)
def zN (b:List (List UInt8)) (c:List UInt8) (a:Int):Option (Sum (Int) (Sum (Unit) (Int))) :=
  cond (decide (a < (List.length b:Int))) ((idx b a).bind fun d=>cond (zet d c) (some (.inr (.inr a))) (some (.inl (IntKind.i64.wrap (a+1))))) (some (.inr (.inl ())))
def zaN (a:List (List UInt8)) (c:List UInt8):Option (Int) :=
  (zu (fun z=>zN a c z) 0).bind fun o=>zQ o (fun b=>zaz) some
theorem zdZ (a:List (List UInt8)) (c:List UInt8) {r:Int} (h:zaN a c=some r):zF Tryz.prog 181 [.isl 1 (List.map zz a),.fn (.func 250) [] [.ipt 1 [[.fn (.func 160) [] []]] 0 0,.ipt 1 [[sA c]] 0 0]] (iA r):=by
 refine zr Tryz.func181 j0 (by kernel_rfl) j0 j0 ?_
 unfold zaN at h
 refine rg j0<|u<|asg j0<|zc ?_
 refine zl ?_
 refine rg j0<|u<|mv j0<|u<|lnI zak j0 j0<|u<|mv j0<|zc ?_
 obtain ⟨o,ho,h⟩:=bs h
 refine zU (X:=Int) (B:=Unit) (R:=Int) (fun z=>[(0,.isl 1 (List.map zz a)),(1,.fn (.func 250) [] [.ipt 1 [[.fn (.func 160) [] []]] 0 0,.ipt 1 [[sA c]] 0 0]),(7,iA (List.length a:Int)),(8,iA z)]) (fun z=>[]) (fun b=>[]) (fun b=>[]) (fun r env st=>zaD Tryz.prog Tryz.f181 0 (iA r) [] env st) ho ⟨[],ce j0 j0<|ce j0 j0<|ce j0 j0<|ce j0 j0<|cn,j0,j5,j0,j1⟩ ?_ ?_ ?_
 ·
  rintro i r h
  replace h:zN a c i=some r:=h
  unfold zN at h
  refine rg j0<|u<|lss ti3 j0 j0<|zc ?_
  refine zl ?_
  refine zk j0 (fun d=>?_) (fun d=>?_)
  ·
   replace h:=bT d h
   refine zm ?_
   refine zl ?_
   refine zs ?_
   refine rg j0<|u<|mv j0<|u<|asg j0<|zc ?_
   obtain ⟨j,f,h⟩:=bs h
   refine rg j0<|u<|mv j0<|u<|mv j0<|u<|mv j0<|u<|ixI zak j0 ti9 j0 j0 j0 f<|u<|ldI ti9 j0 (zo f).2.2 j0<|u<|pc (zhu j c j0) j0 j0 j0<|zc ?_
   refine zk j0 (fun e=>?_) (fun e=>?_)
   ·
    replace h:=bT e h
    refine rg j0<|u<|mv j0<|u<|asg j0<|zc ?_
    refine zp ?_
    obtain rfl:=sm h
    exact ⟨_,j0,_,j0,[],ci j0,j0,j5,j0,j1⟩
   ·
    replace h:=bF e h
    refine zm ?_
    refine rl j0<|u<|add ti3 j0 j0<|u<|mv j0<|zc ?_
    obtain rfl:=sm h
    exact ⟨_,j0,[],ce j0 j0<|ce j0 j0<|ce j0 j0<|ce j0 j0<|cn,j0,j5,j0,j1⟩
  ·
   replace h:=bF d h
   refine zB ?_
   obtain rfl:=sm h
   exact ⟨j0,_,j0,[],cn,j0,j5,j0,j1⟩
 ·
  rintro ⟨⟩ rfl
  replace h:zaz=some r:=h
  unfold zaz at h
  refine zx ?_
  refine rg j0<|u<|asg j0<|zc ?_
  refine zp ?_
  obtain rfl:=sm h
  exact ⟨_,j0,[],ci j0,j0,j5,j0,j1⟩
 ·
  rintro r' rfl env st hp
  obtain rfl:=sm h
  exact hp
def z5 (a:List (List UInt8)) (b:List UInt8):Option (Bool) :=
  (zaN a b).bind fun c=>some (decide (0≤c))
theorem zdy (a:List (List UInt8)) (b:List UInt8) {r:Bool} (h:z5 a b=some r):zF Tryz.prog 99 [.isl 1 (List.map zz a),.fn (.func 250) [] [.ipt 1 [[.fn (.func 160) [] []]] 0 0,.ipt 1 [[sA b]] 0 0]] (bA r):=by
 refine zr Tryz.func99 j0 (by kernel_rfl) j0 j0 ?_
 unfold z5 at h
 refine rg j0<|u<|asg j0<|zc ?_
 obtain ⟨d,c,h⟩:=bs h
 refine rg j0<|u<|mv j0<|u<|mv j0<|u<|pc (zdZ a b c) j0 j0 j0<|u<|geq ti3 j0 j0<|u<|asg j0<|zc ?_
 refine zp ?_
 obtain rfl:=sm h
 exact ⟨_,j0,[],ci j0,j0,j5,j0,j1⟩
def zd6 (a:List (List UInt8)) (b:Int):Option (Bool) :=
  some (decide ((List.length a:Int)≤b))
def zbX (c:List (List UInt8)) (a:Int):Option (Sum (Int) (Sum (Unit) (Bool))) :=
  cond (decide (a < (List.length c:Int))) ((idx c a).bind fun b=>(zcT b).bind fun d=>(cond (!d) (some true) ((zkP c 0 a).bind fun e=>(z5 e b).bind fun f=>some f)).bind fun i=>cond i (some (.inr (.inr false))) (some (.inl (IntKind.i64.wrap (a+1))))) (some (.inr (.inl ())))
def zcM (a:List (List UInt8)) (c:Int):Option (Bool) :=
  (zu (fun z=>zbX a z) 0).bind fun o=>zQ o (fun b=>zd6 a c) some
theorem zij (e:List (List UInt8)) (i:Int) {r:Bool} (h:zcM e i=some r):zF Tryz.prog 159 [.isl 1 (List.map zz e),iA i,.fn (.func 160) [] [],.fn (.func 158) [] []] (bA r):=by
 refine zr Tryz.func159 j0 (by kernel_rfl) j0 j0 ?_
 unfold zcM at h
 refine rg j0<|u<|bx 0 1 j0 j0 j0 j0<|u<|asg j0<|zc ?_
 refine zl ?_
 refine rg j0<|u<|mv j0<|u<|lnI zak j0 j0<|u<|mv j0<|zc ?_
 obtain ⟨o,ho,h⟩:=bs h
 refine zU (X:=Int) (B:=Unit) (R:=Bool) (fun z=>[(0,.isl 1 (List.map zz e)),(1,iA i),(3,.fn (.func 158) [] []),(6,.mpt 0 0 0),(11,.isl 1 (List.map zz e)),(12,iA (List.length e:Int)),(13,iA z)]) (fun z=>[some (1,[[.fn (.func 160) [] []]])]) (fun b=>[(0,.isl 1 (List.map zz e)),(1,iA i)]) (fun b=>[]) (fun r env st=>zaD Tryz.prog Tryz.f159 0 (bA r) [] env st) ho ⟨[.old 0],ce j0 j0<|ce j0 j0<|ce j0 j0<|cv j0 (.mpt j0)<|ce j0 j0<|ce j0 j0<|ce j0 j0<|cn,j0,⟨⟨_,j0,zn ⟨ci j0,j5⟩⟩,j5⟩,j0,j1⟩ ?_ ?_ ?_
 ·
  rintro q r h
  replace h:zbX e q=some r:=h
  unfold zbX at h
  refine rg j0<|u<|lss ti3 j0 j0<|zc ?_
  refine zl ?_
  refine zk j0 (fun l=>?_) (fun l=>?_)
  ·
   replace h:=bT l h
   refine zm ?_
   refine zl ?_
   refine zs ?_
   obtain ⟨m,n,h⟩:=bs h
   refine rg j0<|u<|mv j0<|u<|ixI zak j0 ti9 j0 j0 j0 n<|u<|ldI ti9 j0 (zo n).2.2 j0<|u<|al 1 ti9 j0<|u<|asg j0<|u<|sto ti9 j0 j0 j0<|zc ?_
   obtain ⟨E,s,h⟩:=bs h
   obtain ⟨v,d,h⟩:=bs h
   refine rg j0<|u<|mv j0<|u<|ld ti9 j0 j0<|u<|pc (zdF m s) j0 j0 j0<|u<|nt j0<|u<|mv j0<|zdf (x:=v) (j:=4) 5 j0 j0 j0 j0 j0 gpn (fun c=>by replace d:=bF c d; obtain ⟨C,p,d⟩:=bs d; obtain ⟨F,D,d⟩:=bs d; obtain rfl:=sm d; exact g j0 c<|mv j0<|g j0 c<|mv j0<|g j0 c<|slI (a:=0) (b:=q) zak j0 ti9 j0 j0 j0 (zmR j0 p) p<|g j0 c<|mf j0 j0<|g j0 c<|pcs (zdy C m D) j0 j0 (.cons (si j0) (.cons (zif j5 ⟨(zbM j0 ⟨(si j0),j5⟩),(zbM j0 ⟨(si j0),j5⟩),j5⟩) .nil)) zek<|zc (eg [23,24,25,26,27] 5 j0 j0 j0 j0)) (fun hb=>(sm (bT hb d)).symm)<|zc ?_
   refine zk j0 (fun f=>?_) (fun f=>?_)
   ·
    replace h:=bT f h
    refine rg j0<|u<|asg j0<|zc ?_
    refine zp ?_
    obtain rfl:=sm h
    exact ⟨_,j0,_,j0,[],ci j0,j0,j5,j0,j1⟩
   ·
    replace h:=bF f h
    refine zm ?_
    refine rl j0<|u<|add ti3 j0 j0<|u<|mv j0<|zc ?_
    obtain rfl:=sm h
    exact ⟨_,j0,[.old 0],ce j0 j0<|ce j0 j0<|ce j0 j0<|cv j0 (.mpt j0)<|ce j0 j0<|ce j0 j0<|ce j0 j0<|cn,j0,⟨⟨_,j0,zn ⟨ci j0,j5⟩⟩,j5⟩,j0,j1⟩
  ·
   replace h:=bF l h
   refine zB ?_
   obtain rfl:=sm h
   exact ⟨j0,_,j0,[],ce j0 j0<|ce j0 j0<|cn,j0,j5,j0,j1⟩
 ·
  rintro ⟨⟩ rfl
  replace h:zd6 e i=some r:=h
  unfold zd6 at h
  refine zx ?_
  refine rg j0<|u<|mv j0<|u<|lnI zak j0 j0<|u<|mv j0<|u<|leq ti3 j0 j0<|u<|asg j0<|zc ?_
  refine zp ?_
  obtain rfl:=sm h
  exact ⟨_,j0,[],ci j0,j0,j5,j0,j1⟩
 ·
  rintro r' rfl env st hp
  obtain rfl:=sm h
  exact hp
def zht (a:za):Option (Bool) :=
  cond (a.Interface&&((!(a.Super == [79,98,106,101,99,116]))||(decide (0 < (List.length a.Fields:Int))))) (some false) ((zbW a.Fields 8).bind fun b=>(zbK a.Methods 8 a.Name a.Super a.Interface a.Impl a.Fields a.Methods).bind fun c=>(zcT a.Name).bind fun d=>(cond d ((zcT a.Super).bind fun e=>some e) (some false)).bind fun f=>(cond f ((zcM a.Impl 4).bind fun i=>some i) (some false)).bind fun j=>some ((j&&b)&&c))
theorem zmT (a:za) {r:Bool} (h:zht a=some r):zF Tryz.prog 72 [.agg (zb a)] (bA r):=by
 refine zr Tryz.func72 j0 (by kernel_rfl) j0 j0 ?_
 unfold zht at h
 refine rg j0<|u<|bx 0 6 j0 j0 j0 j0<|u<|asg j0<|zc ?_
 refine zl ?_
 refine rg j0<|u<|fa zS j0 j0 j0<|u<|ld ti4 j0 j0<|u<|mv j0<|z2 (j:=2) 9 j0 j0 j0 j0 j0 gpn (fun b=>g j0 b<|fa zS j0 j0 j0<|g j0 b<|ld ti9 j0 j0<|g j0 b<|sne ti9 j0 j0<|g j0 b<|mv j0<|zdf (j:=6) 4 j0 j0 j0 j0 j0 (gps j0 j0 b) (fun e=>g j0 e<|fa zS j0 j0 j0<|g j0 e<|ld zes j0 j0<|g j0 e<|lnI zes j0 j0<|g j0 e<|gtr ti3 j0 j0<|zc (egO [12,13,14,15] 4 e j0 j0 j0 j0)) orT<|zc (egA [8,9,10,11,12,13,14,15,16] 5 b j0 j0 j0 j0)) zdb<|zc ?_
 refine zk j0 (fun l=>?_) (fun l=>?_)
 ·
  replace h:=bT l h
  refine rg j0<|u<|asg j0<|zc ?_
  refine zp ?_
  obtain rfl:=sm h
  exact ⟨_,j0,[],ci j0,j0,j5,j0,j1⟩
 ·
  replace h:=bF l h
  refine zm ?_
  obtain ⟨D,p,h⟩:=bs h
  refine rg j0<|u<|fa zS j0 j0 j0<|u<|ld zes j0 j0<|u<|pc (zhi a.Fields 8 p) j0 j0 j0<|u<|asg j0<|zc ?_
  obtain ⟨E,q,h⟩:=bs h
  refine rg j0<|u<|fa zS j0 j0 j0<|u<|ld zh3 j0 j0<|u<|mf j0 j0<|u<|pcs (zgw a.Methods 8 a.Name a.Super a.Interface a.Impl a.Fields a.Methods q) j0 j0 (.cons (si j0) (.cons (si j0) (.cons (si j0) (.cons (zif j5 ⟨(zbM j0 ⟨(si j0),(si j0),(si j0),(si j0),(si j0),(si j0),j5⟩),j5⟩) .nil)))) zek<|u<|asg j0<|zc ?_
  obtain ⟨F,s,h⟩:=bs h
  obtain ⟨v,i,h⟩:=bs h
  obtain ⟨B,c,h⟩:=bs h
  refine rg j0<|u<|fa zS j0 j0 j0<|u<|ld ti9 j0 j0<|u<|pc (zdF a.Name s) j0 j0 j0<|u<|mv j0<|z2 (x:=v) (j:=3) 3 j0 j0 j0 j0 j0 gpn (fun f=>by replace i:=bT f i; obtain ⟨G,C,i⟩:=bs i; obtain rfl:=sm i; exact g j0 f<|fa zS j0 j0 j0<|g j0 f<|ld ti9 j0 j0<|g j0 f<|pc (zdF a.Super C) j0 j0 j0<|zc (eg [29,30,31] 3 j0 j0 j0 j0)) (fun hb=>(sm (bF hb i)).symm)<|u<|mv j0<|z2 (x:=B) (j:=8) 3 j0 j0 j0 j0 j0 gpn (fun d=>by replace c:=bT d c; obtain ⟨H,o,c⟩:=bs c; obtain rfl:=sm c; exact g j0 d<|fa zS j0 j0 j0<|g j0 d<|ld zak j0 j0<|g j0 d<|pc (zij a.Impl 4 o) j0 j0 j0<|zc (eg [34,35,36] 3 j0 j0 j0 j0)) (fun hb=>(sm (bF hb c)).symm)<|u<|mv j0<|z2 (j:=13) 1 j0 j0 j0 j0 j0 gpn (fun m=>g j0 m<|mv j0<|zc (egA [39] 1 m j0 j0 j0 j0)) zdb<|u<|mv j0<|z2 (j:=16) 1 j0 j0 j0 j0 j0 gpn (fun n=>g j0 n<|mv j0<|zc (egA [42] 1 n j0 j0 j0 j0)) zdb<|u<|asg j0<|zc ?_
  refine zp ?_
  obtain rfl:=sm h
  exact ⟨_,j0,[],ci j0,j0,j5,j0,j1⟩
end
end Go.Proofs.YthmnlfenkhmmhaaGreat
namespace Go.Proofs.YthmnlfenkhmmhaaGreat
noncomputable section
set_option linter.unusedSimpArgs false
set_option linter.unusedVariables false
set_option maxRecDepth 100000
set_option maxHeartbeats 4000000
def zfo:Option (Int) :=
  some (-1)
def zdK (b:za) (c:List UInt8) (a:Int):Option (Sum (Int) (Sum (Unit) (Int))) :=
  cond (decide (a < (List.length b.Fields:Int))) ((idx b.Fields a).bind fun d=>cond (d.Name == c) (some (.inr (.inr a))) (some (.inl (IntKind.i64.wrap (a+1))))) (some (.inr (.inl ())))
def zgn (a:za) (c:List UInt8):Option (Int) :=
  (zu (fun z=>zdK a c z) 0).bind fun o=>zQ o (fun b=>zfo) some
theorem zmn (d:za) (e:List UInt8) {r:Int} (h:zgn d e=some r):zF Tryz.prog 188 [.agg (zb d),sA e] (iA r):=by
 refine zr Tryz.func188 j0 (by kernel_rfl) j0 j0 ?_
 unfold zgn at h
 refine rg j0<|u<|bx 0 6 j0 j0 j0 j0<|u<|asg j0<|zc ?_
 refine zl ?_
 refine rg j0<|u<|asg j0<|zc ?_
 obtain ⟨o,ho,h⟩:=bs h
 refine zU (X:=Int) (B:=Unit) (R:=Int) (fun z=>[(1,sA e),(2,.mpt 0 0 0),(5,iA z)]) (fun z=>[some (6,[(zb d)])]) (fun b=>[]) (fun b=>[]) (fun r env st=>zaD Tryz.prog Tryz.f188 0 (iA r) [] env st) ho ⟨[.old 0],ce j0 j0<|cv j0 (.mpt j0)<|ce j0 j0<|cn,j0,⟨⟨_,j0,zn (ciL j0)⟩,j5⟩,j0,j1⟩ ?_ ?_ ?_
 ·
  rintro i r h
  replace h:zdK d e i=some r:=h
  unfold zdK at h
  refine zl ?_
  refine rg j0<|u<|mv j0<|u<|fa zS j0 j0 j0<|u<|ld zes j0 j0<|u<|lnI zes j0 j0<|u<|lss ti3 j0 j0<|zc ?_
  refine zk j0 (fun a=>?_) (fun a=>?_)
  ·
   replace h:=bT a h
   refine zm ?_
   refine zl ?_
   refine zs ?_
   obtain ⟨j,f,h⟩:=bs h
   refine rg j0<|u<|fa zS j0 j0 j0<|u<|ld zes j0 j0<|u<|mv j0<|u<|ixI zes j0 zcG j0 j0 j0 f<|u<|fa zcG j0 j0 j0<|u<|ldI ti9 j0 (zo f).2.2 j0<|u<|mv j0<|u<|seq ti9 j0 j0<|zc ?_
   refine zk j0 (fun c=>?_) (fun c=>?_)
   ·
    replace h:=bT c h
    refine rg j0<|u<|mv j0<|u<|asg j0<|zc ?_
    refine zp ?_
    obtain rfl:=sm h
    exact ⟨_,j0,_,j0,[],ci j0,j0,j5,j0,j1⟩
   ·
    replace h:=bF c h
    refine zm ?_
    refine rl j0<|u<|mv j0<|u<|add ti3 j0 j0<|u<|asg j0<|zc ?_
    obtain rfl:=sm h
    exact ⟨_,j0,[.old 0],ce j0 j0<|cv j0 (.mpt j0)<|ce j0 j0<|cn,j0,⟨⟨_,j0,zn (ciL j0)⟩,j5⟩,j0,j1⟩
  ·
   replace h:=bF a h
   refine zB ?_
   obtain rfl:=sm h
   exact ⟨j0,_,j0,[],cn,j0,j5,j0,j1⟩
 ·
  rintro ⟨⟩ rfl
  replace h:zfo=some r:=h
  unfold zfo at h
  refine zx ?_
  refine rg j0<|u<|asg j0<|zc ?_
  refine zp ?_
  obtain rfl:=sm h
  exact ⟨_,j0,[],ci j0,j0,j5,j0,j1⟩
 ·
  rintro r' rfl env st hp
  obtain rfl:=sm h
  exact hp
def ze1:Option (Int) :=
  some (-1)
def zcZ (b:za) (c:List UInt8) (a:Int):Option (Sum (Int) (Sum (Unit) (Int))) :=
  cond (decide (a < (List.length b.Methods:Int))) ((idx b.Methods a).bind fun d=>cond (d.Name == c) (some (.inr (.inr a))) (some (.inl (IntKind.i64.wrap (a+1))))) (some (.inr (.inl ())))
def zfJ (a:za) (c:List UInt8):Option (Int) :=
  (zu (fun z=>zcZ a c z) 0).bind fun o=>zQ o (fun b=>ze1) some
theorem zle (d:za) (e:List UInt8) {r:Int} (h:zfJ d e=some r):zF Tryz.prog 143 [.agg (zb d),sA e] (iA r):=by
 refine zr Tryz.func143 j0 (by kernel_rfl) j0 j0 ?_
 unfold zfJ at h
 refine rg j0<|u<|bx 0 6 j0 j0 j0 j0<|u<|asg j0<|zc ?_
 refine zl ?_
 refine rg j0<|u<|asg j0<|zc ?_
 obtain ⟨o,ho,h⟩:=bs h
 refine zU (X:=Int) (B:=Unit) (R:=Int) (fun z=>[(1,sA e),(2,.mpt 0 0 0),(5,iA z)]) (fun z=>[some (6,[(zb d)])]) (fun b=>[]) (fun b=>[]) (fun r env st=>zaD Tryz.prog Tryz.f143 0 (iA r) [] env st) ho ⟨[.old 0],ce j0 j0<|cv j0 (.mpt j0)<|ce j0 j0<|cn,j0,⟨⟨_,j0,zn (ciL j0)⟩,j5⟩,j0,j1⟩ ?_ ?_ ?_
 ·
  rintro i r h
  replace h:zcZ d e i=some r:=h
  unfold zcZ at h
  refine zl ?_
  refine rg j0<|u<|mv j0<|u<|fa zS j0 j0 j0<|u<|ld zh3 j0 j0<|u<|lnI zh3 j0 j0<|u<|lss ti3 j0 j0<|zc ?_
  refine zk j0 (fun a=>?_) (fun a=>?_)
  ·
   replace h:=bT a h
   refine zm ?_
   refine zl ?_
   refine zs ?_
   obtain ⟨j,f,h⟩:=bs h
   refine rg j0<|u<|fa zS j0 j0 j0<|u<|ld zh3 j0 j0<|u<|mv j0<|u<|ixI zh3 j0 zad j0 j0 j0 f<|u<|fa zad j0 j0 j0<|u<|ldI ti9 j0 (zo f).2.2 j0<|u<|mv j0<|u<|seq ti9 j0 j0<|zc ?_
   refine zk j0 (fun c=>?_) (fun c=>?_)
   ·
    replace h:=bT c h
    refine rg j0<|u<|mv j0<|u<|asg j0<|zc ?_
    refine zp ?_
    obtain rfl:=sm h
    exact ⟨_,j0,_,j0,[],ci j0,j0,j5,j0,j1⟩
   ·
    replace h:=bF c h
    refine zm ?_
    refine rl j0<|u<|mv j0<|u<|add ti3 j0 j0<|u<|asg j0<|zc ?_
    obtain rfl:=sm h
    exact ⟨_,j0,[.old 0],ce j0 j0<|cv j0 (.mpt j0)<|ce j0 j0<|cn,j0,⟨⟨_,j0,zn (ciL j0)⟩,j5⟩,j0,j1⟩
  ·
   replace h:=bF a h
   refine zB ?_
   obtain rfl:=sm h
   exact ⟨j0,_,j0,[],cn,j0,j5,j0,j1⟩
 ·
  rintro ⟨⟩ rfl
  replace h:ze1=some r:=h
  unfold ze1 at h
  refine zx ?_
  refine rg j0<|u<|asg j0<|zc ?_
  refine zp ?_
  obtain rfl:=sm h
  exact ⟨_,j0,[],ci j0,j0,j5,j0,j1⟩
 ·
  rintro r' rfl env st hp
  obtain rfl:=sm h
  exact hp
def zi4 (a:List UInt8):Option (Bool) :=
  (cond (a == [86]) (some true) ((ze0 a).bind fun b=>some b)).bind fun c=>some c
theorem zon (c:List UInt8) {r:Bool} (h:zi4 c=some r):zF Tryz.prog 268 [sA c] (bA r):=by
 refine zr Tryz.func268 j0 (by kernel_rfl) j0 j0 ?_
 unfold zi4 at h
 refine rg j0<|u<|asg j0<|zc ?_
 obtain ⟨d,a,h⟩:=bs h
 refine rg j0<|u<|mv j0<|u<|seq ti9 j0 j0<|u<|mv j0<|zdf (x:=d) (j:=2) 2 j0 j0 j0 j0 j0 gpn (fun b=>by replace a:=bF b a; obtain ⟨f,e,a⟩:=bs a; obtain rfl:=sm a; exact g j0 b<|mv j0<|g j0 b<|pc (zeR c e) j0 j0 j0<|zc (eg [6,7] 2 j0 j0 j0 j0)) (fun hb=>(sm (bT hb a)).symm)<|u<|asg j0<|zc ?_
 refine zp ?_
 obtain rfl:=sm h
 exact ⟨_,j0,[],ci j0,j0,j5,j0,j1⟩
def zhK:Option (Bool) :=
  some true
def zcE (c:zi) (b:Int):Option (Sum (Int) (Sum (Unit) (Bool))) :=
  cond (decide (b < (List.length c.Traps:Int))) ((idx c.Traps b).bind fun a=>(cond (((((decide (a.From < 0))||(decide (a.To≤a.From)))||(decide ((List.length c.Code:Int) < a.To)))||(decide (a.At < 0)))||(decide ((List.length c.Code:Int)≤a.At))) (some true) ((cond (!(a.C == [])) ((zcY a.C).bind fun d=>some (!d)) (some false)).bind fun e=>some e)).bind fun f=>cond f (some (.inr (.inr false))) (some (.inl (IntKind.i64.wrap (b+1))))) (some (.inr (.inl ())))
def zel (a:zi):Option (Bool) :=
  (zu (fun z=>zcE a z) 0).bind fun o=>zQ o (fun b=>zhK) some
def zcD (a:zi) (b:Int):Option (Sum (Int) (Sum (Unit) (Bool))) :=
  cond (decide (b < (List.length a.Code:Int))) ((idx a.Code b).bind fun c=>(zfH c).bind fun d=>cond ((!d)||((zeO c.Op)&&(decide ((List.length a.Code:Int)≤c.A)))) (some (.inr (.inr false))) (some (.inl (IntKind.i64.wrap (b+1))))) (some (.inr (.inl ())))
def zhJ (a:zi):Option (Bool) :=
  (cond ((decide ((List.length a.Code:Int) < 1))||(decide (100 < (List.length a.Code:Int)))) (some true) ((idx a.Code (IntKind.i64.wrap ((List.length a.Code:Int) - 1))).bind fun c=>some (!(zi2 c.Op)))).bind fun d=>cond (d||(decide (6 < (List.length a.Traps:Int)))) (some false) ((zu (fun z=>zcD a z) 0).bind fun o=>zQ o (fun b=>zel a) some)
theorem znq (f:zi) {r:Bool} (h:zhJ f=some r):zF Tryz.prog 269 [.agg (zq f)] (bA r):=by
 refine zr Tryz.func269 j0 (by kernel_rfl) j0 j0 ?_
 unfold zhJ at h
 refine rg j0<|u<|bx 0 10 j0 j0 j0 j0<|u<|asg j0<|zc ?_
 refine rg j0<|u<|fa zad j0 j0 j0<|u<|ld zeT j0 j0<|u<|lnI zeT j0 j0<|u<|asg j0<|zc ?_
 refine zl ?_
 obtain ⟨V,H,h⟩:=bs h
 refine rg j0<|u<|mv j0<|u<|lss ti3 j0 j0<|u<|mv j0<|zdf (j:=2) 2 j0 j0 j0 j0 j0 gpn (fun I=>g j0 I<|mv j0<|g j0 I<|gtr ti3 j0 j0<|zc (egO [14,15] 2 I j0 j0 j0 j0)) orT<|u<|mv j0<|zdf (x:=V) (j:=6) 9 j0 j0 j0 j0 j0 gpn (fun a=>by replace H:=bF a H; obtain ⟨W,M,H⟩:=bs H; obtain rfl:=sm H; exact g j0 a<|fa zad j0 j0 j0<|g j0 a<|ld zeT j0 j0<|g j0 a<|mv j0<|g j0 a<|sub ti3 j0 j0<|g j0 a<|ixI zeT j0 zeU j0 j0 j0 M<|g j0 a<|fa zeU j0 j0 j0<|g j0 a<|ldI ti3 j0 (zo M).2.2 j0<|g j0 a<|pc (zno W.Op j0) j0 j0 j0<|g j0 a<|nt j0<|zc (eg [18,19,20,21,22,23,24,25,26] 9 j0 j0 j0 j0)) (fun hb=>(sm (bT hb H)).symm)<|u<|mv j0<|zdf (j:=17) 4 j0 j0 j0 j0 j0 gpn (fun v=>g j0 v<|fa zad j0 j0 j0<|g j0 v<|ld zj9 j0 j0<|g j0 v<|lnI zj9 j0 j0<|g j0 v<|gtr ti3 j0 j0<|zc (egO [29,30,31,32] 4 v j0 j0 j0 j0)) orT<|zc ?_
 refine zk j0 (fun J=>?_) (fun J=>?_)
 ·
  replace h:=bT J h
  refine rg j0<|u<|asg j0<|zc ?_
  refine zp ?_
  obtain rfl:=sm h
  exact ⟨_,j0,[],ci j0,j0,j5,j0,j1⟩
 ·
  replace h:=bF J h
  refine zm ?_
  refine zl ?_
  refine rg j0<|u<|asg j0<|zc ?_
  obtain ⟨o,ho,h⟩:=bs h
  refine zU (X:=Int) (B:=Unit) (R:=Bool) (fun z=>[(1,.mpt 0 0 0),(3,iA (List.length f.Code:Int)),(4,iA z)]) (fun z=>[some (10,[(zq f)])]) (fun b=>[(1,.mpt 0 0 0),(3,iA (List.length f.Code:Int))]) (fun b=>[some (10,[(zq f)])]) (fun r env st=>zaD Tryz.prog Tryz.f269 0 (bA r) [] env st) ho ⟨[.old 0],cv j0 (.mpt j0)<|ce j0 j0<|ce j0 j0<|cn,j0,⟨⟨_,j0,zn (ciL j0)⟩,j5⟩,j0,j1⟩ ?_ ?_ ?_
  ·
   rintro Y r h
   replace h:zcD f Y=some r:=h
   unfold zcD at h
   refine zl ?_
   refine rg j0<|u<|mv j0<|u<|mv j0<|u<|lss ti3 j0 j0<|zc ?_
   refine zk j0 (fun D=>?_) (fun D=>?_)
   ·
    replace h:=bT D h
    refine zm ?_
    refine zl ?_
    refine zs ?_
    obtain ⟨N,K,h⟩:=bs h
    refine rg j0<|u<|fa zad j0 j0 j0<|u<|ld zeT j0 j0<|u<|mv j0<|u<|ixI zeT j0 zeU j0 j0 j0 K<|u<|ldI zeU j0 (zo K).2.2 j0<|u<|al 1 zeU j0<|u<|sto zeU j0 j0 j0<|zc ?_
    obtain ⟨v9,O,h⟩:=bs h
    refine rg j0<|u<|ld zeU j0 j0<|u<|pc (zlc N O) j0 j0 j0<|u<|nt j0<|u<|mv j0<|zdf (j:=3) 9 j0 j0 j0 j0 j0 gpn (fun c=>g j0 c<|fa zeU j0 j0 j0<|g j0 c<|ld ti3 j0 j0<|g j0 c<|pc (zgX N.Op j0) j0 j0 j0<|g j0 c<|mv j0<|z2 (j:=7) 4 j0 j0 j0 j0 j0 (gps j0 j0 c) (fun i=>g j0 i<|fa zeU j0 j0 j0<|g j0 i<|ld ti3 j0 j0<|g j0 i<|mv j0<|g j0 i<|geq ti3 j0 j0<|zc (egA [52,53,54,55] 4 i j0 j0 j0 j0)) zdb<|zc (egO [48,49,50,51,52,53,54,55,56] 5 c j0 j0 j0 j0)) orT<|zc ?_
    refine zk j0 (fun E=>?_) (fun E=>?_)
    ·
     replace h:=bT E h
     refine rg j0<|u<|asg j0<|zc ?_
     refine zp ?_
     obtain rfl:=sm h
     exact ⟨_,j0,_,j0,[],ci j0,j0,j5,j0,j1⟩
    ·
     replace h:=bF E h
     refine zm ?_
     refine rl j0<|u<|mv j0<|u<|add ti3 j0 j0<|u<|asg j0<|zc ?_
     obtain rfl:=sm h
     exact ⟨_,j0,[.old 0],cv j0 (.mpt j0)<|ce j0 j0<|ce j0 j0<|cn,j0,⟨⟨_,j0,zn (ciL j0)⟩,j5⟩,j0,j1⟩
   ·
    replace h:=bF D h
    refine zB ?_
    obtain rfl:=sm h
    exact ⟨j0,_,j0,[.old 0],cv j0 (.mpt j0)<|ce j0 j0<|cn,j0,⟨⟨_,j0,zn (ciL j0)⟩,j5⟩,j0,j1⟩
  ·
   rintro ⟨⟩ rfl
   replace h:zel f=some r:=h
   unfold zel at h
   refine zx ?_
   refine zl ?_
   refine rg j0<|u<|asg j0<|zc ?_
   obtain ⟨o,ho,h⟩:=bs h
   refine zU (X:=Int) (B:=Unit) (R:=Bool) (fun z=>[(1,.mpt 0 0 0),(3,iA (List.length f.Code:Int)),(6,iA z)]) (fun z=>[some (10,[(zq f)])]) (fun b=>[]) (fun b=>[]) (fun r env st=>zaD Tryz.prog Tryz.f269 0 (bA r) [] env st) ho ⟨[.old 0],cv j0 (.mpt j0)<|ce j0 j0<|ce j0 j0<|cn,j0,⟨⟨_,j0,zn (ciL j0)⟩,j5⟩,j0,j1⟩ ?_ ?_ ?_
   ·
    rintro P r h
    replace h:zcE f P=some r:=h
    unfold zcE at h
    refine zl ?_
    refine rg j0<|u<|mv j0<|u<|fa zad j0 j0 j0<|u<|ld zj9 j0 j0<|u<|lnI zj9 j0 j0<|u<|lss ti3 j0 j0<|zc ?_
    refine zk j0 (fun F=>?_) (fun F=>?_)
    ·
     replace h:=bT F h
     refine zm ?_
     refine zl ?_
     refine zs ?_
     obtain ⟨Q,L,h⟩:=bs h
     refine rg j0<|u<|fa zad j0 j0 j0<|u<|ld zj9 j0 j0<|u<|mv j0<|u<|ixI zj9 j0 ziD j0 j0 j0 L<|u<|ldI ziD j0 (zo L).2.2 j0<|u<|al 1 ziD j0<|u<|sto ziD j0 j0 j0<|zc ?_
     obtain ⟨S,p,h⟩:=bs h
     refine rg j0<|u<|fa ziD j0 j0 j0<|u<|ld ti3 j0 j0<|u<|lss ti3 j0 j0<|u<|mv j0<|zdf (j:=3) 5 j0 j0 j0 j0 j0 gpn (fun d=>g j0 d<|fa ziD j0 j0 j0<|g j0 d<|ld ti3 j0 j0<|g j0 d<|fa ziD j0 j0 j0<|g j0 d<|ld ti3 j0 j0<|g j0 d<|geq ti3 j0 j0<|zc (egO [74,75,76,77,78] 5 d j0 j0 j0 j0)) orT<|u<|mv j0<|zdf (j:=10) 4 j0 j0 j0 j0 j0 gpn (fun l=>g j0 l<|fa ziD j0 j0 j0<|g j0 l<|ld ti3 j0 j0<|g j0 l<|mv j0<|g j0 l<|gtr ti3 j0 j0<|zc (egO [81,82,83,84] 4 l j0 j0 j0 j0)) orT<|u<|mv j0<|zdf (j:=16) 3 j0 j0 j0 j0 j0 gpn (fun s=>g j0 s<|fa ziD j0 j0 j0<|g j0 s<|ld ti3 j0 j0<|g j0 s<|lss ti3 j0 j0<|zc (egO [87,88,89] 3 s j0 j0 j0 j0)) orT<|u<|mv j0<|zdf (j:=21) 4 j0 j0 j0 j0 j0 gpn (fun m=>g j0 m<|fa ziD j0 j0 j0<|g j0 m<|ld ti3 j0 j0<|g j0 m<|mv j0<|g j0 m<|geq ti3 j0 j0<|zc (egO [92,93,94,95] 4 m j0 j0 j0 j0)) orT<|u<|mv j0<|zdf (x:=S) (j:=27) 9 j0 j0 j0 j0 j0 gpn (fun e=>by replace p:=bF e p; obtain ⟨T,q,p⟩:=bs p; obtain rfl:=sm p; exact g j0 e<|fa ziD j0 j0 j0<|g j0 e<|ld ti9 j0 j0<|g j0 e<|sne ti9 j0 j0<|g j0 e<|mv j0<|z2 (x:=T) (j:=31) 4 j0 j0 j0 j0 j0 (gps j0 j0 e) (fun n=>by replace q:=bT n q; obtain ⟨Z,U,q⟩:=bs q; obtain rfl:=sm q; exact g j0 n<|fa ziD j0 j0 j0<|g j0 n<|ld ti9 j0 j0<|g j0 n<|pc (zdJ Q.C U) j0 j0 j0<|g j0 n<|nt j0<|zc (eg [102,103,104,105] 4 j0 j0 j0 j0)) (fun hb=>(sm (bF hb q)).symm)<|zc (eg [98,99,100,101,102,103,104,105,106] 5 j0 j0 j0 j0)) (fun hb=>(sm (bT hb p)).symm)<|zc ?_
     refine zk j0 (fun G=>?_) (fun G=>?_)
     ·
      replace h:=bT G h
      refine rg j0<|u<|asg j0<|zc ?_
      refine zp ?_
      obtain rfl:=sm h
      exact ⟨_,j0,_,j0,[],ci j0,j0,j5,j0,j1⟩
     ·
      replace h:=bF G h
      refine zm ?_
      refine rl j0<|u<|mv j0<|u<|add ti3 j0 j0<|u<|asg j0<|zc ?_
      obtain rfl:=sm h
      exact ⟨_,j0,[.old 0],cv j0 (.mpt j0)<|ce j0 j0<|ce j0 j0<|cn,j0,⟨⟨_,j0,zn (ciL j0)⟩,j5⟩,j0,j1⟩
    ·
     replace h:=bF F h
     refine zB ?_
     obtain rfl:=sm h
     exact ⟨j0,_,j0,[],cn,j0,j5,j0,j1⟩
   ·
    rintro ⟨⟩ rfl
    replace h:zhK=some r:=h
    unfold zhK at h
    refine zx ?_
    refine rg j0<|u<|asg j0<|zc ?_
    refine zp ?_
    obtain rfl:=sm h
    exact ⟨_,j0,[],ci j0,j0,j5,j0,j1⟩
   ·
    rintro r' rfl env st hp
    obtain rfl:=sm h
    exact hp
  ·
   rintro r' rfl env st hp
   obtain rfl:=sm h
   exact hp
def zgZ:Option (Bool) :=
  some true
def zgY (a:Int):Option (Sum (Int) (Sum (Unit) (Bool))) :=
  some (.inl (IntKind.i64.wrap (a+1)))
def zcn (b:zaY) (a:Int):Option (Sum (Int) (Sum (Unit) (Bool))) :=
  cond (decide (a < (List.length b.Stack:Int))) ((idx b.Stack a).bind fun c=>(cond (!(c == [78])) ((ze0 c).bind fun d=>some (!d)) (some false)).bind fun e=>cond e (some (.inr (.inr false))) (some (.inl (IntKind.i64.wrap (a+1))))) (some (.inr (.inl ())))
def ze5 (a:Int) (c:zaY):Option (Sum (Int) (Sum (Unit) (Bool))) :=
  (zu (fun z=>zcn c z) 0).bind fun o=>zQ o (fun b=>zgY a) (fun r=>some (.inr (.inr r)))
def zcm (c:zaY) (a:Int):Option (Sum (Int) (Sum (Unit) (Bool))) :=
  cond (decide (a < (List.length c.Locals:Int))) ((idx c.Locals a).bind fun b=>(cond ((!(b == [84]))&&(!(b == [78]))) ((ze0 b).bind fun d=>some (!d)) (some false)).bind fun e=>cond e (some (.inr (.inr false))) (some (.inl (IntKind.i64.wrap (a+1))))) (some (.inr (.inl ())))
def za1 (c:Int) (a:zaY) (d:Bool):Option (Sum (Int) (Sum (Unit) (Bool))) :=
  cond d (some (.inr (.inr false))) ((zu (fun z=>zcm a z) 0).bind fun o=>zQ o (fun b=>ze5 c a) (fun r=>some (.inr (.inr r))))
def zcl (c:zi) (b:Int):Option (Sum (Int) (Sum (Unit) (Bool))) :=
  cond (decide (b < (List.length c.Maps:Int))) ((idx c.Maps b).bind fun a=>cond (decide (a.At < 0)) (za1 b a true) (cond (decide ((List.length c.Code:Int)≤a.At)) (za1 b a true) (cond (decide (0 < b)) ((idx c.Maps (IntKind.i64.wrap (b - 1))).bind fun d=>cond (decide (a.At≤d.At)) (za1 b a true) (cond (!((List.length a.Locals:Int) == c.Locals)) (za1 b a true) (za1 b a (decide (c.Stack < (List.length a.Stack:Int)))))) (cond (!((List.length a.Locals:Int) == c.Locals)) (za1 b a true) (za1 b a (decide (c.Stack < (List.length a.Stack:Int)))))))) (some (.inr (.inl ())))
def zhL (a:zi):Option (Bool) :=
  cond (decide (100 < (List.length a.Maps:Int))) (some false) ((zu (fun z=>zcl a z) 0).bind fun o=>zQ o (fun b=>zgZ) some)
theorem zns (d:zi) {r:Bool} (h:zhL d=some r):zF Tryz.prog 270 [.agg (zq d)] (bA r):=by
 refine zr Tryz.func270 j0 (by kernel_rfl) j0 j0 ?_
 unfold zhL at h
 refine rg j0<|u<|bx 0 10 j0 j0 j0 j0<|u<|asg j0<|zc ?_
 refine zl ?_
 refine rg j0<|u<|fa zad j0 j0 j0<|u<|ld zfr j0 j0<|u<|lnI zfr j0 j0<|u<|gtr ti3 j0 j0<|zc ?_
 refine zk j0 (fun L=>?_) (fun L=>?_)
 ·
  replace h:=bT L h
  refine rg j0<|u<|asg j0<|zc ?_
  refine zp ?_
  obtain rfl:=sm h
  exact ⟨_,j0,[],ci j0,j0,j5,j0,j1⟩
 ·
  replace h:=bF L h
  refine zm ?_
  refine zl ?_
  refine rg j0<|u<|asg j0<|zc ?_
  obtain ⟨o,ho,h⟩:=bs h
  refine zU (X:=Int) (B:=Unit) (R:=Bool) (fun z=>[(1,.mpt 0 0 0),(3,iA z)]) (fun z=>[some (10,[(zq d)])]) (fun b=>[]) (fun b=>[]) (fun r env st=>zaD Tryz.prog Tryz.f270 0 (bA r) [] env st) ho ⟨[.old 0],cv j0 (.mpt j0)<|ce j0 j0<|cn,j0,⟨⟨_,j0,zn (ciL j0)⟩,j5⟩,j0,j1⟩ ?_ ?_ ?_
  ·
   rintro c r h
   replace h:zcl d c=some r:=h
   unfold zcl at h
   refine zl ?_
   refine rg j0<|u<|mv j0<|u<|fa zad j0 j0 j0<|u<|ld zfr j0 j0<|u<|lnI zfr j0 j0<|u<|lss ti3 j0 j0<|zc ?_
   refine zk j0 (fun E=>?_) (fun E=>?_)
   ·
    replace h:=bT E h
    refine zm ?_
    refine zl ?_
    refine zs ?_
    obtain ⟨a,M,h⟩:=bs h
    refine rg j0<|u<|fa zad j0 j0 j0<|u<|ld zfr j0 j0<|u<|mv j0<|u<|ixI zfr j0 zdh j0 j0 j0 M<|u<|ldI zdh j0 (zo M).2.2 j0<|u<|al 1 zdh j0<|u<|sto zdh j0 j0 j0<|zc ?_
    refine zl ?_
    refine zb3 (X:=Bool) (fun z=>[(1,.mpt 0 0 0),(3,iA c),(4,.mpt 1 0 0),(67,bA z)]) (fun z=>[some (10,[(zq d)]),some (3,[(zaf a)])]) (fun z=>za1 c a z=some r) ?_ ?_
    ·
     rcases bb (decide (a.At < 0)) with f | f
     ·
      replace h:=bT f h
      exact zI [] [42,41,40,39,38,37,36,35,34,33,32,31,30,29,28,27,26,25,24,23,22,21,20,19,18,17,16,15,14,13,12,11,10,9,8,7,6,5,4,3,2,1,0] [(67,bA true),(66,.lit undef),(65,.lit undef),(64,.lit undef),(63,.lit undef),(62,.lit undef),(61,.lit undef),(60,bA true),(59,bA true),(58,.lit undef),(57,.lit undef),(56,.lit undef),(55,.lit undef),(54,.lit undef),(53,.lit undef),(52,bA true),(51,bA true),(50,.lit undef),(49,.lit undef),(48,.lit undef),(47,.lit undef),(46,.lit undef),(45,.lit undef),(44,.lit undef),(43,.lit undef),(42,.lit undef),(41,.lit undef),(40,.lit undef),(39,.lit undef),(38,.lit undef),(37,.lit undef),(36,bA true),(35,bA true),(34,.lit undef),(33,.lit undef),(32,.lit undef),(31,.lit undef),(30,.lit undef),(29,.lit undef),(28,bA (decide (a.At < 0))),(27,bA (decide (a.At < 0))),(26,iA a.At),(25,.mpt 1 0 0)] 0 (by kernel_rfl) (by kernel_rfl) j0 (by kernel_rfl) (dt0 ⟨(fun _=>pa j0 j0 j0 j0 (pk (b:=true) j0 j0<|j4)),(fun _=>pas (b:=true) j0 j0 j0 j0 j0 j0),(fun _=>pas (b:=true) j0 j0 j0 j0 j0 j0),(fun _=>pas (b:=true) j0 j0 j0 j0 j0 j0),(fun _=>pas (b:=true) j0 j0 j0 j0 j0 j0),(fun _=>pas (b:=true) j0 j0 j0 j0 j0 j0),(fun _=>pas (b:=true) j0 j0 j0 j0 j0 j0),(fun _=>pa j0 j0 j0 j0 (mv j0<|j4)),(fun _=>pa j0 j0 j0 j0 (pk (b:=true) j0 j0<|j4)),(fun _=>pas (b:=true) j0 j0 j0 j0 j0 j0),(fun _=>pas (b:=true) j0 j0 j0 j0 j0 j0),(fun _=>pas (b:=true) j0 j0 j0 j0 j0 j0),(fun _=>pas (b:=true) j0 j0 j0 j0 j0 j0),(fun _=>pas (b:=true) j0 j0 j0 j0 j0 j0),(fun _=>pas (b:=true) j0 j0 j0 j0 j0 j0),(fun _=>pa j0 j0 j0 j0 (mv j0<|j4)),(fun _=>pa j0 j0 j0 j0 (pk (b:=true) j0 j0<|j4)),(fun _=>pas (b:=true) j0 j0 j0 j0 j0 j0),(fun _=>pau j0 j0 j0 j0 j0),(fun _=>pau j0 j0 j0 j0 j0),(fun _=>pau j0 j0 j0 j0 j0),(fun _=>pau j0 j0 j0 j0 j0),(fun _=>pau j0 j0 j0 j0 j0),(fun _=>pau j0 j0 j0 j0 j0),(fun _=>pau j0 j0 j0 j0 j0),(fun _=>pau j0 j0 j0 j0 j0),(fun _=>pau j0 j0 j0 j0 j0),(fun _=>pau j0 j0 j0 j0 j0),(fun _=>pas (b:=true) j0 j0 j0 j0 j0 j0),(fun _=>pas (b:=true) j0 j0 j0 j0 j0 j0),(fun _=>pas (b:=true) j0 j0 j0 j0 j0 j0),(fun _=>pa j0 j0 j0 j0 (mv j0<|j4)),(fun _=>pa j0 j0 j0 j0 (pkb j0 f j0<|j4)),(fun _=>pas (b:=(decide (a.At < 0))) j0 j0 j0 j0 f j0),(fun _=>pas (b:=(decide (a.At < 0))) j0 j0 j0 j0 f j0),(fun _=>pas (b:=(decide (a.At < 0))) j0 j0 j0 j0 f j0),(fun _=>pas (b:=(decide (a.At < 0))) j0 j0 j0 j0 f j0),(fun _=>pas (b:=(decide (a.At < 0))) j0 j0 j0 j0 f j0),(fun _=>pas (b:=(decide (a.At < 0))) j0 j0 j0 j0 f j0),(fun _=>pa j0 j0 j0 j0 (mv j0<|j4)),(fun _=>pa j0 j0 j0 j0 (lss ti3 j0 j0<|j4)),(fun _=>pa j0 j0 j0 j0 (ld ti3 j0 j0<|j4)),(fun _=>pa j0 j0 j0 j0 (fa zdh j0 j0 j0<|j4)),j5⟩ (by kernel_rfl) j0 ⟨true,h,[.old 0,.old 1],cv j0 (.mpt j0)<|ce j0 j0<|cv j0 (.mpt j0)<|ce j0 j0<|cn,j0,⟨⟨_,j0,zn (ciL j0)⟩,⟨_,j0,zn (ciL j0)⟩,j5⟩,j0,j1⟩)
     ·
      replace h:=bF f h
      rcases bb (decide ((List.length d.Code:Int)≤a.At)) with i | i
      ·
       replace h:=bT i h
       exact zI [] [42,41,40,39,38,37,36,35,34,33,32,31,30,29,28,27,26,25,24,23,22,21,20,19,18,17,16,15,14,13,12,11,10,9,8,7,6,5,4,3,2,1,0] [(67,bA true),(66,.lit undef),(65,.lit undef),(64,.lit undef),(63,.lit undef),(62,.lit undef),(61,.lit undef),(60,bA true),(59,bA true),(58,.lit undef),(57,.lit undef),(56,.lit undef),(55,.lit undef),(54,.lit undef),(53,.lit undef),(52,bA true),(51,bA true),(50,.lit undef),(49,.lit undef),(48,.lit undef),(47,.lit undef),(46,.lit undef),(45,.lit undef),(44,.lit undef),(43,.lit undef),(42,.lit undef),(41,.lit undef),(40,.lit undef),(39,.lit undef),(38,.lit undef),(37,.lit undef),(36,bA (decide ((List.length d.Code:Int)≤a.At))),(35,bA (decide ((List.length d.Code:Int)≤a.At))),(34,bA (decide ((List.length d.Code:Int)≤a.At))),(33,iA (List.length d.Code:Int)),(32,.isl 4 (List.map zau d.Code)),(31,.mpt 0 0 7),(30,iA a.At),(29,.mpt 1 0 0),(28,bA (decide (a.At < 0))),(27,bA (decide (a.At < 0))),(26,iA a.At),(25,.mpt 1 0 0)] 0 (by kernel_rfl) (by kernel_rfl) j0 (by kernel_rfl) (dt0 ⟨(fun _=>pa j0 j0 j0 j0 (pk (b:=true) j0 j0<|j4)),(fun _=>pas (b:=true) j0 j0 j0 j0 j0 j0),(fun _=>pas (b:=true) j0 j0 j0 j0 j0 j0),(fun _=>pas (b:=true) j0 j0 j0 j0 j0 j0),(fun _=>pas (b:=true) j0 j0 j0 j0 j0 j0),(fun _=>pas (b:=true) j0 j0 j0 j0 j0 j0),(fun _=>pas (b:=true) j0 j0 j0 j0 j0 j0),(fun _=>pa j0 j0 j0 j0 (mv j0<|j4)),(fun _=>pa j0 j0 j0 j0 (pk (b:=true) j0 j0<|j4)),(fun _=>pas (b:=true) j0 j0 j0 j0 j0 j0),(fun _=>pas (b:=true) j0 j0 j0 j0 j0 j0),(fun _=>pas (b:=true) j0 j0 j0 j0 j0 j0),(fun _=>pas (b:=true) j0 j0 j0 j0 j0 j0),(fun _=>pas (b:=true) j0 j0 j0 j0 j0 j0),(fun _=>pas (b:=true) j0 j0 j0 j0 j0 j0),(fun _=>pa j0 j0 j0 j0 (mv j0<|j4)),(fun _=>pa j0 j0 j0 j0 (pkb j0 i j0<|j4)),(fun _=>pas (b:=(decide ((List.length d.Code:Int)≤a.At))) j0 j0 j0 j0 i j0),(fun _=>pau j0 j0 j0 j0 j0),(fun _=>pau j0 j0 j0 j0 j0),(fun _=>pau j0 j0 j0 j0 j0),(fun _=>pau j0 j0 j0 j0 j0),(fun _=>pau j0 j0 j0 j0 j0),(fun _=>pau j0 j0 j0 j0 j0),(fun _=>pau j0 j0 j0 j0 j0),(fun _=>pau j0 j0 j0 j0 j0),(fun _=>pau j0 j0 j0 j0 j0),(fun _=>pau j0 j0 j0 j0 j0),(fun _=>pas (b:=(decide ((List.length d.Code:Int)≤a.At))) j0 j0 j0 j0 i j0),(fun _=>pas (b:=(decide ((List.length d.Code:Int)≤a.At))) j0 j0 j0 j0 i j0),(fun _=>pas (b:=(decide ((List.length d.Code:Int)≤a.At))) j0 j0 j0 j0 i j0),(fun _=>pa j0 j0 j0 j0 (mv j0<|j4)),(fun _=>pa j0 j0 j0 j0 (pkb j0 f j0<|j4)),(fun _=>pag (b:=(decide (a.At < 0))) j0 j0 j0 j0 f j0 (geq ti3 j0 j0<|j4)),(fun _=>pag (b:=(decide (a.At < 0))) j0 j0 j0 j0 f j0 (lnI zeT j0 j0<|j4)),(fun _=>pag (b:=(decide (a.At < 0))) j0 j0 j0 j0 f j0 (ld zeT j0 j0<|j4)),(fun _=>pag (b:=(decide (a.At < 0))) j0 j0 j0 j0 f j0 (fa zad j0 j0 j0<|j4)),(fun _=>pag (b:=(decide (a.At < 0))) j0 j0 j0 j0 f j0 (ld ti3 j0 j0<|j4)),(fun _=>pag (b:=(decide (a.At < 0))) j0 j0 j0 j0 f j0 (fa zdh j0 j0 j0<|j4)),(fun _=>pa j0 j0 j0 j0 (mv j0<|j4)),(fun _=>pa j0 j0 j0 j0 (lss ti3 j0 j0<|j4)),(fun _=>pa j0 j0 j0 j0 (ld ti3 j0 j0<|j4)),(fun _=>pa j0 j0 j0 j0 (fa zdh j0 j0 j0<|j4)),j5⟩ (by kernel_rfl) j0 ⟨true,h,[.old 0,.old 1],cv j0 (.mpt j0)<|ce j0 j0<|cv j0 (.mpt j0)<|ce j0 j0<|cn,j0,⟨⟨_,j0,zn (ciL j0)⟩,⟨_,j0,zn (ciL j0)⟩,j5⟩,j0,j1⟩)
      ·
       replace h:=bF i h
       rcases bb (decide (0 < c)) with e | e
       ·
        replace h:=bT e h
        obtain ⟨l,q,h⟩:=bs h
        rcases bb (decide (a.At≤l.At)) with m | m
        ·
         replace h:=bT m h
         exact zI [] [42,41,40,39,38,37,36,35,34,33,32,31,30,29,28,27,26,25,24,23,22,21,20,19,18,17,16,15,14,13,12,11,10,9,8,7,6,5,4,3,2,1,0] [(67,bA true),(66,.lit undef),(65,.lit undef),(64,.lit undef),(63,.lit undef),(62,.lit undef),(61,.lit undef),(60,bA true),(59,bA true),(58,.lit undef),(57,.lit undef),(56,.lit undef),(55,.lit undef),(54,.lit undef),(53,.lit undef),(52,bA (decide (a.At≤l.At))),(51,bA (decide (a.At≤l.At))),(50,bA (decide (a.At≤l.At))),(49,bA (decide (a.At≤l.At))),(48,iA l.At),(47,.ipt 3 (List.map zaf d.Maps) (Int.toNat (IntKind.i64.wrap (c - 1))) 0),(46,.ipt 3 (List.map zaf d.Maps) (Int.toNat (IntKind.i64.wrap (c - 1))) 0),(45,iA (IntKind.i64.wrap (c - 1))),(44,iA c),(43,.isl 3 (List.map zaf d.Maps)),(42,.mpt 0 0 8),(41,iA a.At),(40,.mpt 1 0 0),(39,bA (decide (0 < c))),(38,bA (decide (0 < c))),(37,iA c),(36,bA (decide ((List.length d.Code:Int)≤a.At))),(35,bA (decide ((List.length d.Code:Int)≤a.At))),(34,bA (decide ((List.length d.Code:Int)≤a.At))),(33,iA (List.length d.Code:Int)),(32,.isl 4 (List.map zau d.Code)),(31,.mpt 0 0 7),(30,iA a.At),(29,.mpt 1 0 0),(28,bA (decide (a.At < 0))),(27,bA (decide (a.At < 0))),(26,iA a.At),(25,.mpt 1 0 0)] 0 (by kernel_rfl) (by kernel_rfl) j0 (by kernel_rfl) (dt0 ⟨(fun _=>pa j0 j0 j0 j0 (pk (b:=true) j0 j0<|j4)),(fun _=>pas (b:=true) j0 j0 j0 j0 j0 j0),(fun _=>pas (b:=true) j0 j0 j0 j0 j0 j0),(fun _=>pas (b:=true) j0 j0 j0 j0 j0 j0),(fun _=>pas (b:=true) j0 j0 j0 j0 j0 j0),(fun _=>pas (b:=true) j0 j0 j0 j0 j0 j0),(fun _=>pas (b:=true) j0 j0 j0 j0 j0 j0),(fun _=>pa j0 j0 j0 j0 (mv j0<|j4)),(fun _=>pa j0 j0 j0 j0 (pkb j0 m j0<|j4)),(fun _=>pas (b:=(decide (a.At≤l.At))) j0 j0 j0 j0 m j0),(fun _=>pas (b:=(decide (a.At≤l.At))) j0 j0 j0 j0 m j0),(fun _=>pas (b:=(decide (a.At≤l.At))) j0 j0 j0 j0 m j0),(fun _=>pas (b:=(decide (a.At≤l.At))) j0 j0 j0 j0 m j0),(fun _=>pas (b:=(decide (a.At≤l.At))) j0 j0 j0 j0 m j0),(fun _=>pas (b:=(decide (a.At≤l.At))) j0 j0 j0 j0 m j0),(fun _=>pa j0 j0 j0 j0 (mv j0<|j4)),(fun _=>pa j0 j0 j0 j0 (pkb j0 i j0<|j4)),(fun _=>pag (b:=(decide ((List.length d.Code:Int)≤a.At))) j0 j0 j0 j0 i j0 (pkb j0 e j0<|j4)),(fun _=>pag (b:=(decide (0 < c))) j0 j0 j0 j0 e j0 (leq ti3 j0 j0<|j4)),(fun _=>pag (b:=(decide (0 < c))) j0 j0 j0 j0 e j0 (ldI ti3 j0 (zo q).2.2 j0<|j4)),(fun _=>pag (b:=(decide (0 < c))) j0 j0 j0 j0 e j0 (fa zdh j0 j0 j0<|j4)),(fun _=>pag (b:=(decide (0 < c))) j0 j0 j0 j0 e j0 (ixI zfr j0 zdh j0 j0 j0 q<|j4)),(fun _=>pag (b:=(decide (0 < c))) j0 j0 j0 j0 e j0 (sub ti3 j0 j0<|j4)),(fun _=>pag (b:=(decide (0 < c))) j0 j0 j0 j0 e j0 (mv j0<|j4)),(fun _=>pag (b:=(decide (0 < c))) j0 j0 j0 j0 e j0 (ld zfr j0 j0<|j4)),(fun _=>pag (b:=(decide (0 < c))) j0 j0 j0 j0 e j0 (fa zad j0 j0 j0<|j4)),(fun _=>pag (b:=(decide (0 < c))) j0 j0 j0 j0 e j0 (ld ti3 j0 j0<|j4)),(fun _=>pag (b:=(decide (0 < c))) j0 j0 j0 j0 e j0 (fa zdh j0 j0 j0<|j4)),(fun _=>pag (b:=(decide ((List.length d.Code:Int)≤a.At))) j0 j0 j0 j0 i j0 (mv j0<|j4)),(fun _=>pag (b:=(decide ((List.length d.Code:Int)≤a.At))) j0 j0 j0 j0 i j0 (gtr ti3 j0 j0<|j4)),(fun _=>pag (b:=(decide ((List.length d.Code:Int)≤a.At))) j0 j0 j0 j0 i j0 (mv j0<|j4)),(fun _=>pa j0 j0 j0 j0 (mv j0<|j4)),(fun _=>pa j0 j0 j0 j0 (pkb j0 f j0<|j4)),(fun _=>pag (b:=(decide (a.At < 0))) j0 j0 j0 j0 f j0 (geq ti3 j0 j0<|j4)),(fun _=>pag (b:=(decide (a.At < 0))) j0 j0 j0 j0 f j0 (lnI zeT j0 j0<|j4)),(fun _=>pag (b:=(decide (a.At < 0))) j0 j0 j0 j0 f j0 (ld zeT j0 j0<|j4)),(fun _=>pag (b:=(decide (a.At < 0))) j0 j0 j0 j0 f j0 (fa zad j0 j0 j0<|j4)),(fun _=>pag (b:=(decide (a.At < 0))) j0 j0 j0 j0 f j0 (ld ti3 j0 j0<|j4)),(fun _=>pag (b:=(decide (a.At < 0))) j0 j0 j0 j0 f j0 (fa zdh j0 j0 j0<|j4)),(fun _=>pa j0 j0 j0 j0 (mv j0<|j4)),(fun _=>pa j0 j0 j0 j0 (lss ti3 j0 j0<|j4)),(fun _=>pa j0 j0 j0 j0 (ld ti3 j0 j0<|j4)),(fun _=>pa j0 j0 j0 j0 (fa zdh j0 j0 j0<|j4)),j5⟩ (by kernel_rfl) j0 ⟨true,h,[.old 0,.old 1],cv j0 (.mpt j0)<|ce j0 j0<|cv j0 (.mpt j0)<|ce j0 j0<|cn,j0,⟨⟨_,j0,zn (ciL j0)⟩,⟨_,j0,zn (ciL j0)⟩,j5⟩,j0,j1⟩)
        ·
         replace h:=bF m h
         rcases bb (!((List.length a.Locals:Int) == d.Locals)) with n | n
         ·
          replace h:=bT n h
          exact zI [] [42,41,40,39,38,37,36,35,34,33,32,31,30,29,28,27,26,25,24,23,22,21,20,19,18,17,16,15,14,13,12,11,10,9,8,7,6,5,4,3,2,1,0] [(67,bA true),(66,.lit undef),(65,.lit undef),(64,.lit undef),(63,.lit undef),(62,.lit undef),(61,.lit undef),(60,bA (!((List.length a.Locals:Int) == d.Locals))),(59,bA (!((List.length a.Locals:Int) == d.Locals))),(58,bA (!((List.length a.Locals:Int) == d.Locals))),(57,iA d.Locals),(56,.mpt 0 0 5),(55,iA (List.length a.Locals:Int)),(54,.isl 1 (List.map zz a.Locals)),(53,.mpt 1 0 1),(52,bA (decide (a.At≤l.At))),(51,bA (decide (a.At≤l.At))),(50,bA (decide (a.At≤l.At))),(49,bA (decide (a.At≤l.At))),(48,iA l.At),(47,.ipt 3 (List.map zaf d.Maps) (Int.toNat (IntKind.i64.wrap (c - 1))) 0),(46,.ipt 3 (List.map zaf d.Maps) (Int.toNat (IntKind.i64.wrap (c - 1))) 0),(45,iA (IntKind.i64.wrap (c - 1))),(44,iA c),(43,.isl 3 (List.map zaf d.Maps)),(42,.mpt 0 0 8),(41,iA a.At),(40,.mpt 1 0 0),(39,bA (decide (0 < c))),(38,bA (decide (0 < c))),(37,iA c),(36,bA (decide ((List.length d.Code:Int)≤a.At))),(35,bA (decide ((List.length d.Code:Int)≤a.At))),(34,bA (decide ((List.length d.Code:Int)≤a.At))),(33,iA (List.length d.Code:Int)),(32,.isl 4 (List.map zau d.Code)),(31,.mpt 0 0 7),(30,iA a.At),(29,.mpt 1 0 0),(28,bA (decide (a.At < 0))),(27,bA (decide (a.At < 0))),(26,iA a.At),(25,.mpt 1 0 0)] 0 (by kernel_rfl) (by kernel_rfl) j0 (by kernel_rfl) (dt0 ⟨(fun _=>pa j0 j0 j0 j0 (pkb j0 n j0<|j4)),(fun _=>pas (b:=(!((List.length a.Locals:Int) == d.Locals))) j0 j0 j0 j0 n j0),(fun _=>pas (b:=(!((List.length a.Locals:Int) == d.Locals))) j0 j0 j0 j0 n j0),(fun _=>pas (b:=(!((List.length a.Locals:Int) == d.Locals))) j0 j0 j0 j0 n j0),(fun _=>pas (b:=(!((List.length a.Locals:Int) == d.Locals))) j0 j0 j0 j0 n j0),(fun _=>pas (b:=(!((List.length a.Locals:Int) == d.Locals))) j0 j0 j0 j0 n j0),(fun _=>pas (b:=(!((List.length a.Locals:Int) == d.Locals))) j0 j0 j0 j0 n j0),(fun _=>pa j0 j0 j0 j0 (mv j0<|j4)),(fun _=>pa j0 j0 j0 j0 (pkb j0 m j0<|j4)),(fun _=>pag (b:=(decide (a.At≤l.At))) j0 j0 j0 j0 m j0 (neq ti3 j0 j0<|j4)),(fun _=>pag (b:=(decide (a.At≤l.At))) j0 j0 j0 j0 m j0 (ld ti3 j0 j0<|j4)),(fun _=>pag (b:=(decide (a.At≤l.At))) j0 j0 j0 j0 m j0 (fa zad j0 j0 j0<|j4)),(fun _=>pag (b:=(decide (a.At≤l.At))) j0 j0 j0 j0 m j0 (lnI zak j0 j0<|j4)),(fun _=>pag (b:=(decide (a.At≤l.At))) j0 j0 j0 j0 m j0 (ld zak j0 j0<|j4)),(fun _=>pag (b:=(decide (a.At≤l.At))) j0 j0 j0 j0 m j0 (fa zdh j0 j0 j0<|j4)),(fun _=>pa j0 j0 j0 j0 (mv j0<|j4)),(fun _=>pa j0 j0 j0 j0 (pkb j0 i j0<|j4)),(fun _=>pag (b:=(decide ((List.length d.Code:Int)≤a.At))) j0 j0 j0 j0 i j0 (pkb j0 e j0<|j4)),(fun _=>pag (b:=(decide (0 < c))) j0 j0 j0 j0 e j0 (leq ti3 j0 j0<|j4)),(fun _=>pag (b:=(decide (0 < c))) j0 j0 j0 j0 e j0 (ldI ti3 j0 (zo q).2.2 j0<|j4)),(fun _=>pag (b:=(decide (0 < c))) j0 j0 j0 j0 e j0 (fa zdh j0 j0 j0<|j4)),(fun _=>pag (b:=(decide (0 < c))) j0 j0 j0 j0 e j0 (ixI zfr j0 zdh j0 j0 j0 q<|j4)),(fun _=>pag (b:=(decide (0 < c))) j0 j0 j0 j0 e j0 (sub ti3 j0 j0<|j4)),(fun _=>pag (b:=(decide (0 < c))) j0 j0 j0 j0 e j0 (mv j0<|j4)),(fun _=>pag (b:=(decide (0 < c))) j0 j0 j0 j0 e j0 (ld zfr j0 j0<|j4)),(fun _=>pag (b:=(decide (0 < c))) j0 j0 j0 j0 e j0 (fa zad j0 j0 j0<|j4)),(fun _=>pag (b:=(decide (0 < c))) j0 j0 j0 j0 e j0 (ld ti3 j0 j0<|j4)),(fun _=>pag (b:=(decide (0 < c))) j0 j0 j0 j0 e j0 (fa zdh j0 j0 j0<|j4)),(fun _=>pag (b:=(decide ((List.length d.Code:Int)≤a.At))) j0 j0 j0 j0 i j0 (mv j0<|j4)),(fun _=>pag (b:=(decide ((List.length d.Code:Int)≤a.At))) j0 j0 j0 j0 i j0 (gtr ti3 j0 j0<|j4)),(fun _=>pag (b:=(decide ((List.length d.Code:Int)≤a.At))) j0 j0 j0 j0 i j0 (mv j0<|j4)),(fun _=>pa j0 j0 j0 j0 (mv j0<|j4)),(fun _=>pa j0 j0 j0 j0 (pkb j0 f j0<|j4)),(fun _=>pag (b:=(decide (a.At < 0))) j0 j0 j0 j0 f j0 (geq ti3 j0 j0<|j4)),(fun _=>pag (b:=(decide (a.At < 0))) j0 j0 j0 j0 f j0 (lnI zeT j0 j0<|j4)),(fun _=>pag (b:=(decide (a.At < 0))) j0 j0 j0 j0 f j0 (ld zeT j0 j0<|j4)),(fun _=>pag (b:=(decide (a.At < 0))) j0 j0 j0 j0 f j0 (fa zad j0 j0 j0<|j4)),(fun _=>pag (b:=(decide (a.At < 0))) j0 j0 j0 j0 f j0 (ld ti3 j0 j0<|j4)),(fun _=>pag (b:=(decide (a.At < 0))) j0 j0 j0 j0 f j0 (fa zdh j0 j0 j0<|j4)),(fun _=>pa j0 j0 j0 j0 (mv j0<|j4)),(fun _=>pa j0 j0 j0 j0 (lss ti3 j0 j0<|j4)),(fun _=>pa j0 j0 j0 j0 (ld ti3 j0 j0<|j4)),(fun _=>pa j0 j0 j0 j0 (fa zdh j0 j0 j0<|j4)),j5⟩ (by kernel_rfl) j0 ⟨true,h,[.old 0,.old 1],cv j0 (.mpt j0)<|ce j0 j0<|cv j0 (.mpt j0)<|ce j0 j0<|cn,j0,⟨⟨_,j0,zn (ciL j0)⟩,⟨_,j0,zn (ciL j0)⟩,j5⟩,j0,j1⟩)
         ·
          replace h:=bF n h
          exact zI [] [42,41,40,39,38,37,36,35,34,33,32,31,30,29,28,27,26,25,24,23,22,21,20,19,18,17,16,15,14,13,12,11,10,9,8,7,6,5,4,3,2,1,0] [(67,bA (decide (d.Stack < (List.length a.Stack:Int)))),(66,bA (decide (d.Stack < (List.length a.Stack:Int)))),(65,iA d.Stack),(64,.mpt 0 0 6),(63,iA (List.length a.Stack:Int)),(62,.isl 1 (List.map zz a.Stack)),(61,.mpt 1 0 2),(60,bA (!((List.length a.Locals:Int) == d.Locals))),(59,bA (!((List.length a.Locals:Int) == d.Locals))),(58,bA (!((List.length a.Locals:Int) == d.Locals))),(57,iA d.Locals),(56,.mpt 0 0 5),(55,iA (List.length a.Locals:Int)),(54,.isl 1 (List.map zz a.Locals)),(53,.mpt 1 0 1),(52,bA (decide (a.At≤l.At))),(51,bA (decide (a.At≤l.At))),(50,bA (decide (a.At≤l.At))),(49,bA (decide (a.At≤l.At))),(48,iA l.At),(47,.ipt 3 (List.map zaf d.Maps) (Int.toNat (IntKind.i64.wrap (c - 1))) 0),(46,.ipt 3 (List.map zaf d.Maps) (Int.toNat (IntKind.i64.wrap (c - 1))) 0),(45,iA (IntKind.i64.wrap (c - 1))),(44,iA c),(43,.isl 3 (List.map zaf d.Maps)),(42,.mpt 0 0 8),(41,iA a.At),(40,.mpt 1 0 0),(39,bA (decide (0 < c))),(38,bA (decide (0 < c))),(37,iA c),(36,bA (decide ((List.length d.Code:Int)≤a.At))),(35,bA (decide ((List.length d.Code:Int)≤a.At))),(34,bA (decide ((List.length d.Code:Int)≤a.At))),(33,iA (List.length d.Code:Int)),(32,.isl 4 (List.map zau d.Code)),(31,.mpt 0 0 7),(30,iA a.At),(29,.mpt 1 0 0),(28,bA (decide (a.At < 0))),(27,bA (decide (a.At < 0))),(26,iA a.At),(25,.mpt 1 0 0)] 0 (by kernel_rfl) (by kernel_rfl) j0 (by kernel_rfl) (dt0 ⟨(fun _=>pa j0 j0 j0 j0 (pkb j0 n j0<|j4)),(fun _=>pag (b:=(!((List.length a.Locals:Int) == d.Locals))) j0 j0 j0 j0 n j0 (gtr ti3 j0 j0<|j4)),(fun _=>pag (b:=(!((List.length a.Locals:Int) == d.Locals))) j0 j0 j0 j0 n j0 (ld ti3 j0 j0<|j4)),(fun _=>pag (b:=(!((List.length a.Locals:Int) == d.Locals))) j0 j0 j0 j0 n j0 (fa zad j0 j0 j0<|j4)),(fun _=>pag (b:=(!((List.length a.Locals:Int) == d.Locals))) j0 j0 j0 j0 n j0 (lnI zak j0 j0<|j4)),(fun _=>pag (b:=(!((List.length a.Locals:Int) == d.Locals))) j0 j0 j0 j0 n j0 (ld zak j0 j0<|j4)),(fun _=>pag (b:=(!((List.length a.Locals:Int) == d.Locals))) j0 j0 j0 j0 n j0 (fa zdh j0 j0 j0<|j4)),(fun _=>pa j0 j0 j0 j0 (mv j0<|j4)),(fun _=>pa j0 j0 j0 j0 (pkb j0 m j0<|j4)),(fun _=>pag (b:=(decide (a.At≤l.At))) j0 j0 j0 j0 m j0 (neq ti3 j0 j0<|j4)),(fun _=>pag (b:=(decide (a.At≤l.At))) j0 j0 j0 j0 m j0 (ld ti3 j0 j0<|j4)),(fun _=>pag (b:=(decide (a.At≤l.At))) j0 j0 j0 j0 m j0 (fa zad j0 j0 j0<|j4)),(fun _=>pag (b:=(decide (a.At≤l.At))) j0 j0 j0 j0 m j0 (lnI zak j0 j0<|j4)),(fun _=>pag (b:=(decide (a.At≤l.At))) j0 j0 j0 j0 m j0 (ld zak j0 j0<|j4)),(fun _=>pag (b:=(decide (a.At≤l.At))) j0 j0 j0 j0 m j0 (fa zdh j0 j0 j0<|j4)),(fun _=>pa j0 j0 j0 j0 (mv j0<|j4)),(fun _=>pa j0 j0 j0 j0 (pkb j0 i j0<|j4)),(fun _=>pag (b:=(decide ((List.length d.Code:Int)≤a.At))) j0 j0 j0 j0 i j0 (pkb j0 e j0<|j4)),(fun _=>pag (b:=(decide (0 < c))) j0 j0 j0 j0 e j0 (leq ti3 j0 j0<|j4)),(fun _=>pag (b:=(decide (0 < c))) j0 j0 j0 j0 e j0 (ldI ti3 j0 (zo q).2.2 j0<|j4)),(fun _=>pag (b:=(decide (0 < c))) j0 j0 j0 j0 e j0 (fa zdh j0 j0 j0<|j4)),(fun _=>pag (b:=(decide (0 < c))) j0 j0 j0 j0 e j0 (ixI zfr j0 zdh j0 j0 j0 q<|j4)),(fun _=>pag (b:=(decide (0 < c))) j0 j0 j0 j0 e j0 (sub ti3 j0 j0<|j4)),(fun _=>pag (b:=(decide (0 < c))) j0 j0 j0 j0 e j0 (mv j0<|j4)),(fun _=>pag (b:=(decide (0 < c))) j0 j0 j0 j0 e j0 (ld zfr j0 j0<|j4)),(fun _=>pag (b:=(decide (0 < c))) j0 j0 j0 j0 e j0 (fa zad j0 j0 j0<|j4)),(fun _=>pag (b:=(decide (0 < c))) j0 j0 j0 j0 e j0 (ld ti3 j0 j0<|j4)),(fun _=>pag (b:=(decide (0 < c))) j0 j0 j0 j0 e j0 (fa zdh j0 j0 j0<|j4)),(fun _=>pag (b:=(decide ((List.length d.Code:Int)≤a.At))) j0 j0 j0 j0 i j0 (mv j0<|j4)),(fun _=>pag (b:=(decide ((List.length d.Code:Int)≤a.At))) j0 j0 j0 j0 i j0 (gtr ti3 j0 j0<|j4)),(fun _=>pag (b:=(decide ((List.length d.Code:Int)≤a.At))) j0 j0 j0 j0 i j0 (mv j0<|j4)),(fun _=>pa j0 j0 j0 j0 (mv j0<|j4)),(fun _=>pa j0 j0 j0 j0 (pkb j0 f j0<|j4)),(fun _=>pag (b:=(decide (a.At < 0))) j0 j0 j0 j0 f j0 (geq ti3 j0 j0<|j4)),(fun _=>pag (b:=(decide (a.At < 0))) j0 j0 j0 j0 f j0 (lnI zeT j0 j0<|j4)),(fun _=>pag (b:=(decide (a.At < 0))) j0 j0 j0 j0 f j0 (ld zeT j0 j0<|j4)),(fun _=>pag (b:=(decide (a.At < 0))) j0 j0 j0 j0 f j0 (fa zad j0 j0 j0<|j4)),(fun _=>pag (b:=(decide (a.At < 0))) j0 j0 j0 j0 f j0 (ld ti3 j0 j0<|j4)),(fun _=>pag (b:=(decide (a.At < 0))) j0 j0 j0 j0 f j0 (fa zdh j0 j0 j0<|j4)),(fun _=>pa j0 j0 j0 j0 (mv j0<|j4)),(fun _=>pa j0 j0 j0 j0 (lss ti3 j0 j0<|j4)),(fun _=>pa j0 j0 j0 j0 (ld ti3 j0 j0<|j4)),(fun _=>pa j0 j0 j0 j0 (fa zdh j0 j0 j0<|j4)),j5⟩ (by kernel_rfl) j0 ⟨(decide (d.Stack < (List.length a.Stack:Int))),h,[.old 0,.old 1],cv j0 (.mpt j0)<|ce j0 j0<|cv j0 (.mpt j0)<|ce j0 j0<|cn,j0,⟨⟨_,j0,zn (ciL j0)⟩,⟨_,j0,zn (ciL j0)⟩,j5⟩,j0,j1⟩)
       ·
        replace h:=bF e h
        rcases bb (!((List.length a.Locals:Int) == d.Locals)) with p | p
        ·
         replace h:=bT p h
         exact zI [] [42,41,40,39,38,37,36,35,34,33,32,31,30,29,28,27,26,25,24,23,22,21,20,19,18,17,16,15,14,13,12,11,10,9,8,7,6,5,4,3,2,1,0] [(67,bA true),(66,.lit undef),(65,.lit undef),(64,.lit undef),(63,.lit undef),(62,.lit undef),(61,.lit undef),(60,bA (!((List.length a.Locals:Int) == d.Locals))),(59,bA (!((List.length a.Locals:Int) == d.Locals))),(58,bA (!((List.length a.Locals:Int) == d.Locals))),(57,iA d.Locals),(56,.mpt 0 0 5),(55,iA (List.length a.Locals:Int)),(54,.isl 1 (List.map zz a.Locals)),(53,.mpt 1 0 1),(52,bA false),(51,bA false),(50,bA false),(49,.lit undef),(48,.lit undef),(47,.lit undef),(46,.lit undef),(45,.lit undef),(44,.lit undef),(43,.lit undef),(42,.lit undef),(41,.lit undef),(40,.lit undef),(39,bA (decide (0 < c))),(38,bA (decide (0 < c))),(37,iA c),(36,bA (decide ((List.length d.Code:Int)≤a.At))),(35,bA (decide ((List.length d.Code:Int)≤a.At))),(34,bA (decide ((List.length d.Code:Int)≤a.At))),(33,iA (List.length d.Code:Int)),(32,.isl 4 (List.map zau d.Code)),(31,.mpt 0 0 7),(30,iA a.At),(29,.mpt 1 0 0),(28,bA (decide (a.At < 0))),(27,bA (decide (a.At < 0))),(26,iA a.At),(25,.mpt 1 0 0)] 0 (by kernel_rfl) (by kernel_rfl) j0 (by kernel_rfl) (dt0 ⟨(fun _=>pa j0 j0 j0 j0 (pkb j0 p j0<|j4)),(fun _=>pas (b:=(!((List.length a.Locals:Int) == d.Locals))) j0 j0 j0 j0 p j0),(fun _=>pas (b:=(!((List.length a.Locals:Int) == d.Locals))) j0 j0 j0 j0 p j0),(fun _=>pas (b:=(!((List.length a.Locals:Int) == d.Locals))) j0 j0 j0 j0 p j0),(fun _=>pas (b:=(!((List.length a.Locals:Int) == d.Locals))) j0 j0 j0 j0 p j0),(fun _=>pas (b:=(!((List.length a.Locals:Int) == d.Locals))) j0 j0 j0 j0 p j0),(fun _=>pas (b:=(!((List.length a.Locals:Int) == d.Locals))) j0 j0 j0 j0 p j0),(fun _=>pa j0 j0 j0 j0 (mv j0<|j4)),(fun _=>pa j0 j0 j0 j0 (pk (b:=false) j0 j0<|j4)),(fun _=>pag (b:=false) j0 j0 j0 j0 j0 j0 (neq ti3 j0 j0<|j4)),(fun _=>pag (b:=false) j0 j0 j0 j0 j0 j0 (ld ti3 j0 j0<|j4)),(fun _=>pag (b:=false) j0 j0 j0 j0 j0 j0 (fa zad j0 j0 j0<|j4)),(fun _=>pag (b:=false) j0 j0 j0 j0 j0 j0 (lnI zak j0 j0<|j4)),(fun _=>pag (b:=false) j0 j0 j0 j0 j0 j0 (ld zak j0 j0<|j4)),(fun _=>pag (b:=false) j0 j0 j0 j0 j0 j0 (fa zdh j0 j0 j0<|j4)),(fun _=>pa j0 j0 j0 j0 (mv j0<|j4)),(fun _=>pa j0 j0 j0 j0 (pkb j0 i j0<|j4)),(fun _=>pag (b:=(decide ((List.length d.Code:Int)≤a.At))) j0 j0 j0 j0 i j0 (pkb j0 e j0<|j4)),(fun _=>pas (b:=(decide (0 < c))) j0 j0 j0 j0 e j0),(fun _=>pas (b:=(decide (0 < c))) j0 j0 j0 j0 e j0),(fun _=>pas (b:=(decide (0 < c))) j0 j0 j0 j0 e j0),(fun _=>pas (b:=(decide (0 < c))) j0 j0 j0 j0 e j0),(fun _=>pas (b:=(decide (0 < c))) j0 j0 j0 j0 e j0),(fun _=>pas (b:=(decide (0 < c))) j0 j0 j0 j0 e j0),(fun _=>pas (b:=(decide (0 < c))) j0 j0 j0 j0 e j0),(fun _=>pas (b:=(decide (0 < c))) j0 j0 j0 j0 e j0),(fun _=>pas (b:=(decide (0 < c))) j0 j0 j0 j0 e j0),(fun _=>pas (b:=(decide (0 < c))) j0 j0 j0 j0 e j0),(fun _=>pag (b:=(decide ((List.length d.Code:Int)≤a.At))) j0 j0 j0 j0 i j0 (mv j0<|j4)),(fun _=>pag (b:=(decide ((List.length d.Code:Int)≤a.At))) j0 j0 j0 j0 i j0 (gtr ti3 j0 j0<|j4)),(fun _=>pag (b:=(decide ((List.length d.Code:Int)≤a.At))) j0 j0 j0 j0 i j0 (mv j0<|j4)),(fun _=>pa j0 j0 j0 j0 (mv j0<|j4)),(fun _=>pa j0 j0 j0 j0 (pkb j0 f j0<|j4)),(fun _=>pag (b:=(decide (a.At < 0))) j0 j0 j0 j0 f j0 (geq ti3 j0 j0<|j4)),(fun _=>pag (b:=(decide (a.At < 0))) j0 j0 j0 j0 f j0 (lnI zeT j0 j0<|j4)),(fun _=>pag (b:=(decide (a.At < 0))) j0 j0 j0 j0 f j0 (ld zeT j0 j0<|j4)),(fun _=>pag (b:=(decide (a.At < 0))) j0 j0 j0 j0 f j0 (fa zad j0 j0 j0<|j4)),(fun _=>pag (b:=(decide (a.At < 0))) j0 j0 j0 j0 f j0 (ld ti3 j0 j0<|j4)),(fun _=>pag (b:=(decide (a.At < 0))) j0 j0 j0 j0 f j0 (fa zdh j0 j0 j0<|j4)),(fun _=>pa j0 j0 j0 j0 (mv j0<|j4)),(fun _=>pa j0 j0 j0 j0 (lss ti3 j0 j0<|j4)),(fun _=>pa j0 j0 j0 j0 (ld ti3 j0 j0<|j4)),(fun _=>pa j0 j0 j0 j0 (fa zdh j0 j0 j0<|j4)),j5⟩ (by kernel_rfl) j0 ⟨true,h,[.old 0,.old 1],cv j0 (.mpt j0)<|ce j0 j0<|cv j0 (.mpt j0)<|ce j0 j0<|cn,j0,⟨⟨_,j0,zn (ciL j0)⟩,⟨_,j0,zn (ciL j0)⟩,j5⟩,j0,j1⟩)
        ·
         replace h:=bF p h
         exact zI [] [42,41,40,39,38,37,36,35,34,33,32,31,30,29,28,27,26,25,24,23,22,21,20,19,18,17,16,15,14,13,12,11,10,9,8,7,6,5,4,3,2,1,0] [(67,bA (decide (d.Stack < (List.length a.Stack:Int)))),(66,bA (decide (d.Stack < (List.length a.Stack:Int)))),(65,iA d.Stack),(64,.mpt 0 0 6),(63,iA (List.length a.Stack:Int)),(62,.isl 1 (List.map zz a.Stack)),(61,.mpt 1 0 2),(60,bA (!((List.length a.Locals:Int) == d.Locals))),(59,bA (!((List.length a.Locals:Int) == d.Locals))),(58,bA (!((List.length a.Locals:Int) == d.Locals))),(57,iA d.Locals),(56,.mpt 0 0 5),(55,iA (List.length a.Locals:Int)),(54,.isl 1 (List.map zz a.Locals)),(53,.mpt 1 0 1),(52,bA false),(51,bA false),(50,bA false),(49,.lit undef),(48,.lit undef),(47,.lit undef),(46,.lit undef),(45,.lit undef),(44,.lit undef),(43,.lit undef),(42,.lit undef),(41,.lit undef),(40,.lit undef),(39,bA (decide (0 < c))),(38,bA (decide (0 < c))),(37,iA c),(36,bA (decide ((List.length d.Code:Int)≤a.At))),(35,bA (decide ((List.length d.Code:Int)≤a.At))),(34,bA (decide ((List.length d.Code:Int)≤a.At))),(33,iA (List.length d.Code:Int)),(32,.isl 4 (List.map zau d.Code)),(31,.mpt 0 0 7),(30,iA a.At),(29,.mpt 1 0 0),(28,bA (decide (a.At < 0))),(27,bA (decide (a.At < 0))),(26,iA a.At),(25,.mpt 1 0 0)] 0 (by kernel_rfl) (by kernel_rfl) j0 (by kernel_rfl) (dt0 ⟨(fun _=>pa j0 j0 j0 j0 (pkb j0 p j0<|j4)),(fun _=>pag (b:=(!((List.length a.Locals:Int) == d.Locals))) j0 j0 j0 j0 p j0 (gtr ti3 j0 j0<|j4)),(fun _=>pag (b:=(!((List.length a.Locals:Int) == d.Locals))) j0 j0 j0 j0 p j0 (ld ti3 j0 j0<|j4)),(fun _=>pag (b:=(!((List.length a.Locals:Int) == d.Locals))) j0 j0 j0 j0 p j0 (fa zad j0 j0 j0<|j4)),(fun _=>pag (b:=(!((List.length a.Locals:Int) == d.Locals))) j0 j0 j0 j0 p j0 (lnI zak j0 j0<|j4)),(fun _=>pag (b:=(!((List.length a.Locals:Int) == d.Locals))) j0 j0 j0 j0 p j0 (ld zak j0 j0<|j4)),(fun _=>pag (b:=(!((List.length a.Locals:Int) == d.Locals))) j0 j0 j0 j0 p j0 (fa zdh j0 j0 j0<|j4)),(fun _=>pa j0 j0 j0 j0 (mv j0<|j4)),(fun _=>pa j0 j0 j0 j0 (pk (b:=false) j0 j0<|j4)),(fun _=>pag (b:=false) j0 j0 j0 j0 j0 j0 (neq ti3 j0 j0<|j4)),(fun _=>pag (b:=false) j0 j0 j0 j0 j0 j0 (ld ti3 j0 j0<|j4)),(fun _=>pag (b:=false) j0 j0 j0 j0 j0 j0 (fa zad j0 j0 j0<|j4)),(fun _=>pag (b:=false) j0 j0 j0 j0 j0 j0 (lnI zak j0 j0<|j4)),(fun _=>pag (b:=false) j0 j0 j0 j0 j0 j0 (ld zak j0 j0<|j4)),(fun _=>pag (b:=false) j0 j0 j0 j0 j0 j0 (fa zdh j0 j0 j0<|j4)),(fun _=>pa j0 j0 j0 j0 (mv j0<|j4)),(fun _=>pa j0 j0 j0 j0 (pkb j0 i j0<|j4)),(fun _=>pag (b:=(decide ((List.length d.Code:Int)≤a.At))) j0 j0 j0 j0 i j0 (pkb j0 e j0<|j4)),(fun _=>pas (b:=(decide (0 < c))) j0 j0 j0 j0 e j0),(fun _=>pas (b:=(decide (0 < c))) j0 j0 j0 j0 e j0),(fun _=>pas (b:=(decide (0 < c))) j0 j0 j0 j0 e j0),(fun _=>pas (b:=(decide (0 < c))) j0 j0 j0 j0 e j0),(fun _=>pas (b:=(decide (0 < c))) j0 j0 j0 j0 e j0),(fun _=>pas (b:=(decide (0 < c))) j0 j0 j0 j0 e j0),(fun _=>pas (b:=(decide (0 < c))) j0 j0 j0 j0 e j0),(fun _=>pas (b:=(decide (0 < c))) j0 j0 j0 j0 e j0),(fun _=>pas (b:=(decide (0 < c))) j0 j0 j0 j0 e j0),(fun _=>pas (b:=(decide (0 < c))) j0 j0 j0 j0 e j0),(fun _=>pag (b:=(decide ((List.length d.Code:Int)≤a.At))) j0 j0 j0 j0 i j0 (mv j0<|j4)),(fun _=>pag (b:=(decide ((List.length d.Code:Int)≤a.At))) j0 j0 j0 j0 i j0 (gtr ti3 j0 j0<|j4)),(fun _=>pag (b:=(decide ((List.length d.Code:Int)≤a.At))) j0 j0 j0 j0 i j0 (mv j0<|j4)),(fun _=>pa j0 j0 j0 j0 (mv j0<|j4)),(fun _=>pa j0 j0 j0 j0 (pkb j0 f j0<|j4)),(fun _=>pag (b:=(decide (a.At < 0))) j0 j0 j0 j0 f j0 (geq ti3 j0 j0<|j4)),(fun _=>pag (b:=(decide (a.At < 0))) j0 j0 j0 j0 f j0 (lnI zeT j0 j0<|j4)),(fun _=>pag (b:=(decide (a.At < 0))) j0 j0 j0 j0 f j0 (ld zeT j0 j0<|j4)),(fun _=>pag (b:=(decide (a.At < 0))) j0 j0 j0 j0 f j0 (fa zad j0 j0 j0<|j4)),(fun _=>pag (b:=(decide (a.At < 0))) j0 j0 j0 j0 f j0 (ld ti3 j0 j0<|j4)),(fun _=>pag (b:=(decide (a.At < 0))) j0 j0 j0 j0 f j0 (fa zdh j0 j0 j0<|j4)),(fun _=>pa j0 j0 j0 j0 (mv j0<|j4)),(fun _=>pa j0 j0 j0 j0 (lss ti3 j0 j0<|j4)),(fun _=>pa j0 j0 j0 j0 (ld ti3 j0 j0<|j4)),(fun _=>pa j0 j0 j0 j0 (fa zdh j0 j0 j0<|j4)),j5⟩ (by kernel_rfl) j0 ⟨(decide (d.Stack < (List.length a.Stack:Int))),h,[.old 0,.old 1],cv j0 (.mpt j0)<|ce j0 j0<|cv j0 (.mpt j0)<|ce j0 j0<|cn,j0,⟨⟨_,j0,zn (ciL j0)⟩,⟨_,j0,zn (ciL j0)⟩,j5⟩,j0,j1⟩)
    ·
     rintro P h
     replace h:za1 c a P=some r:=h
     unfold za1 at h
     refine zk j0 (fun F=>?_) (fun F=>?_)
     ·
      replace h:=bT F h
      refine rg j0<|u<|asg j0<|zc ?_
      refine zp ?_
      obtain rfl:=sm h
      exact ⟨_,j0,_,j0,[],ci j0,j0,j5,j0,j1⟩
     ·
      replace h:=bF F h
      refine zm ?_
      refine zl ?_
      refine rg j0<|u<|asg j0<|zc ?_
      obtain ⟨o,ho,h⟩:=bs h
      refine zU (X:=Int) (B:=Unit) (R:=Bool) (fun z=>[(1,.mpt 0 0 0),(3,iA c),(4,.mpt 1 0 0),(5,iA z)]) (fun z=>[some (10,[(zq d)]),some (3,[(zaf a)])]) (fun b=>[(1,.mpt 0 0 0),(3,iA c),(4,.mpt 1 0 0)]) (fun b=>[some (10,[(zq d)]),some (3,[(zaf a)])]) (fun r env st=>zaD Tryz.prog Tryz.f270 0 (bA r) [] env st) ho ⟨[.old 0,.old 1],cv j0 (.mpt j0)<|ce j0 j0<|cv j0 (.mpt j0)<|ce j0 j0<|cn,j0,⟨⟨_,j0,zn (ciL j0)⟩,⟨_,j0,zn (ciL j0)⟩,j5⟩,j0,j1⟩ ?_ ?_ ?_
      ·
       rintro Q r h
       replace h:zcm a Q=some r:=h
       unfold zcm at h
       refine zl ?_
       refine rg j0<|u<|mv j0<|u<|fa zdh j0 j0 j0<|u<|ld zak j0 j0<|u<|lnI zak j0 j0<|u<|lss ti3 j0 j0<|zc ?_
       refine zk j0 (fun G=>?_) (fun G=>?_)
       ·
        replace h:=bT G h
        refine zm ?_
        refine zl ?_
        refine zs ?_
        obtain ⟨S,N,h⟩:=bs h
        refine rg j0<|u<|fa zdh j0 j0 j0<|u<|ld zak j0 j0<|u<|mv j0<|u<|ixI zak j0 ti9 j0 j0 j0 N<|u<|ldI ti9 j0 (zo N).2.2 j0<|u<|asg j0<|zc ?_
        obtain ⟨T,s,h⟩:=bs h
        refine rg j0<|u<|mv j0<|u<|sne ti9 j0 j0<|u<|mv j0<|z2 (j:=2) 2 j0 j0 j0 j0 j0 gpn (fun H=>g j0 H<|mv j0<|g j0 H<|sne ti9 j0 j0<|zc (egA [83,84] 2 H j0 j0 j0 j0)) zdb<|u<|mv j0<|z2 (x:=T) (j:=6) 3 j0 j0 j0 j0 j0 gpn (fun C=>by replace s:=bT C s; obtain ⟨v32,U,s⟩:=bs s; obtain rfl:=sm s; exact g j0 C<|mv j0<|g j0 C<|pc (zeR S U) j0 j0 j0<|g j0 C<|nt j0<|zc (eg [87,88,89] 3 j0 j0 j0 j0)) (fun hb=>(sm (bF hb s)).symm)<|zc ?_
        refine zk j0 (fun I=>?_) (fun I=>?_)
        ·
         replace h:=bT I h
         refine rg j0<|u<|asg j0<|zc ?_
         refine zp ?_
         obtain rfl:=sm h
         exact ⟨_,j0,_,j0,[],ci j0,j0,j5,j0,j1⟩
        ·
         replace h:=bF I h
         refine zm ?_
         refine rl j0<|u<|mv j0<|u<|add ti3 j0 j0<|u<|asg j0<|zc ?_
         obtain rfl:=sm h
         exact ⟨_,j0,[.old 0,.old 1],cv j0 (.mpt j0)<|ce j0 j0<|cv j0 (.mpt j0)<|ce j0 j0<|cn,j0,⟨⟨_,j0,zn (ciL j0)⟩,⟨_,j0,zn (ciL j0)⟩,j5⟩,j0,j1⟩
       ·
        replace h:=bF G h
        refine zB ?_
        obtain rfl:=sm h
        exact ⟨j0,_,j0,[.old 0,.old 1],cv j0 (.mpt j0)<|ce j0 j0<|cv j0 (.mpt j0)<|cn,j0,⟨⟨_,j0,zn (ciL j0)⟩,⟨_,j0,zn (ciL j0)⟩,j5⟩,j0,j1⟩
      ·
       rintro ⟨⟩ rfl
       replace h:ze5 c a=some r:=h
       unfold ze5 at h
       refine zx ?_
       refine rg j0<|u<|asg j0<|zc ?_
       obtain ⟨o,ho,h⟩:=bs h
       refine zU (X:=Int) (B:=Unit) (R:=Bool) (fun z=>[(1,.mpt 0 0 0),(3,iA c),(4,.mpt 1 0 0),(7,iA z)]) (fun z=>[some (10,[(zq d)]),some (3,[(zaf a)])]) (fun b=>[(1,.mpt 0 0 0),(3,iA c)]) (fun b=>[some (10,[(zq d)])]) (fun r env st=>zaD Tryz.prog Tryz.f270 0 (bA r) [] env st) ho ⟨[.old 0,.old 1],cv j0 (.mpt j0)<|ce j0 j0<|cv j0 (.mpt j0)<|ce j0 j0<|cn,j0,⟨⟨_,j0,zn (ciL j0)⟩,⟨_,j0,zn (ciL j0)⟩,j5⟩,j0,j1⟩ ?_ ?_ ?_
       ·
        rintro V r h
        replace h:zcn a V=some r:=h
        unfold zcn at h
        refine zl ?_
        refine rg j0<|u<|mv j0<|u<|fa zdh j0 j0 j0<|u<|ld zak j0 j0<|u<|lnI zak j0 j0<|u<|lss ti3 j0 j0<|zc ?_
        refine zk j0 (fun J=>?_) (fun J=>?_)
        ·
         replace h:=bT J h
         refine zm ?_
         refine zl ?_
         refine zs ?_
         obtain ⟨W,O,h⟩:=bs h
         refine rg j0<|u<|fa zdh j0 j0 j0<|u<|ld zak j0 j0<|u<|mv j0<|u<|ixI zak j0 ti9 j0 j0 j0 O<|u<|ldI ti9 j0 (zo O).2.2 j0<|u<|asg j0<|zc ?_
         obtain ⟨Y,v,h⟩:=bs h
         refine rg j0<|u<|mv j0<|u<|sne ti9 j0 j0<|u<|mv j0<|z2 (x:=Y) (j:=2) 3 j0 j0 j0 j0 j0 gpn (fun D=>by replace v:=bT D v; obtain ⟨v40,Z,v⟩:=bs v; obtain rfl:=sm v; exact g j0 D<|mv j0<|g j0 D<|pc (zeR W Z) j0 j0 j0<|g j0 D<|nt j0<|zc (eg [106,107,108] 3 j0 j0 j0 j0)) (fun hb=>(sm (bF hb v)).symm)<|zc ?_
         refine zk j0 (fun K=>?_) (fun K=>?_)
         ·
          replace h:=bT K h
          refine rg j0<|u<|asg j0<|zc ?_
          refine zp ?_
          obtain rfl:=sm h
          exact ⟨_,j0,_,j0,[],ci j0,j0,j5,j0,j1⟩
         ·
          replace h:=bF K h
          refine zm ?_
          refine rl j0<|u<|mv j0<|u<|add ti3 j0 j0<|u<|asg j0<|zc ?_
          obtain rfl:=sm h
          exact ⟨_,j0,[.old 0,.old 1],cv j0 (.mpt j0)<|ce j0 j0<|cv j0 (.mpt j0)<|ce j0 j0<|cn,j0,⟨⟨_,j0,zn (ciL j0)⟩,⟨_,j0,zn (ciL j0)⟩,j5⟩,j0,j1⟩
        ·
         replace h:=bF J h
         refine zB ?_
         obtain rfl:=sm h
         exact ⟨j0,_,j0,[.old 0],cv j0 (.mpt j0)<|ce j0 j0<|cn,j0,⟨⟨_,j0,zn (ciL j0)⟩,j5⟩,j0,j1⟩
       ·
        rintro ⟨⟩ rfl
        replace h:zgY c=some r:=h
        unfold zgY at h
        refine zx ?_
        refine rl j0<|u<|mv j0<|u<|add ti3 j0 j0<|u<|asg j0<|zc ?_
        obtain rfl:=sm h
        exact ⟨_,j0,[.old 0],cv j0 (.mpt j0)<|ce j0 j0<|cn,j0,⟨⟨_,j0,zn (ciL j0)⟩,j5⟩,j0,j1⟩
       ·
        rintro r' rfl env st hp
        obtain rfl:=sm h
        exact ⟨_,j0,hp⟩
      ·
       rintro r' rfl env st hp
       obtain rfl:=sm h
       exact ⟨_,j0,hp⟩
   ·
    replace h:=bF E h
    refine zB ?_
    obtain rfl:=sm h
    exact ⟨j0,_,j0,[],cn,j0,j5,j0,j1⟩
  ·
   rintro ⟨⟩ rfl
   replace h:zgZ=some r:=h
   unfold zgZ at h
   refine zx ?_
   refine rg j0<|u<|asg j0<|zc ?_
   refine zp ?_
   obtain rfl:=sm h
   exact ⟨_,j0,[],ci j0,j0,j5,j0,j1⟩
  ·
   rintro r' rfl env st hp
   obtain rfl:=sm h
   exact hp
def zbr (a:zi) (b:Int):Option (Bool) :=
  cond ((((decide (a.Locals < b))||(decide (16 < a.Locals)))||(decide (a.Stack < 0)))||(decide (16 < a.Stack))) (some false) ((zhJ a).bind fun c=>(cond c ((zhL a).bind fun d=>some d) (some false)).bind fun e=>some e)
def zcy (a:zi):Option (Bool) :=
  cond a.Abstract (some (((((((!a.Static)&&(!(a.Name == [36,105,110,105,116])))&&(a.Locals == (0:Int)))&&(a.Stack == (0:Int)))&&((List.length a.Code:Int) == (0:Int)))&&((List.length a.Maps:Int) == (0:Int)))&&((List.length a.Traps:Int) == (0:Int)))) (cond ((a.Name == [36,105,110,105,116])&&(((!a.Static)||(decide (0 < (List.length a.Params:Int))))||(!(a.Ret == [86])))) (some false) (cond (!a.Static) (zbr a (IntKind.i64.wrap ((List.length a.Params:Int)+1))) (zbr a (List.length a.Params:Int))))
def za9 (b:zi) (a:Int):Option (Sum (Int) (Sum (Unit) (Bool))) :=
  cond (decide (a < (List.length b.Params:Int))) ((idx b.Params a).bind fun d=>(ze0 d).bind fun c=>cond (!c) (some (.inr (.inr false))) (some (.inl (IntKind.i64.wrap (a+1))))) (some (.inr (.inl ())))
def zdW (a:zi):Option (Bool) :=
  (zfK a.Name).bind fun c=>(cond ((!c)||(decide (6 < (List.length a.Params:Int)))) (some true) ((zi4 a.Ret).bind fun d=>some (!d))).bind fun e=>cond e (some false) ((zu (fun z=>za9 a z) 0).bind fun o=>zQ o (fun b=>zcy a) some)
theorem zjB (c:zi) {r:Bool} (h:zdW c=some r):zF Tryz.prog 189 [.agg (zq c)] (bA r):=by
 refine zr Tryz.func189 j0 (by kernel_rfl) j0 j0 ?_
 unfold zdW at h
 refine rg j0<|u<|bx 0 10 j0 j0 j0 j0<|u<|asg j0<|zc ?_
 refine zl ?_
 obtain ⟨v2,V,h⟩:=bs h
 obtain ⟨W,M,h⟩:=bs h
 refine rg j0<|u<|fa zad j0 j0 j0<|u<|ld ti9 j0 j0<|u<|pc (zhI c.Name V) j0 j0 j0<|u<|nt j0<|u<|mv j0<|zdf (j:=4) 4 j0 j0 j0 j0 j0 gpn (fun D=>g j0 D<|fa zad j0 j0 j0<|g j0 D<|ld zak j0 j0<|g j0 D<|lnI zak j0 j0<|g j0 D<|gtr ti3 j0 j0<|zc (egO [10,11,12,13] 4 D j0 j0 j0 j0)) orT<|u<|mv j0<|zdf (x:=W) (j:=10) 4 j0 j0 j0 j0 j0 gpn (fun E=>by replace M:=bF E M; obtain ⟨v3,Y,M⟩:=bs M; obtain rfl:=sm M; exact g j0 E<|fa zad j0 j0 j0<|g j0 E<|ld ti9 j0 j0<|g j0 E<|pc (zon c.Ret Y) j0 j0 j0<|g j0 E<|nt j0<|zc (eg [16,17,18,19] 4 j0 j0 j0 j0)) (fun hb=>(sm (bT hb M)).symm)<|zc ?_
 refine zk j0 (fun N=>?_) (fun N=>?_)
 ·
  replace h:=bT N h
  refine rg j0<|u<|asg j0<|zc ?_
  refine zp ?_
  obtain rfl:=sm h
  exact ⟨_,j0,[],ci j0,j0,j5,j0,j1⟩
 ·
  replace h:=bF N h
  refine zm ?_
  refine zl ?_
  refine rg j0<|u<|asg j0<|zc ?_
  obtain ⟨o,ho,h⟩:=bs h
  refine zU (X:=Int) (B:=Unit) (R:=Bool) (fun z=>[(1,.mpt 0 0 0),(3,iA z)]) (fun z=>[some (10,[(zq c)])]) (fun b=>[(1,.mpt 0 0 0)]) (fun b=>[some (10,[(zq c)])]) (fun r env st=>zaD Tryz.prog Tryz.f189 0 (bA r) [] env st) ho ⟨[.old 0],cv j0 (.mpt j0)<|ce j0 j0<|cn,j0,⟨⟨_,j0,zn (ciL j0)⟩,j5⟩,j0,j1⟩ ?_ ?_ ?_
  ·
   rintro Z r h
   replace h:za9 c Z=some r:=h
   unfold za9 at h
   refine zl ?_
   refine rg j0<|u<|mv j0<|u<|fa zad j0 j0 j0<|u<|ld zak j0 j0<|u<|lnI zak j0 j0<|u<|lss ti3 j0 j0<|zc ?_
   refine zk j0 (fun F=>?_) (fun F=>?_)
   ·
    replace h:=bT F h
    refine zm ?_
    refine zl ?_
    refine zs ?_
    obtain ⟨v9,O,h⟩:=bs h
    obtain ⟨v10,P,h⟩:=bs h
    refine rg j0<|u<|fa zad j0 j0 j0<|u<|ld zak j0 j0<|u<|mv j0<|u<|ixI zak j0 ti9 j0 j0 j0 O<|u<|ldI ti9 j0 (zo O).2.2 j0<|u<|pc (zeR v9 P) j0 j0 j0<|u<|nt j0<|zc ?_
    refine zk j0 (fun G=>?_) (fun G=>?_)
    ·
     replace h:=bT G h
     refine rg j0<|u<|asg j0<|zc ?_
     refine zp ?_
     obtain rfl:=sm h
     exact ⟨_,j0,_,j0,[],ci j0,j0,j5,j0,j1⟩
    ·
     replace h:=bF G h
     refine zm ?_
     refine rl j0<|u<|mv j0<|u<|add ti3 j0 j0<|u<|asg j0<|zc ?_
     obtain rfl:=sm h
     exact ⟨_,j0,[.old 0],cv j0 (.mpt j0)<|ce j0 j0<|cn,j0,⟨⟨_,j0,zn (ciL j0)⟩,j5⟩,j0,j1⟩
   ·
    replace h:=bF F h
    refine zB ?_
    obtain rfl:=sm h
    exact ⟨j0,_,j0,[.old 0],cv j0 (.mpt j0)<|cn,j0,⟨⟨_,j0,zn (ciL j0)⟩,j5⟩,j0,j1⟩
  ·
   rintro ⟨⟩ rfl
   replace h:zcy c=some r:=h
   unfold zcy at h
   refine zx ?_
   refine zl ?_
   refine rg j0<|u<|fa zad j0 j0 j0<|u<|ld ti4 j0 j0<|zc ?_
   refine zk j0 (fun H=>?_) (fun H=>?_)
   ·
    replace h:=bT H h
    refine rg j0<|u<|fa zad j0 j0 j0<|u<|ld ti4 j0 j0<|u<|nt j0<|u<|mv j0<|z2 (j:=3) 3 j0 j0 j0 j0 j0 gpn (fun m=>g j0 m<|fa zad j0 j0 j0<|g j0 m<|ld ti9 j0 j0<|g j0 m<|sne ti9 j0 j0<|zc (egA [41,42,43] 3 m j0 j0 j0 j0)) zdb<|u<|mv j0<|z2 (j:=8) 3 j0 j0 j0 j0 j0 gpn (fun n=>g j0 n<|fa zad j0 j0 j0<|g j0 n<|ld ti3 j0 j0<|g j0 n<|eql ti3 j0 j0<|zc (egA [46,47,48] 3 n j0 j0 j0 j0)) zdb<|u<|mv j0<|z2 (j:=13) 3 j0 j0 j0 j0 j0 gpn (fun p=>g j0 p<|fa zad j0 j0 j0<|g j0 p<|ld ti3 j0 j0<|g j0 p<|eql ti3 j0 j0<|zc (egA [51,52,53] 3 p j0 j0 j0 j0)) zdb<|u<|mv j0<|z2 (j:=18) 4 j0 j0 j0 j0 j0 gpn (fun d=>g j0 d<|fa zad j0 j0 j0<|g j0 d<|ld zeT j0 j0<|g j0 d<|lnI zeT j0 j0<|g j0 d<|eql ti3 j0 j0<|zc (egA [56,57,58,59] 4 d j0 j0 j0 j0)) zdb<|u<|mv j0<|z2 (j:=24) 4 j0 j0 j0 j0 j0 gpn (fun e=>g j0 e<|fa zad j0 j0 j0<|g j0 e<|ld zfr j0 j0<|g j0 e<|lnI zfr j0 j0<|g j0 e<|eql ti3 j0 j0<|zc (egA [62,63,64,65] 4 e j0 j0 j0 j0)) zdb<|u<|mv j0<|z2 (j:=30) 4 j0 j0 j0 j0 j0 gpn (fun f=>g j0 f<|fa zad j0 j0 j0<|g j0 f<|ld zj9 j0 j0<|g j0 f<|lnI zj9 j0 j0<|g j0 f<|eql ti3 j0 j0<|zc (egA [68,69,70,71] 4 f j0 j0 j0 j0)) zdb<|u<|asg j0<|zc ?_
    refine zp ?_
    obtain rfl:=sm h
    exact ⟨_,j0,[],ci j0,j0,j5,j0,j1⟩
   ·
    replace h:=bF H h
    refine zm ?_
    refine zl ?_
    refine rg j0<|u<|fa zad j0 j0 j0<|u<|ld ti9 j0 j0<|u<|seq ti9 j0 j0<|u<|mv j0<|z2 (j:=3) 14 j0 j0 j0 j0 j0 gpn (fun a=>g j0 a<|fa zad j0 j0 j0<|g j0 a<|ld ti4 j0 j0<|g j0 a<|nt j0<|g j0 a<|mv j0<|zdf (j:=7) 4 j0 j0 j0 j0 j0 (gps j0 j0 a) (fun i=>g j0 i<|fa zad j0 j0 j0<|g j0 i<|ld zak j0 j0<|g j0 i<|lnI zak j0 j0<|g j0 i<|gtr ti3 j0 j0<|zc (egO [81,82,83,84] 4 i j0 j0 j0 j0)) orT<|g j0 a<|mv j0<|zdf (j:=13) 3 j0 j0 j0 j0 j0 (gps j0 j0 a) (fun q=>g j0 q<|fa zad j0 j0 j0<|g j0 q<|ld ti9 j0 j0<|g j0 q<|sne ti9 j0 j0<|zc (egO [87,88,89] 3 q j0 j0 j0 j0)) orT<|zc (egA [77,78,79,80,81,82,83,84,85,86,87,88,89,90] 7 a j0 j0 j0 j0)) zdb<|zc ?_
    refine zk j0 (fun I=>?_) (fun I=>?_)
    ·
     replace h:=bT I h
     refine rg j0<|u<|asg j0<|zc ?_
     refine zp ?_
     obtain rfl:=sm h
     exact ⟨_,j0,[],ci j0,j0,j5,j0,j1⟩
    ·
     replace h:=bF I h
     refine zm ?_
     refine rg j0<|u<|fa zad j0 j0 j0<|u<|ld zak j0 j0<|u<|lnI zak j0 j0<|u<|asg j0<|zc ?_
     refine zb3 (X:=Int) (fun z=>[(1,.mpt 0 0 0),(4,iA z)]) (fun z=>[some (10,[(zq c)])]) (fun z=>zbr c z=some r) ?_ ?_
     ·
      refine rg j0<|u<|fa zad j0 j0 j0<|u<|ld ti4 j0 j0<|u<|nt j0<|zc ?_
      refine zk j0 (fun J=>?_) (fun J=>?_)
      ·
       replace h:=bT J h
       exact rl j0<|u<|mv j0<|u<|add ti3 j0 j0<|u<|asg j0<|zc (⟨(IntKind.i64.wrap ((List.length c.Params:Int)+1)),h,[.old 0],cv j0 (.mpt j0)<|ce j0 j0<|cn,j0,⟨⟨_,j0,zn (ciL j0)⟩,j5⟩,j0,j1⟩)
      ·
       replace h:=bF J h
       refine zm ?_
       exact ⟨(List.length c.Params:Int),h,[.old 0],cv j0 (.mpt j0)<|ce j0 j0<|cn,j0,⟨⟨_,j0,zn (ciL j0)⟩,j5⟩,j0,j1⟩
     ·
      rintro Q h
      replace h:zbr c Q=some r:=h
      unfold zbr at h
      refine zl ?_
      refine rg j0<|u<|fa zad j0 j0 j0<|u<|ld ti3 j0 j0<|u<|mv j0<|u<|lss ti3 j0 j0<|u<|mv j0<|zdf (j:=4) 3 j0 j0 j0 j0 j0 gpn (fun s=>g j0 s<|fa zad j0 j0 j0<|g j0 s<|ld ti3 j0 j0<|g j0 s<|gtr ti3 j0 j0<|zc (egO [105,106,107] 3 s j0 j0 j0 j0)) orT<|u<|mv j0<|zdf (j:=9) 3 j0 j0 j0 j0 j0 gpn (fun v=>g j0 v<|fa zad j0 j0 j0<|g j0 v<|ld ti3 j0 j0<|g j0 v<|lss ti3 j0 j0<|zc (egO [110,111,112] 3 v j0 j0 j0 j0)) orT<|u<|mv j0<|zdf (j:=14) 3 j0 j0 j0 j0 j0 gpn (fun C=>g j0 C<|fa zad j0 j0 j0<|g j0 C<|ld ti3 j0 j0<|g j0 C<|gtr ti3 j0 j0<|zc (egO [115,116,117] 3 C j0 j0 j0 j0)) orT<|zc ?_
      refine zk j0 (fun K=>?_) (fun K=>?_)
      ·
       replace h:=bT K h
       refine rg j0<|u<|asg j0<|zc ?_
       refine zp ?_
       obtain rfl:=sm h
       exact ⟨_,j0,[],ci j0,j0,j5,j0,j1⟩
      ·
       replace h:=bF K h
       refine zm ?_
       obtain ⟨v12,S,h⟩:=bs h
       obtain ⟨T,l,h⟩:=bs h
       refine rg j0<|u<|ld zad j0 j0<|u<|pc (znq c S) j0 j0 j0<|u<|mv j0<|z2 (x:=T) (j:=2) 2 j0 j0 j0 j0 j0 gpn (fun L=>by replace l:=bT L l; obtain ⟨v13,U,l⟩:=bs l; obtain rfl:=sm l; exact g j0 L<|ld zad j0 j0<|g j0 L<|pc (zns c U) j0 j0 j0<|zc (eg [122,123] 2 j0 j0 j0 j0)) (fun hb=>(sm (bF hb l)).symm)<|u<|asg j0<|zc ?_
       refine zp ?_
       obtain rfl:=sm h
       exact ⟨_,j0,[],ci j0,j0,j5,j0,j1⟩
  ·
   rintro r' rfl env st hp
   obtain rfl:=sm h
   exact hp
def zeP:Option (Bool) :=
  some true
def zbk (c:za) (a:Int):Option (Sum (Int) (Sum (Unit) (Bool))) :=
  cond (decide (a < (List.length c.Methods:Int))) ((idx c.Methods a).bind fun b=>(cond (!(b.Abstract == c.Interface)) (some true) ((zfJ c b.Name).bind fun d=>some (!(d == a)))).bind fun e=>(cond e (some true) ((zdW b).bind fun f=>some (!f))).bind fun i=>cond i (some (.inr (.inr false))) (some (.inl (IntKind.i64.wrap (a+1))))) (some (.inr (.inl ())))
def zd5 (a:za):Option (Bool) :=
  (zu (fun z=>zbk a z) 0).bind fun o=>zQ o (fun b=>zeP) some
def zbj (c:za) (a:Int):Option (Sum (Int) (Sum (Unit) (Bool))) :=
  cond (decide (a < (List.length c.Fields:Int))) ((idx c.Fields a).bind fun b=>(zfK b.Name).bind fun d=>(cond ((!d)||(b.Name == [36,105,110,105,116])) (some true) ((ze0 b.Type_).bind fun e=>some (!e))).bind fun f=>(cond f (some true) ((zgn c b.Name).bind fun i=>some (!(i == a)))).bind fun j=>cond j (some (.inr (.inr false))) (some (.inl (IntKind.i64.wrap (a+1))))) (some (.inr (.inl ())))
def zd4 (a:za):Option (Bool) :=
  (zu (fun z=>zbj a z) 0).bind fun o=>zQ o (fun b=>zd5 a) some
def zfd (a:Int):Option (Sum (Int) (Sum (Unit) (Bool))) :=
  some (.inl (IntKind.i64.wrap (a+1)))
def zbh (c:za) (b:Int) (a:Int):Option (Sum (Int) (Sum (Unit) (Bool))) :=
  cond (decide (a < b)) ((idx c.Impl a).bind fun d=>(idx c.Impl b).bind fun e=>cond (d == e) (some (.inr (.inr false))) (some (.inl (IntKind.i64.wrap (a+1))))) (some (.inr (.inl ())))
def zbi (c:za) (a:Int):Option (Sum (Int) (Sum (Unit) (Bool))) :=
  cond (decide (a < (List.length c.Impl:Int))) ((idx c.Impl a).bind fun d=>(zcY d).bind fun e=>cond (!e) (some (.inr (.inr false))) ((zu (fun z=>zbh c a z) 0).bind fun o=>zQ o (fun b=>zfd a) (fun r=>some (.inr (.inr r))))) (some (.inr (.inl ())))
def zeA (a:za):Option (Bool) :=
  (zcY a.Name).bind fun c=>(cond (!c) (some true) ((zcY a.Super).bind fun d=>some (!d))).bind fun e=>cond (((e||(decide (4 < (List.length a.Impl:Int))))||(decide (8 < (List.length a.Fields:Int))))||(decide (8 < (List.length a.Methods:Int)))) (some false) (cond (a.Interface&&((!(a.Super == [79,98,106,101,99,116]))||(decide (0 < (List.length a.Fields:Int))))) (some false) ((zu (fun z=>zbi a z) 0).bind fun o=>zQ o (fun b=>zd4 a) some))
theorem zj1 (a:za) {r:Bool} (h:zeA a=some r):zF Tryz.prog 111 [.agg (zb a)] (bA r):=by
 refine zr Tryz.func111 j0 (by kernel_rfl) j0 j0 ?_
 unfold zeA at h
 refine rg j0<|u<|bx 0 6 j0 j0 j0 j0<|u<|asg j0<|zc ?_
 refine zl ?_
 obtain ⟨v2,q1,h⟩:=bs h
 obtain ⟨v4,Q,h⟩:=bs h
 refine rg j0<|u<|fa zS j0 j0 j0<|u<|ld ti9 j0 j0<|u<|pc (zdJ a.Name q1) j0 j0 j0<|u<|nt j0<|u<|mv j0<|zdf (x:=v4) (j:=4) 4 j0 j0 j0 j0 j0 gpn (fun C=>by replace Q:=bF C Q; obtain ⟨v3,q3,Q⟩:=bs Q; obtain rfl:=sm Q; exact g j0 C<|fa zS j0 j0 j0<|g j0 C<|ld ti9 j0 j0<|g j0 C<|pc (zdJ a.Super q3) j0 j0 j0<|g j0 C<|nt j0<|zc (eg [14,15,16,17] 4 j0 j0 j0 j0)) (fun hb=>(sm (bT hb Q)).symm)<|u<|mv j0<|zdf (j:=10) 4 j0 j0 j0 j0 j0 gpn (fun D=>g j0 D<|fa zS j0 j0 j0<|g j0 D<|ld zak j0 j0<|g j0 D<|lnI zak j0 j0<|g j0 D<|gtr ti3 j0 j0<|zc (egO [20,21,22,23] 4 D j0 j0 j0 j0)) orT<|u<|mv j0<|zdf (j:=16) 4 j0 j0 j0 j0 j0 gpn (fun E=>g j0 E<|fa zS j0 j0 j0<|g j0 E<|ld zes j0 j0<|g j0 E<|lnI zes j0 j0<|g j0 E<|gtr ti3 j0 j0<|zc (egO [26,27,28,29] 4 E j0 j0 j0 j0)) orT<|u<|mv j0<|zdf (j:=22) 4 j0 j0 j0 j0 j0 gpn (fun F=>g j0 F<|fa zS j0 j0 j0<|g j0 F<|ld zh3 j0 j0<|g j0 F<|lnI zh3 j0 j0<|g j0 F<|gtr ti3 j0 j0<|zc (egO [32,33,34,35] 4 F j0 j0 j0 j0)) orT<|zc ?_
 refine zk j0 (fun S=>?_) (fun S=>?_)
 ·
  replace h:=bT S h
  refine rg j0<|u<|asg j0<|zc ?_
  refine zp ?_
  obtain rfl:=sm h
  exact ⟨_,j0,[],ci j0,j0,j5,j0,j1⟩
 ·
  replace h:=bF S h
  refine zm ?_
  refine zl ?_
  refine rg j0<|u<|fa zS j0 j0 j0<|u<|ld ti4 j0 j0<|u<|mv j0<|z2 (j:=2) 9 j0 j0 j0 j0 j0 gpn (fun l=>g j0 l<|fa zS j0 j0 j0<|g j0 l<|ld ti9 j0 j0<|g j0 l<|sne ti9 j0 j0<|g j0 l<|mv j0<|zdf (j:=6) 4 j0 j0 j0 j0 j0 (gps j0 j0 l) (fun f=>g j0 f<|fa zS j0 j0 j0<|g j0 f<|ld zes j0 j0<|g j0 f<|lnI zes j0 j0<|g j0 f<|gtr ti3 j0 j0<|zc (egO [44,45,46,47] 4 f j0 j0 j0 j0)) orT<|zc (egA [40,41,42,43,44,45,46,47,48] 5 l j0 j0 j0 j0)) zdb<|zc ?_
  refine zk j0 (fun G=>?_) (fun G=>?_)
  ·
   replace h:=bT G h
   refine rg j0<|u<|asg j0<|zc ?_
   refine zp ?_
   obtain rfl:=sm h
   exact ⟨_,j0,[],ci j0,j0,j5,j0,j1⟩
  ·
   replace h:=bF G h
   refine zm ?_
   refine zl ?_
   refine rg j0<|u<|asg j0<|zc ?_
   obtain ⟨o,ho,h⟩:=bs h
   refine zU (X:=Int) (B:=Unit) (R:=Bool) (fun z=>[(1,.mpt 0 0 0),(3,iA z)]) (fun z=>[some (6,[(zb a)])]) (fun b=>[(1,.mpt 0 0 0)]) (fun b=>[some (6,[(zb a)])]) (fun r env st=>zaD Tryz.prog Tryz.f111 0 (bA r) [] env st) ho ⟨[.old 0],cv j0 (.mpt j0)<|ce j0 j0<|cn,j0,⟨⟨_,j0,zn (ciL j0)⟩,j5⟩,j0,j1⟩ ?_ ?_ ?_
   ·
    rintro e r h
    replace h:zbi a e=some r:=h
    unfold zbi at h
    refine zl ?_
    refine rg j0<|u<|mv j0<|u<|fa zS j0 j0 j0<|u<|ld zak j0 j0<|u<|lnI zak j0 j0<|u<|lss ti3 j0 j0<|zc ?_
    refine zk j0 (fun H=>?_) (fun H=>?_)
    ·
     replace h:=bT H h
     refine zm ?_
     refine zl ?_
     refine zs ?_
     refine zl ?_
     obtain ⟨v15,W,h⟩:=bs h
     obtain ⟨v16,q26,h⟩:=bs h
     refine rg j0<|u<|fa zS j0 j0 j0<|u<|ld zak j0 j0<|u<|mv j0<|u<|ixI zak j0 ti9 j0 j0 j0 W<|u<|ldI ti9 j0 (zo W).2.2 j0<|u<|pc (zdJ v15 q26) j0 j0 j0<|u<|nt j0<|zc ?_
     refine zk j0 (fun I=>?_) (fun I=>?_)
     ·
      replace h:=bT I h
      refine rg j0<|u<|asg j0<|zc ?_
      refine zp ?_
      obtain rfl:=sm h
      exact ⟨_,j0,_,j0,[],ci j0,j0,j5,j0,j1⟩
     ·
      replace h:=bF I h
      refine zm ?_
      refine rg j0<|u<|asg j0<|zc ?_
      obtain ⟨o,ho,h⟩:=bs h
      refine zU (X:=Int) (B:=Unit) (R:=Bool) (fun z=>[(1,.mpt 0 0 0),(3,iA e),(4,iA z)]) (fun z=>[some (6,[(zb a)])]) (fun b=>[(1,.mpt 0 0 0),(3,iA e)]) (fun b=>[some (6,[(zb a)])]) (fun r env st=>zaD Tryz.prog Tryz.f111 0 (bA r) [] env st) ho ⟨[.old 0],cv j0 (.mpt j0)<|ce j0 j0<|ce j0 j0<|cn,j0,⟨⟨_,j0,zn (ciL j0)⟩,j5⟩,j0,j1⟩ ?_ ?_ ?_
      ·
       rintro P r h
       replace h:zbh a e P=some r:=h
       unfold zbh at h
       refine zl ?_
       refine rg j0<|u<|mv j0<|u<|mv j0<|u<|lss ti3 j0 j0<|zc ?_
       refine zk j0 (fun J=>?_) (fun J=>?_)
       ·
        replace h:=bT J h
        refine zm ?_
        refine zl ?_
        refine zs ?_
        obtain ⟨T,Y,h⟩:=bs h
        obtain ⟨U,Z,h⟩:=bs h
        refine rd [(1,.mpt 0 0 0),(3,iA e),(4,iA P),(79,bA (T == U))] [some (6,[(zb a)])] [] [10,9,8,7,6,5,4,3,2,1,0] [(79,bA (T == U)),(78,sA U),(77,.ipt 1 (List.map zz a.Impl) (Int.toNat e) 0),(76,iA e),(75,.isl 1 (List.map zz a.Impl)),(74,.mpt 0 0 3),(73,sA T),(72,.ipt 1 (List.map zz a.Impl) (Int.toNat P) 0),(71,iA P),(70,.isl 1 (List.map zz a.Impl)),(69,.mpt 0 0 3)] 0 (by kernel_rfl) (by kernel_rfl) j0 (by kernel_rfl) (dt0 ⟨(fun _=>pa j0 j0 j0 j0 (seq ti9 j0 j0<|j4)),(fun _=>pa j0 j0 j0 j0 (ldI ti9 j0 (zo Z).2.2 j0<|j4)),(fun _=>pa j0 j0 j0 j0 (ixI zak j0 ti9 j0 j0 j0 Z<|j4)),(fun _=>pa j0 j0 j0 j0 (mv j0<|j4)),(fun _=>pa j0 j0 j0 j0 (ld zak j0 j0<|j4)),(fun _=>pa j0 j0 j0 j0 (fa zS j0 j0 j0<|j4)),(fun _=>pa j0 j0 j0 j0 (ldI ti9 j0 (zo Y).2.2 j0<|j4)),(fun _=>pa j0 j0 j0 j0 (ixI zak j0 ti9 j0 j0 j0 Y<|j4)),(fun _=>pa j0 j0 j0 j0 (mv j0<|j4)),(fun _=>pa j0 j0 j0 j0 (ld zak j0 j0<|j4)),(fun _=>pa j0 j0 j0 j0 (fa zS j0 j0 j0<|j4)),j5⟩ (by kernel_rfl) j0 ⟨[.old 0],cv j0 (.mpt j0)<|ce j0 j0<|ce j0 j0<|ce j0 j0<|cn,j0,⟨⟨_,j0,zn (ciL j0)⟩,j5⟩,j0,j1⟩) ?_
        refine zk j0 (fun K=>?_) (fun K=>?_)
        ·
         replace h:=bT K h
         refine rg j0<|u<|asg j0<|zc ?_
         refine zp ?_
         obtain rfl:=sm h
         exact ⟨_,j0,_,j0,[],ci j0,j0,j5,j0,j1⟩
        ·
         replace h:=bF K h
         refine zm ?_
         refine rl j0<|u<|mv j0<|u<|add ti3 j0 j0<|u<|asg j0<|zc ?_
         obtain rfl:=sm h
         exact ⟨_,j0,[.old 0],cv j0 (.mpt j0)<|ce j0 j0<|ce j0 j0<|cn,j0,⟨⟨_,j0,zn (ciL j0)⟩,j5⟩,j0,j1⟩
       ·
        replace h:=bF J h
        refine zB ?_
        obtain rfl:=sm h
        exact ⟨j0,_,j0,[.old 0],cv j0 (.mpt j0)<|ce j0 j0<|cn,j0,⟨⟨_,j0,zn (ciL j0)⟩,j5⟩,j0,j1⟩
      ·
       rintro ⟨⟩ rfl
       replace h:zfd e=some r:=h
       unfold zfd at h
       refine zx ?_
       refine rl j0<|u<|mv j0<|u<|add ti3 j0 j0<|u<|asg j0<|zc ?_
       obtain rfl:=sm h
       exact ⟨_,j0,[.old 0],cv j0 (.mpt j0)<|ce j0 j0<|cn,j0,⟨⟨_,j0,zn (ciL j0)⟩,j5⟩,j0,j1⟩
      ·
       rintro r' rfl env st hp
       obtain rfl:=sm h
       exact ⟨_,j0,hp⟩
    ·
     replace h:=bF H h
     refine zB ?_
     obtain rfl:=sm h
     exact ⟨j0,_,j0,[.old 0],cv j0 (.mpt j0)<|cn,j0,⟨⟨_,j0,zn (ciL j0)⟩,j5⟩,j0,j1⟩
   ·
    rintro ⟨⟩ rfl
    replace h:zd4 a=some r:=h
    unfold zd4 at h
    refine zx ?_
    refine zl ?_
    refine rg j0<|u<|asg j0<|zc ?_
    obtain ⟨o,ho,h⟩:=bs h
    refine zU (X:=Int) (B:=Unit) (R:=Bool) (fun z=>[(1,.mpt 0 0 0),(5,iA z)]) (fun z=>[some (6,[(zb a)])]) (fun b=>[(1,.mpt 0 0 0)]) (fun b=>[some (6,[(zb a)])]) (fun r env st=>zaD Tryz.prog Tryz.f111 0 (bA r) [] env st) ho ⟨[.old 0],cv j0 (.mpt j0)<|ce j0 j0<|cn,j0,⟨⟨_,j0,zn (ciL j0)⟩,j5⟩,j0,j1⟩ ?_ ?_ ?_
    ·
     rintro v30 r h
     replace h:zbj a v30=some r:=h
     unfold zbj at h
     refine zl ?_
     refine rg j0<|u<|mv j0<|u<|fa zS j0 j0 j0<|u<|ld zes j0 j0<|u<|lnI zes j0 j0<|u<|lss ti3 j0 j0<|zc ?_
     refine zk j0 (fun L=>?_) (fun L=>?_)
     ·
      replace h:=bT L h
      refine zm ?_
      refine zl ?_
      refine zs ?_
      obtain ⟨V,q48,h⟩:=bs h
      refine rg j0<|u<|fa zS j0 j0 j0<|u<|ld zes j0 j0<|u<|mv j0<|u<|ixI zes j0 zcG j0 j0 j0 q48<|u<|ldI zcG j0 (zo q48).2.2 j0<|u<|al 1 zcG j0<|u<|sto zcG j0 j0 j0<|zc ?_
      obtain ⟨v32,q49,h⟩:=bs h
      obtain ⟨v34,m,h⟩:=bs h
      obtain ⟨v36,n,h⟩:=bs h
      refine rg j0<|u<|fa zcG j0 j0 j0<|u<|ld ti9 j0 j0<|u<|pc (zhI V.Name q49) j0 j0 j0<|u<|nt j0<|u<|mv j0<|zdf (j:=4) 3 j0 j0 j0 j0 j0 gpn (fun s=>g j0 s<|fa zcG j0 j0 j0<|g j0 s<|ld ti9 j0 j0<|g j0 s<|seq ti9 j0 j0<|zc (egO [97,98,99] 3 s j0 j0 j0 j0)) orT<|u<|mv j0<|zdf (x:=v34) (j:=9) 4 j0 j0 j0 j0 j0 gpn (fun i=>by replace m:=bF i m; obtain ⟨v33,q52,m⟩:=bs m; obtain rfl:=sm m; exact g j0 i<|fa zcG j0 j0 j0<|g j0 i<|ld ti9 j0 j0<|g j0 i<|pc (zeR V.Type_ q52) j0 j0 j0<|g j0 i<|nt j0<|zc (eg [102,103,104,105] 4 j0 j0 j0 j0)) (fun hb=>(sm (bT hb m)).symm)<|u<|mv j0<|zdf (x:=v36) (j:=15) 6 j0 j0 j0 j0 j0 gpn (fun c=>by replace n:=bF c n; obtain ⟨v35,q55,n⟩:=bs n; obtain rfl:=sm n; exact g j0 c<|ld zS j0 j0<|g j0 c<|fa zcG j0 j0 j0<|g j0 c<|ld ti9 j0 j0<|g j0 c<|pc (zmn a V.Name q55) j0 j0 j0<|g j0 c<|mv j0<|g j0 c<|neq ti3 j0 j0<|zc (eg [108,109,110,111,112,113] 6 j0 j0 j0 j0)) (fun hb=>(sm (bT hb n)).symm)<|zc ?_
      refine zk j0 (fun M=>?_) (fun M=>?_)
      ·
       replace h:=bT M h
       refine rg j0<|u<|asg j0<|zc ?_
       refine zp ?_
       obtain rfl:=sm h
       exact ⟨_,j0,_,j0,[],ci j0,j0,j5,j0,j1⟩
      ·
       replace h:=bF M h
       refine zm ?_
       refine rl j0<|u<|mv j0<|u<|add ti3 j0 j0<|u<|asg j0<|zc ?_
       obtain rfl:=sm h
       exact ⟨_,j0,[.old 0],cv j0 (.mpt j0)<|ce j0 j0<|cn,j0,⟨⟨_,j0,zn (ciL j0)⟩,j5⟩,j0,j1⟩
     ·
      replace h:=bF L h
      refine zB ?_
      obtain rfl:=sm h
      exact ⟨j0,_,j0,[.old 0],cv j0 (.mpt j0)<|cn,j0,⟨⟨_,j0,zn (ciL j0)⟩,j5⟩,j0,j1⟩
    ·
     rintro ⟨⟩ rfl
     replace h:zd5 a=some r:=h
     unfold zd5 at h
     refine zx ?_
     refine zl ?_
     refine rg j0<|u<|asg j0<|zc ?_
     obtain ⟨o,ho,h⟩:=bs h
     refine zU (X:=Int) (B:=Unit) (R:=Bool) (fun z=>[(1,.mpt 0 0 0),(7,iA z)]) (fun z=>[some (6,[(zb a)])]) (fun b=>[]) (fun b=>[]) (fun r env st=>zaD Tryz.prog Tryz.f111 0 (bA r) [] env st) ho ⟨[.old 0],cv j0 (.mpt j0)<|ce j0 j0<|cn,j0,⟨⟨_,j0,zn (ciL j0)⟩,j5⟩,j0,j1⟩ ?_ ?_ ?_
     ·
      rintro v43 r h
      replace h:zbk a v43=some r:=h
      unfold zbk at h
      refine zl ?_
      refine rg j0<|u<|mv j0<|u<|fa zS j0 j0 j0<|u<|ld zh3 j0 j0<|u<|lnI zh3 j0 j0<|u<|lss ti3 j0 j0<|zc ?_
      refine zk j0 (fun N=>?_) (fun N=>?_)
      ·
       replace h:=bT N h
       refine zm ?_
       refine zl ?_
       refine zs ?_
       obtain ⟨v44,q68,h⟩:=bs h
       refine rg j0<|u<|fa zS j0 j0 j0<|u<|ld zh3 j0 j0<|u<|mv j0<|u<|ixI zh3 j0 zad j0 j0 j0 q68<|u<|ldI zad j0 (zo q68).2.2 j0<|u<|al 1 zad j0<|u<|sto zad j0 j0 j0<|zc ?_
       obtain ⟨v46,p,h⟩:=bs h
       obtain ⟨v48,q,h⟩:=bs h
       refine rg j0<|u<|fa zad j0 j0 j0<|u<|ld ti4 j0 j0<|u<|fa zS j0 j0 j0<|u<|ld ti4 j0 j0<|u<|bne ti4 j0 j0 j0<|u<|mv j0<|zdf (x:=v46) (j:=5) 6 j0 j0 j0 j0 j0 gpn (fun d=>by replace p:=bF d p; obtain ⟨v45,q70,p⟩:=bs p; obtain rfl:=sm p; exact g j0 d<|ld zS j0 j0<|g j0 d<|fa zad j0 j0 j0<|g j0 d<|ld ti9 j0 j0<|g j0 d<|pc (zle a v44.Name q70) j0 j0 j0<|g j0 d<|mv j0<|g j0 d<|neq ti3 j0 j0<|zc (eg [133,134,135,136,137,138] 6 j0 j0 j0 j0)) (fun hb=>(sm (bT hb p)).symm)<|u<|mv j0<|zdf (x:=v48) (j:=13) 3 j0 j0 j0 j0 j0 gpn (fun v=>by replace q:=bF v q; obtain ⟨v47,q73,q⟩:=bs q; obtain rfl:=sm q; exact g j0 v<|ld zad j0 j0<|g j0 v<|pc (zjB v44 q73) j0 j0 j0<|g j0 v<|nt j0<|zc (eg [141,142,143] 3 j0 j0 j0 j0)) (fun hb=>(sm (bT hb q)).symm)<|zc ?_
       refine zk j0 (fun O=>?_) (fun O=>?_)
       ·
        replace h:=bT O h
        refine rg j0<|u<|asg j0<|zc ?_
        refine zp ?_
        obtain rfl:=sm h
        exact ⟨_,j0,_,j0,[],ci j0,j0,j5,j0,j1⟩
       ·
        replace h:=bF O h
        refine zm ?_
        refine rl j0<|u<|mv j0<|u<|add ti3 j0 j0<|u<|asg j0<|zc ?_
        obtain rfl:=sm h
        exact ⟨_,j0,[.old 0],cv j0 (.mpt j0)<|ce j0 j0<|cn,j0,⟨⟨_,j0,zn (ciL j0)⟩,j5⟩,j0,j1⟩
      ·
       replace h:=bF N h
       refine zB ?_
       obtain rfl:=sm h
       exact ⟨j0,_,j0,[],cn,j0,j5,j0,j1⟩
     ·
      rintro ⟨⟩ rfl
      replace h:zeP=some r:=h
      unfold zeP at h
      refine zx ?_
      refine rg j0<|u<|asg j0<|zc ?_
      refine zp ?_
      obtain rfl:=sm h
      exact ⟨_,j0,[],ci j0,j0,j5,j0,j1⟩
     ·
      rintro r' rfl env st hp
      obtain rfl:=sm h
      exact hp
    ·
     rintro r' rfl env st hp
     obtain rfl:=sm h
     exact hp
   ·
    rintro r' rfl env st hp
    obtain rfl:=sm h
    exact hp
end
end Go.Proofs.YthmnlfenkhmmhaaGreat
