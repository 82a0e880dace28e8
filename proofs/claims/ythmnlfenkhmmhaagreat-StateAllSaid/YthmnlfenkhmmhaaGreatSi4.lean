/- StateAll: for every input the law returns true, and each argument reads as it read before. No further condition. Part 4 of 8. -/
import Derived.Test.YthmnlfenkhmmhaaGreatSi3
namespace Go.Proofs.YthmnlfenkhmmhaaGreat
noncomputable section
set_option linter.unusedSimpArgs false
set_option linter.unusedVariables false
set_option maxRecDepth 100000
set_option maxHeartbeats 4000000
structure zaZ where
  l:List za
  at_:List (List UInt8×Int)
def zgm (x:zaZ):List AV:=[.isl 6 (List.map zb x.l),.imp (List.map (rKV (fun x=>iA x)) x.at_)]
def zbb (a:List UInt8) (b:Int):Option ((List UInt8)) :=
  cond (decide (b < (List.length a:Int))) ((zkP a 0 b).bind fun c=>some c) (some a)
theorem zaS (e:List UInt8) (d:Int) {r:(List UInt8)} (h:zbb e d=some r):zF Tryz.prog 38 [sA e,iA d] (sA r):=by
 refine zr Tryz.func38 j0 (by kernel_rfl) j0 j0 ?_
 unfold zbb at h
 refine rg j0<|u<|asg j0<|zc ?_
 refine zl ?_
 refine rg j0<|u<|mv j0<|u<|lnS ti9 j0 j0<|u<|mv j0<|u<|gtr ti3 j0 j0<|zc ?_
 refine zk j0 (fun c=>?_) (fun c=>?_)
 ·
  replace h:=bT c h
  obtain ⟨i,f,h⟩:=bs h
  refine rg j0<|u<|mv j0<|u<|mv j0<|u<|slS (a:=0) (b:=d) ti9 j0 j0 j0 (zmR j0 f) f<|u<|asg j0<|zc ?_
  refine zp ?_
  obtain rfl:=sm h
  exact ⟨_,j0,[],ci j0,j0,j5,j0,j1⟩
 ·
  replace h:=bF c h
  refine zm ?_
  refine rg j0<|u<|mv j0<|u<|asg j0<|zc ?_
  refine zp ?_
  obtain rfl:=sm h
  exact ⟨_,j0,[],ci j0,j0,j5,j0,j1⟩
def zgS (a:List (List UInt8)):Option ((List (List UInt8))) :=
  some a
def zch (b:List (List UInt8)) (i:Int) (c:List (List UInt8)) (a:Int):Option (Sum ((List (List UInt8))×Int) (Sum ((List (List UInt8))) ((List (List UInt8))))) :=
  cond ((decide (a < (List.length b:Int)))&&(decide (a < i))) ((idx b a).bind fun d=>(zbb d 12).bind fun e=>(zhp 16 c [e]).bind fun f=>some (.inl (f,(IntKind.i64.wrap (a+1))))) (some (.inr (.inl c)))
def zb8 (a:List (List UInt8)) (c:Int):Option ((List (List UInt8))) :=
  (zu (fun z=>zch a c z.1 z.2) ([],0)).bind fun o=>zQ o (fun b=>zgS b) some
theorem zbL (d:List (List UInt8)) (e:Int) {r:(List (List UInt8))} (h:zb8 d e=some r):zF Tryz.prog 70 [.isl 1 (List.map zz d),iA e] (.isl 1 (List.map zz r)):=by
 refine zr Tryz.func70 j0 (by kernel_rfl) j0 j0 ?_
 unfold zb8 at h
 refine rg j0<|u<|asg j0<|zc ?_
 refine rg j0<|u<|asg j0<|zc ?_
 refine zl ?_
 refine rg j0<|u<|asg j0<|zc ?_
 obtain ⟨o,ho,h⟩:=bs h
 refine zU (X:=(List (List UInt8))×Int) (B:=(List (List UInt8))) (R:=(List (List UInt8))) (fun z=>[(0,.isl 1 (List.map zz d)),(1,iA e),(5,.msl 0 0 (List.length z.1)),(6,iA z.2)]) (fun z=>[some (1,List.map zz z.1)]) (fun b=>[(5,.msl 0 0 (List.length b))]) (fun b=>[some (1,List.map zz b)]) (fun r env st=>zaD Tryz.prog Tryz.f70 0 (.isl 1 (List.map zz r)) [] env st) ho ⟨[.fresh 1],ce j0 j0<|ce j0 j0<|cv j0 (.nilown j0)<|ce j0 j0<|cn,j0,⟨j4,j5⟩,j0,j1⟩ ?_ ?_ ?_
 ·
  rintro ⟨q,s⟩ r h
  replace h:zch d e q s=some r:=h
  unfold zch at h
  refine zl ?_
  refine rg j0<|u<|mv j0<|u<|mv j0<|u<|lnI zak j0 j0<|u<|lss ti3 j0 j0<|u<|mv j0<|z2 (j:=4) 3 j0 j0 j0 j0 j0 gpn (fun a=>g j0 a<|mv j0<|g j0 a<|mv j0<|g j0 a<|lss ti3 j0 j0<|zc (egA [12,13,14] 3 a j0 j0 j0 j0)) zdb<|zc ?_
  refine zk j0 (fun c=>?_) (fun c=>?_)
  ·
   replace h:=bT c h
   refine zm ?_
   refine zl ?_
   refine zs ?_
   obtain ⟨i,l,h⟩:=bs h
   obtain ⟨m,v,h⟩:=bs h
   obtain ⟨x,n,h⟩:=bs h
   refine rl j0<|u<|mv j0<|u<|mv j0<|u<|mv j0<|u<|ixI zak j0 ti9 j0 j0 j0 l<|u<|ldI ti9 j0 (zo l).2.2 j0<|u<|pc (zaS i 12 v) j0 j0 j0<|u<|bl 1 zak j0 ti9 j0 (by decide) (by decide) j0 j0 j0<|u<|apM 2 zak j0 ti9 j0 j0 (by decide) zak j0 j0 j0 j0 (roX (f:=zz) (z:=[m]) j0 j0) (fun _=>j0) j0 n<|u<|asg j0<|zc ?_
   refine rl j0<|u<|mv j0<|u<|add ti3 j0 j0<|u<|asg j0<|zc ?_
   obtain rfl:=sm h
   exact ⟨_,j0,[.old 2],ce j0 j0<|ce j0 j0<|cv j0 (.msl j0)<|ce j0 j0<|cn,j0,⟨⟨_,j0,zg (fun _=>j0)⟩,j5⟩,j0,j1⟩
  ·
   replace h:=bF c h
   refine zB ?_
   obtain rfl:=sm h
   exact ⟨j0,_,j0,[.old 0],cv j0 (.msl j0)<|cn,j0,⟨⟨_,j0,zg (fun _=>j0)⟩,j5⟩,j0,j1⟩
 ·
  rintro p rfl
  replace h:zgS p=some r:=h
  unfold zgS at h
  refine zx ?_
  refine rg j0<|u<|mv j0<|u<|asg j0<|zc ?_
  refine zp ?_
  obtain rfl:=sm h
  exact ⟨_,j0,[],zic j0 j0 (fun _=>j0),j0,j5,j0,j1⟩
 ·
  rintro r' rfl env st hp
  obtain rfl:=sm h
  exact hp
def ziU (a:z3):Option (z3) :=
  (zbb a.C 14).bind fun b=>(zbb a.M 12).bind fun c=>some (z3.mk a.Op a.A b c)
theorem zn4 (a:z3) {r:z3} (h:ziU a=some r):zF Tryz.prog 148 [.agg (zau a)] (.agg (zau r)):=by
 refine zr Tryz.func148 j0 (by kernel_rfl) j0 j0 ?_
 unfold ziU at h
 refine rg j0<|u<|bx 0 4 j0 j0 j0 j0<|u<|al 1 zeU j0<|zc ?_
 obtain ⟨b,d,h⟩:=bs h
 obtain ⟨c,e,h⟩:=bs h
 refine rd [(1,.mpt 0 0 0),(2,.mpt 1 0 0)] [some (4,[[iA a.Op,iA a.A,sA b,sA c]]),some (4,[[iA 0,iA 0,sA [],sA []]])] [7,9] [6,5,4,3,2,1,0] [(9,.mpt 0 0 2),(8,sA c),(7,sA a.M),(6,.mpt 0 0 3),(5,sA b),(4,sA a.C),(3,.mpt 0 0 2)] 2 (by kernel_rfl) (by kernel_rfl) j0 (by kernel_rfl) (dtS ⟨(fun _=>pa j0 j0 j0 j0 (fa zeU j0 j0 j0<|j4)),(fun _=>pa j0 j0 j0 j0 (pc (zaS a.M 12 e) j0 j0 j0<|j4)),(fun _=>pa j0 j0 j0 j0 (ld ti9 j0 j0<|j4)),(fun _=>pa j0 j0 j0 j0 (fa zeU j0 j0 j0<|j4)),(fun _=>pa j0 j0 j0 j0 (pc (zaS a.C 14 d) j0 j0 j0<|j4)),(fun _=>pa j0 j0 j0 j0 (ld ti9 j0 j0<|j4)),(fun _=>pa j0 j0 j0 j0 (fa zeU j0 j0 j0<|j4)),j5⟩ (by kernel_rfl) j0 ⟨(fun _ _=>⟨_,j0,j0,sto ti9 j0 j0 j0<|⟨.any,[8],[(10,.mpt 0 0 3)],j0,j0,by kernel_rfl,j5,dtS ⟨(fun _=>pa j0 j0 j0 j0 (fa zeU j0 j0 j0<|j4)),(fun h=>by cases h),(fun h=>by cases h),(fun h=>by cases h),(fun h=>by cases h),(fun h=>by cases h),(fun h=>by cases h),(fun h=>by cases h),j5⟩ (by kernel_rfl) j0 ⟨(fun h=>by cases h),(fun _ _=>⟨_,j0,j0,sto ti9 j0 j0 j0<|⟨.any,[],[],j0,j0,by kernel_rfl,j5,dt0 ⟨(fun h=>by cases h),(fun h=>by cases h),(fun h=>by cases h),(fun h=>by cases h),(fun h=>by cases h),(fun h=>by cases h),(fun h=>by cases h),(fun h=>by cases h),j5⟩ (by kernel_rfl) j0 ⟨[.old 0,.old 1],cv j0 (.mpt j0)<|cv j0 (.mpt j0)<|cn,j0,⟨⟨_,j0,zn (ciL j0)⟩,⟨_,j0,zn (ciL j0)⟩,j5⟩,j0,j1⟩⟩⟩),j5⟩⟩⟩),(fun _ h=>by cases h),j5⟩) ?_
 refine rg j0<|u<|ld zeU j0 j0<|u<|sto zeU j0 j0 j0<|zc ?_
 refine zp ?_
 obtain rfl:=sm h
 exact ⟨_,j0,[],ci j0,j0,j5,j0,j1⟩
def zf6 (a:zi) (e:(List UInt8)) (f:(List (List UInt8))) (i:(List UInt8)) (b:List z3) (c:List zaY) (d:List zaI):Option (zi) :=
  some (zi.mk e f i a.Static a.Abstract a.Locals a.Stack b c d)
def zbQ (d:zi) (c:List zaI) (a:Int):Option (Sum ((List zaI)×Int) (Sum ((List zaI)) (zi))) :=
  cond ((decide (a < (List.length d.Traps:Int)))&&(decide (a < 8))) ((idx d.Traps a).bind fun b=>(zbb b.C 10).bind fun e=>(zhp 40 c [(zaI.mk b.From b.To b.At e)]).bind fun f=>some (.inl (f,(IntKind.i64.wrap (a+1))))) (some (.inr (.inl c)))
def zdU (a:zi) (e:(List UInt8)) (f:(List (List UInt8))) (i:(List UInt8)) (c:List z3) (d:List zaY):Option (zi) :=
  (zu (fun z=>zbQ a z.1 z.2) ([],0)).bind fun o=>zQ o (fun b=>zf6 a e f i c d b) some
def zbP (b:zi) (c:List zaY) (a:Int):Option (Sum ((List zaY)×Int) (Sum ((List zaY)) (zi))) :=
  cond ((decide (a < (List.length b.Maps:Int)))&&(decide (a < 104))) ((idx b.Maps a).bind fun d=>(idx b.Maps a).bind fun e=>(zb8 e.Locals 20).bind fun f=>(idx b.Maps a).bind fun i=>(zb8 i.Stack 20).bind fun j=>(zhp 56 c [(zaY.mk d.At f j)]).bind fun l=>some (.inl (l,(IntKind.i64.wrap (a+1))))) (some (.inr (.inl c)))
def zdT (a:zi) (d:(List UInt8)) (e:(List (List UInt8))) (f:(List UInt8)) (c:List z3):Option (zi) :=
  (zu (fun z=>zbP a z.1 z.2) ([],0)).bind fun o=>zQ o (fun b=>zdU a d e f c b) some
def zbO (c:zi) (b:List z3) (a:Int):Option (Sum ((List z3)×Int) (Sum ((List z3)) (zi))) :=
  cond ((decide (a < (List.length c.Code:Int)))&&(decide (a < 104))) ((idx c.Code a).bind fun d=>(ziU d).bind fun e=>(zhp 48 b [e]).bind fun f=>some (.inl (f,(IntKind.i64.wrap (a+1))))) (some (.inr (.inl b)))
def zfD (a:zi):Option (zi) :=
  (zbb a.Name 10).bind fun c=>(zb8 a.Params 8).bind fun d=>(zbb a.Ret 12).bind fun e=>(zu (fun z=>zbO a z.1 z.2) ([],0)).bind fun o=>zQ o (fun b=>zdT a c d e b) some
theorem zk6 (a:zi) {r:zi} (h:zfD a=some r):zF Tryz.prog 71 [.agg (zq a)] (.agg (zq r)):=by
 refine zr Tryz.func71 j0 (by kernel_rfl) j0 j0 ?_
 unfold zfD at h
 refine rg j0<|u<|bx 0 10 j0 j0 j0 j0<|u<|al 1 zad j0<|zc ?_
 obtain ⟨d,Z,h⟩:=bs h
 obtain ⟨e,q2,h⟩:=bs h
 obtain ⟨i,q3,h⟩:=bs h
 refine rd [(1,.mpt 0 0 0),(2,.mpt 1 0 0),(3,.mpt 2 0 0)] [some (10,[(zq a)]),some (10,[[sA [],.lit (.slice none 0 0),sA [],bA false,bA false,iA 0,iA 0,.lit (.slice none 0 0),.lit (.slice none 0 0),.lit (.slice none 0 0)]]),some (10,[[sA d,.isl 1 (List.map zz e),sA i,bA a.Static,bA a.Abstract,iA a.Locals,iA a.Stack,.lit (.slice none 0 0),.lit (.slice none 0 0),.lit (.slice none 0 0)]])] [18,19] [17,16,15,14,13,12,11,10,9,8,7,6,5,4,3,2,1,0] [(25,.agg [sA d,.isl 1 (List.map zz e),sA i,bA a.Static,bA a.Abstract,iA a.Locals,iA a.Stack,.lit (.slice none 0 0),.lit (.slice none 0 0),.lit (.slice none 0 0)]),(24,iA a.Stack),(23,.mpt 0 0 6),(22,iA a.Locals),(21,.mpt 0 0 5),(20,bA a.Abstract),(19,.mpt 0 0 4),(18,bA a.Static),(17,.mpt 0 0 3),(16,sA i),(15,sA a.Ret),(14,.mpt 0 0 2),(13,.isl 1 (List.map zz e)),(12,.isl 1 (List.map zz a.Params)),(11,.mpt 0 0 1),(10,sA d),(9,sA a.Name),(8,.mpt 0 0 0)] 2 (by kernel_rfl) (by kernel_rfl) j0 (by kernel_rfl) (dtS ⟨(fun _=>pa j0 j0 j0 j0 (bd (parts:=[(0,sA d),(1,.isl 1 (List.map zz e)),(2,sA i),(3,bA a.Static),(4,bA a.Abstract),(5,iA a.Locals),(6,iA a.Stack)]) (cs:=[sA d,.isl 1 (List.map zz e),sA i,bA a.Static,bA a.Abstract,iA a.Locals,iA a.Stack,.lit (.slice none 0 0),.lit (.slice none 0 0),.lit (.slice none 0 0)]) zad j0 j0 (by kernel_rfl)<|j4)),(fun _=>pa j0 j0 j0 j0 (ld ti3 j0 j0<|j4)),(fun _=>pa j0 j0 j0 j0 (fa zad j0 j0 j0<|j4)),(fun _=>pa j0 j0 j0 j0 (ld ti3 j0 j0<|j4)),(fun _=>pa j0 j0 j0 j0 (fa zad j0 j0 j0<|j4)),(fun _=>pa j0 j0 j0 j0 (ld ti4 j0 j0<|j4)),(fun _=>pa j0 j0 j0 j0 (fa zad j0 j0 j0<|j4)),(fun _=>pa j0 j0 j0 j0 (ld ti4 j0 j0<|j4)),(fun _=>pa j0 j0 j0 j0 (fa zad j0 j0 j0<|j4)),(fun _=>pa j0 j0 j0 j0 (pc (zaS a.Ret 12 q3) j0 j0 j0<|j4)),(fun _=>pa j0 j0 j0 j0 (ld ti9 j0 j0<|j4)),(fun _=>pa j0 j0 j0 j0 (fa zad j0 j0 j0<|j4)),(fun _=>pa j0 j0 j0 j0 (pc (zbL a.Params 8 q2) j0 j0 j0<|j4)),(fun _=>pa j0 j0 j0 j0 (ld zak j0 j0<|j4)),(fun _=>pa j0 j0 j0 j0 (fa zad j0 j0 j0<|j4)),(fun _=>pa j0 j0 j0 j0 (pc (zaS a.Name 10 Z) j0 j0 j0<|j4)),(fun _=>pa j0 j0 j0 j0 (ld ti9 j0 j0<|j4)),(fun _=>pa j0 j0 j0 j0 (fa zad j0 j0 j0<|j4)),j5⟩ (by kernel_rfl) j0 ⟨(fun _ _=>⟨_,j0,j0,al 2 zad j0<|⟨(.mpt 2 0 0),[],[(3,.mpt 2 0 0)],j0,j0,by kernel_rfl,j0,dtS ⟨(fun _=>pa j0 j0 j0 j0 (bd (parts:=[(0,sA d),(1,.isl 1 (List.map zz e)),(2,sA i),(3,bA a.Static),(4,bA a.Abstract),(5,iA a.Locals),(6,iA a.Stack)]) (cs:=[sA d,.isl 1 (List.map zz e),sA i,bA a.Static,bA a.Abstract,iA a.Locals,iA a.Stack,.lit (.slice none 0 0),.lit (.slice none 0 0),.lit (.slice none 0 0)]) zad j0 j0 (by kernel_rfl)<|j4)),(fun _=>pa j0 j0 j0 j0 (ld ti3 j0 j0<|j4)),(fun _=>pa j0 j0 j0 j0 (fa zad j0 j0 j0<|j4)),(fun _=>pa j0 j0 j0 j0 (ld ti3 j0 j0<|j4)),(fun _=>pa j0 j0 j0 j0 (fa zad j0 j0 j0<|j4)),(fun _=>pa j0 j0 j0 j0 (ld ti4 j0 j0<|j4)),(fun _=>pa j0 j0 j0 j0 (fa zad j0 j0 j0<|j4)),(fun _=>pa j0 j0 j0 j0 (ld ti4 j0 j0<|j4)),(fun _=>pa j0 j0 j0 j0 (fa zad j0 j0 j0<|j4)),(fun _=>pa j0 j0 j0 j0 (pc (zaS a.Ret 12 q3) j0 j0 j0<|j4)),(fun _=>pa j0 j0 j0 j0 (ld ti9 j0 j0<|j4)),(fun _=>pa j0 j0 j0 j0 (fa zad j0 j0 j0<|j4)),(fun _=>pa j0 j0 j0 j0 (pc (zbL a.Params 8 q2) j0 j0 j0<|j4)),(fun _=>pa j0 j0 j0 j0 (ld zak j0 j0<|j4)),(fun _=>pa j0 j0 j0 j0 (fa zad j0 j0 j0<|j4)),(fun _=>pa j0 j0 j0 j0 (pc (zaS a.Name 10 Z) j0 j0 j0<|j4)),(fun _=>pa j0 j0 j0 j0 (ld ti9 j0 j0<|j4)),(fun _=>pa j0 j0 j0 j0 (fa zad j0 j0 j0<|j4)),j5⟩ (by kernel_rfl) j0 ⟨(fun h=>by cases h),(fun _ _=>⟨_,j0,j0,sto zad j0 j0 j0<|⟨.any,[],[],j0,j0,by kernel_rfl,j5,dt0 ⟨(fun h=>by cases h),(fun h=>by cases h),(fun h=>by cases h),(fun h=>by cases h),(fun h=>by cases h),(fun h=>by cases h),(fun h=>by cases h),(fun h=>by cases h),(fun h=>by cases h),(fun h=>by cases h),(fun h=>by cases h),(fun h=>by cases h),(fun h=>by cases h),(fun h=>by cases h),(fun h=>by cases h),(fun h=>by cases h),(fun h=>by cases h),(fun h=>by cases h),j5⟩ (by kernel_rfl) j0 ⟨[.old 0,.old 1,.old 2],cv j0 (.mpt j0)<|cv j0 (.mpt j0)<|cv j0 (.mpt j0)<|cn,j0,⟨⟨_,j0,zn (ciL j0)⟩,⟨_,j0,zn (ciL j0)⟩,⟨_,j0,zn (ciL j0)⟩,j5⟩,j0,j1⟩⟩⟩),j5⟩⟩⟩),(fun _ h=>by cases h),j5⟩) ?_
 refine zl ?_
 refine rg j0<|u<|asg j0<|zc ?_
 obtain ⟨o,ho,h⟩:=bs h
 refine zU (X:=(List z3)×Int) (B:=(List z3)) (R:=zi) (fun z=>[(1,.mpt 0 0 0),(2,.mpt 1 0 0),(3,.mpt 2 0 0),(4,iA z.2)]) (fun z=>[some (10,[(zq a)]),some (10,[[sA [],.lit (.slice none 0 0),sA [],bA false,bA false,iA 0,iA 0,.lit (.slice none 0 0),.lit (.slice none 0 0),.lit (.slice none 0 0)]]),some (10,[[sA d,.isl 1 (List.map zz e),sA i,bA a.Static,bA a.Abstract,iA a.Locals,iA a.Stack,.msl 3 0 (List.length z.1),.lit (.slice none 0 0),.lit (.slice none 0 0)]]),some (4,List.map zau z.1)]) (fun b=>[(1,.mpt 0 0 0),(2,.mpt 1 0 0),(3,.mpt 2 0 0)]) (fun b=>[some (10,[(zq a)]),some (10,[[sA [],.lit (.slice none 0 0),sA [],bA false,bA false,iA 0,iA 0,.lit (.slice none 0 0),.lit (.slice none 0 0),.lit (.slice none 0 0)]]),some (10,[[sA d,.isl 1 (List.map zz e),sA i,bA a.Static,bA a.Abstract,iA a.Locals,iA a.Stack,.msl 3 0 (List.length b),.lit (.slice none 0 0),.lit (.slice none 0 0)]]),some (4,List.map zau b)]) (fun r env st=>zaD Tryz.prog Tryz.f71 0 (.agg (zq r)) [] env st) ho ⟨[.old 0,.old 1,.old 2,.fresh 4],cv j0 (.mpt j0)<|cv j0 (.mpt j0)<|cv j0 (.mpt j0)<|ce j0 j0<|cn,j0,⟨⟨_,j0,zn (ciL j0)⟩,⟨_,j0,zn (ciL j0)⟩,⟨_,j0,zn ⟨ci j0,ci j0,ci j0,ci j0,ci j0,ci j0,ci j0,.nilown j0,ci j0,ci j0,j5⟩⟩,j4,j5⟩,j0,j1⟩ ?_ ?_ ?_
 ·
  rintro ⟨S,G⟩ r h
  replace h:zbO a S G=some r:=h
  unfold zbO at h
  refine zl ?_
  refine rg j0<|u<|mv j0<|u<|fa zad j0 j0 j0<|u<|ld zeT j0 j0<|u<|lnI zeT j0 j0<|u<|lss ti3 j0 j0<|u<|mv j0<|z2 (j:=5) 2 j0 j0 j0 j0 j0 gpn (fun L=>g j0 L<|mv j0<|g j0 L<|lss ti3 j0 j0<|zc (egA [32,33] 2 L j0 j0 j0 j0)) zdb<|zc ?_
  refine zk j0 (fun v=>?_) (fun v=>?_)
  ·
   replace h:=bT v h
   refine zm ?_
   refine zl ?_
   refine zs ?_
   obtain ⟨T,m,h⟩:=bs h
   obtain ⟨U,q12,h⟩:=bs h
   obtain ⟨H,q13,h⟩:=bs h
   refine rdL [(1,.mpt 0 0 0),(2,.mpt 1 0 0),(3,.mpt 2 0 0),(4,iA G)] [some (10,[(zq a)]),some (10,[[sA [],.lit (.slice none 0 0),sA [],bA false,bA false,iA 0,iA 0,.lit (.slice none 0 0),.lit (.slice none 0 0),.lit (.slice none 0 0)]]),some (10,[[sA d,.isl 1 (List.map zz e),sA i,bA a.Static,bA a.Abstract,iA a.Locals,iA a.Stack,.msl 3 0 (List.length H),.lit (.slice none 0 0),.lit (.slice none 0 0)]]),some (4,List.map zau H)] [8,9,11] [7,6,5,4,3,2,1,0] [(44,.agg (zau U)),(43,.agg (zau T)),(42,.ipt 4 (List.map zau a.Code) (Int.toNat G) 0),(41,iA G),(40,.isl 4 (List.map zau a.Code)),(39,.mpt 0 0 7),(38,.msl 3 0 (List.length S)),(37,.mpt 2 0 7)] 3 (by kernel_rfl) (by kernel_rfl) j0 (by kernel_rfl) (dtS ⟨(fun _=>pa j0 j0 j0 j0 (pc (zn4 T q12) j0 j0 j0<|j4)),(fun _=>pa j0 j0 j0 j0 (ldI zeU j0 (zo m).2.2 j0<|j4)),(fun _=>pa j0 j0 j0 j0 (ixI zeT j0 zeU j0 j0 j0 m<|j4)),(fun _=>pa j0 j0 j0 j0 (mv j0<|j4)),(fun _=>pa j0 j0 j0 j0 (ld zeT j0 j0<|j4)),(fun _=>pa j0 j0 j0 j0 (fa zad j0 j0 j0<|j4)),(fun _=>pa j0 j0 j0 j0 (ld zeT j0 j0<|j4)),(fun _=>pa j0 j0 j0 j0 (fa zad j0 j0 j0<|j4)),j5⟩ (by kernel_rfl) j0 ⟨(fun _ _=>⟨_,j0,j0,bl 4 zeT j0 zeU j0 (by decide) (by decide) j0 j0 j0<|⟨(.msl 4 0 1),[],[(45,.msl 4 0 1)],j0,j0,by kernel_rfl,j0,dtS ⟨(fun h=>by cases h),(fun _=>pa j0 j0 j0 j0 (ldI zeU j0 (zo m).2.2 j0<|j4)),(fun _=>pa j0 j0 j0 j0 (ixI zeT j0 zeU j0 j0 j0 m<|j4)),(fun _=>pa j0 j0 j0 j0 (mv j0<|j4)),(fun _=>pa j0 j0 j0 j0 (ld zeT j0 j0<|j4)),(fun _=>pa j0 j0 j0 j0 (fa zad j0 j0 j0<|j4)),(fun _=>pa j0 j0 j0 j0 (ld zeT j0 j0<|j4)),(fun _=>pa j0 j0 j0 j0 (fa zad j0 j0 j0<|j4)),j5⟩ (by kernel_rfl) j0 ⟨(fun h=>by cases h),(fun _ _=>⟨_,j0,j0,apM 5 zeT j0 zeU j0 j0 (by decide) zeT j0 j0 j0 j0 (roX (f:=zau) (z:=[U]) j0 j0) (fun _=>j0) j0 q13<|⟨(.msl 5 0 (List.length H)),[10],[(47,.mpt 2 0 7),(46,.msl 5 0 (List.length H))],j0,j0,by kernel_rfl,j0,dtS ⟨(fun _=>pa j0 j0 j0 j0 (fa zad j0 j0 j0<|j4)),(fun h=>by cases h),(fun _=>pa j0 j0 j0 j0 (ldI zeU j0 (zo m).2.2 j0<|j4)),(fun _=>pa j0 j0 j0 j0 (ixI zeT j0 zeU j0 j0 j0 m<|j4)),(fun _=>pa j0 j0 j0 j0 (mv j0<|j4)),(fun _=>pa j0 j0 j0 j0 (ld zeT j0 j0<|j4)),(fun _=>pa j0 j0 j0 j0 (fa zad j0 j0 j0<|j4)),(fun h=>by cases h),(fun _=>pa j0 j0 j0 j0 (fa zad j0 j0 j0<|j4)),j5⟩ (by kernel_rfl) j0 ⟨(fun h=>by cases h),(fun h=>by cases h),(fun _ _=>⟨_,j0,j0,sto zeT j0 j0 j0<|⟨.any,[],[],j0,j0,by kernel_rfl,j5,dt0 ⟨(fun h=>by cases h),(fun h=>by cases h),(fun h=>by cases h),(fun h=>by cases h),(fun h=>by cases h),(fun h=>by cases h),(fun h=>by cases h),(fun h=>by cases h),(fun h=>by cases h),j5⟩ (by kernel_rfl) j0 ⟨[.old 0,.old 1,.old 2,.old 5],cv j0 (.mpt j0)<|cv j0 (.mpt j0)<|cv j0 (.mpt j0)<|ce j0 j0<|cn,j0,⟨⟨_,j0,zn (ciL j0)⟩,⟨_,j0,zn (ciL j0)⟩,⟨_,j0,zn ⟨ci j0,ci j0,ci j0,ci j0,ci j0,ci j0,ci j0,.msl j0,ci j0,ci j0,j5⟩⟩,⟨_,j0,zg (fun _=>j0)⟩,j5⟩,j0,j1⟩⟩⟩),j5⟩⟩⟩),(fun _ h=>by cases h),j5⟩⟩⟩),(fun _ h=>by cases h),(fun _ h=>by cases h),j5⟩) ?_
   refine rl j0<|u<|mv j0<|u<|add ti3 j0 j0<|u<|asg j0<|zc ?_
   obtain rfl:=sm h
   exact ⟨_,j0,[.old 0,.old 1,.old 2,.old 3],cv j0 (.mpt j0)<|cv j0 (.mpt j0)<|cv j0 (.mpt j0)<|ce j0 j0<|cn,j0,⟨⟨_,j0,zn (ciL j0)⟩,⟨_,j0,zn (ciL j0)⟩,⟨_,j0,zn ⟨ci j0,ci j0,ci j0,ci j0,ci j0,ci j0,ci j0,.msl j0,ci j0,ci j0,j5⟩⟩,⟨_,j0,zg (fun _=>j0)⟩,j5⟩,j0,j1⟩
  ·
   replace h:=bF v h
   refine zB ?_
   obtain rfl:=sm h
   exact ⟨j0,_,j0,[.old 0,.old 1,.old 2,.old 3],cv j0 (.mpt j0)<|cv j0 (.mpt j0)<|cv j0 (.mpt j0)<|cn,j0,⟨⟨_,j0,zn (ciL j0)⟩,⟨_,j0,zn (ciL j0)⟩,⟨_,j0,zn ⟨ci j0,ci j0,ci j0,ci j0,ci j0,ci j0,ci j0,.msl j0,ci j0,ci j0,j5⟩⟩,⟨_,j0,zg (fun _=>j0)⟩,j5⟩,j0,j1⟩
 ·
  rintro c rfl
  replace h:zdT a d e i c=some r:=h
  unfold zdT at h
  refine zx ?_
  refine zl ?_
  refine rg j0<|u<|asg j0<|zc ?_
  obtain ⟨o,ho,h⟩:=bs h
  refine zU (X:=(List zaY)×Int) (B:=(List zaY)) (R:=zi) (fun z=>[(1,.mpt 0 0 0),(2,.mpt 1 0 0),(3,.mpt 2 0 0),(5,iA z.2)]) (fun z=>[some (10,[(zq a)]),some (10,[[sA [],.lit (.slice none 0 0),sA [],bA false,bA false,iA 0,iA 0,.lit (.slice none 0 0),.lit (.slice none 0 0),.lit (.slice none 0 0)]]),some (10,[[sA d,.isl 1 (List.map zz e),sA i,bA a.Static,bA a.Abstract,iA a.Locals,iA a.Stack,.msl 3 0 (List.length c),.msl 4 0 (List.length z.1),.lit (.slice none 0 0)]]),some (4,List.map zau c),some (3,List.map zaf z.1)]) (fun b=>[(1,.mpt 0 0 0),(2,.mpt 1 0 0),(3,.mpt 2 0 0)]) (fun b=>[some (10,[(zq a)]),some (10,[[sA [],.lit (.slice none 0 0),sA [],bA false,bA false,iA 0,iA 0,.lit (.slice none 0 0),.lit (.slice none 0 0),.lit (.slice none 0 0)]]),some (10,[[sA d,.isl 1 (List.map zz e),sA i,bA a.Static,bA a.Abstract,iA a.Locals,iA a.Stack,.msl 3 0 (List.length c),.msl 4 0 (List.length b),.lit (.slice none 0 0)]]),some (4,List.map zau c),some (3,List.map zaf b)]) (fun r env st=>zaD Tryz.prog Tryz.f71 0 (.agg (zq r)) [] env st) ho ⟨[.old 0,.old 1,.old 2,.old 3,.fresh 3],cv j0 (.mpt j0)<|cv j0 (.mpt j0)<|cv j0 (.mpt j0)<|ce j0 j0<|cn,j0,⟨⟨_,j0,zn (ciL j0)⟩,⟨_,j0,zn (ciL j0)⟩,⟨_,j0,zn ⟨ci j0,ci j0,ci j0,ci j0,ci j0,ci j0,ci j0,.msl j0,.nilown j0,ci j0,j5⟩⟩,⟨_,j0,zg (fun _=>j0)⟩,j4,j5⟩,j0,j1⟩ ?_ ?_ ?_
  ·
   rintro ⟨V,l⟩ r h
   replace h:zbP a V l=some r:=h
   unfold zbP at h
   refine zl ?_
   refine rg j0<|u<|mv j0<|u<|fa zad j0 j0 j0<|u<|ld zfr j0 j0<|u<|lnI zfr j0 j0<|u<|lss ti3 j0 j0<|u<|mv j0<|z2 (j:=5) 2 j0 j0 j0 j0 j0 gpn (fun x=>g j0 x<|mv j0<|g j0 x<|lss ti3 j0 j0<|zc (egA [54,55] 2 x j0 j0 j0 j0)) zdb<|zc ?_
   refine zk j0 (fun D=>?_) (fun D=>?_)
   ·
    replace h:=bT D h
    refine zm ?_
    refine zl ?_
    refine zs ?_
    obtain ⟨M,n,h⟩:=bs h
    obtain ⟨I,p,h⟩:=bs h
    obtain ⟨N,O,h⟩:=bs h
    obtain ⟨P,q,h⟩:=bs h
    obtain ⟨Q,W,h⟩:=bs h
    obtain ⟨J,q29,h⟩:=bs h
    refine rdL [(1,.mpt 0 0 0),(2,.mpt 1 0 0),(3,.mpt 2 0 0),(5,iA l)] [some (10,[(zq a)]),some (10,[[sA [],.lit (.slice none 0 0),sA [],bA false,bA false,iA 0,iA 0,.lit (.slice none 0 0),.lit (.slice none 0 0),.lit (.slice none 0 0)]]),some (10,[[sA d,.isl 1 (List.map zz e),sA i,bA a.Static,bA a.Abstract,iA a.Locals,iA a.Stack,.msl 3 0 (List.length c),.msl 4 0 (List.length J),.lit (.slice none 0 0)]]),some (4,List.map zau c),some (3,List.map zaf J)] [23,24,26] [22,21,20,19,18,17,16,15,14,13,12,11,10,9,8,7,6,5,4,3,2,1,0] [(81,.agg [iA M.At,.isl 1 (List.map zz N),.isl 1 (List.map zz Q)]),(80,.isl 1 (List.map zz Q)),(79,.isl 1 (List.map zz P.Stack)),(78,.ipt 3 (List.map zaf a.Maps) (Int.toNat l) 2),(77,.ipt 3 (List.map zaf a.Maps) (Int.toNat l) 0),(76,iA l),(75,.isl 3 (List.map zaf a.Maps)),(74,.mpt 0 0 8),(73,.isl 1 (List.map zz N)),(72,.isl 1 (List.map zz I.Locals)),(71,.ipt 3 (List.map zaf a.Maps) (Int.toNat l) 1),(70,.ipt 3 (List.map zaf a.Maps) (Int.toNat l) 0),(69,iA l),(68,.isl 3 (List.map zaf a.Maps)),(67,.mpt 0 0 8),(66,iA M.At),(65,.ipt 3 (List.map zaf a.Maps) (Int.toNat l) 0),(64,.ipt 3 (List.map zaf a.Maps) (Int.toNat l) 0),(63,iA l),(62,.isl 3 (List.map zaf a.Maps)),(61,.mpt 0 0 8),(60,.msl 4 0 (List.length V)),(59,.mpt 2 0 8)] 3 (by kernel_rfl) (by kernel_rfl) j0 (by kernel_rfl) (dtS ⟨(fun _=>pa j0 j0 j0 j0 (bd zdh j0 j0 j0<|j4)),(fun _=>pa j0 j0 j0 j0 (pc (zbL P.Stack 20 W) j0 j0 j0<|j4)),(fun _=>pa j0 j0 j0 j0 (ldI zak j0 (zo q).2.2 j0<|j4)),(fun _=>pa j0 j0 j0 j0 (fa zdh j0 j0 j0<|j4)),(fun _=>pa j0 j0 j0 j0 (ixI zfr j0 zdh j0 j0 j0 q<|j4)),(fun _=>pa j0 j0 j0 j0 (mv j0<|j4)),(fun _=>pa j0 j0 j0 j0 (ld zfr j0 j0<|j4)),(fun _=>pa j0 j0 j0 j0 (fa zad j0 j0 j0<|j4)),(fun _=>pa j0 j0 j0 j0 (pc (zbL I.Locals 20 O) j0 j0 j0<|j4)),(fun _=>pa j0 j0 j0 j0 (ldI zak j0 (zo p).2.2 j0<|j4)),(fun _=>pa j0 j0 j0 j0 (fa zdh j0 j0 j0<|j4)),(fun _=>pa j0 j0 j0 j0 (ixI zfr j0 zdh j0 j0 j0 p<|j4)),(fun _=>pa j0 j0 j0 j0 (mv j0<|j4)),(fun _=>pa j0 j0 j0 j0 (ld zfr j0 j0<|j4)),(fun _=>pa j0 j0 j0 j0 (fa zad j0 j0 j0<|j4)),(fun _=>pa j0 j0 j0 j0 (ldI ti3 j0 (zo n).2.2 j0<|j4)),(fun _=>pa j0 j0 j0 j0 (fa zdh j0 j0 j0<|j4)),(fun _=>pa j0 j0 j0 j0 (ixI zfr j0 zdh j0 j0 j0 n<|j4)),(fun _=>pa j0 j0 j0 j0 (mv j0<|j4)),(fun _=>pa j0 j0 j0 j0 (ld zfr j0 j0<|j4)),(fun _=>pa j0 j0 j0 j0 (fa zad j0 j0 j0<|j4)),(fun _=>pa j0 j0 j0 j0 (ld zfr j0 j0<|j4)),(fun _=>pa j0 j0 j0 j0 (fa zad j0 j0 j0<|j4)),j5⟩ (by kernel_rfl) j0 ⟨(fun _ _=>⟨_,j0,j0,bl 5 zfr j0 zdh j0 (by decide) (by decide) j0 j0 j0<|⟨(.msl 5 0 1),[],[(82,.msl 5 0 1)],j0,j0,by kernel_rfl,j0,dtS ⟨(fun h=>by cases h),(fun _=>pa j0 j0 j0 j0 (pc (zbL P.Stack 20 W) j0 j0 j0<|j4)),(fun _=>pa j0 j0 j0 j0 (ldI zak j0 (zo q).2.2 j0<|j4)),(fun _=>pa j0 j0 j0 j0 (fa zdh j0 j0 j0<|j4)),(fun _=>pa j0 j0 j0 j0 (ixI zfr j0 zdh j0 j0 j0 q<|j4)),(fun _=>pa j0 j0 j0 j0 (mv j0<|j4)),(fun _=>pa j0 j0 j0 j0 (ld zfr j0 j0<|j4)),(fun _=>pa j0 j0 j0 j0 (fa zad j0 j0 j0<|j4)),(fun _=>pa j0 j0 j0 j0 (pc (zbL I.Locals 20 O) j0 j0 j0<|j4)),(fun _=>pa j0 j0 j0 j0 (ldI zak j0 (zo p).2.2 j0<|j4)),(fun _=>pa j0 j0 j0 j0 (fa zdh j0 j0 j0<|j4)),(fun _=>pa j0 j0 j0 j0 (ixI zfr j0 zdh j0 j0 j0 p<|j4)),(fun _=>pa j0 j0 j0 j0 (mv j0<|j4)),(fun _=>pa j0 j0 j0 j0 (ld zfr j0 j0<|j4)),(fun _=>pa j0 j0 j0 j0 (fa zad j0 j0 j0<|j4)),(fun _=>pa j0 j0 j0 j0 (ldI ti3 j0 (zo n).2.2 j0<|j4)),(fun _=>pa j0 j0 j0 j0 (fa zdh j0 j0 j0<|j4)),(fun _=>pa j0 j0 j0 j0 (ixI zfr j0 zdh j0 j0 j0 n<|j4)),(fun _=>pa j0 j0 j0 j0 (mv j0<|j4)),(fun _=>pa j0 j0 j0 j0 (ld zfr j0 j0<|j4)),(fun _=>pa j0 j0 j0 j0 (fa zad j0 j0 j0<|j4)),(fun _=>pa j0 j0 j0 j0 (ld zfr j0 j0<|j4)),(fun _=>pa j0 j0 j0 j0 (fa zad j0 j0 j0<|j4)),j5⟩ (by kernel_rfl) j0 ⟨(fun h=>by cases h),(fun _ _=>⟨_,j0,j0,apM 6 zfr j0 zdh j0 j0 (by decide) zfr j0 j0 j0 j0 (roX (f:=zaf) (z:=[(zaY.mk M.At N Q)]) j0 j0) (fun _=>j0) j0 q29<|⟨(.msl 6 0 (List.length J)),[25],[(84,.mpt 2 0 8),(83,.msl 6 0 (List.length J))],j0,j0,by kernel_rfl,j0,dtS ⟨(fun _=>pa j0 j0 j0 j0 (fa zad j0 j0 j0<|j4)),(fun h=>by cases h),(fun h=>by cases h),(fun _=>pa j0 j0 j0 j0 (ldI zak j0 (zo q).2.2 j0<|j4)),(fun _=>pa j0 j0 j0 j0 (fa zdh j0 j0 j0<|j4)),(fun _=>pa j0 j0 j0 j0 (ixI zfr j0 zdh j0 j0 j0 q<|j4)),(fun _=>pa j0 j0 j0 j0 (mv j0<|j4)),(fun _=>pa j0 j0 j0 j0 (ld zfr j0 j0<|j4)),(fun _=>pa j0 j0 j0 j0 (fa zad j0 j0 j0<|j4)),(fun _=>pa j0 j0 j0 j0 (pc (zbL I.Locals 20 O) j0 j0 j0<|j4)),(fun _=>pa j0 j0 j0 j0 (ldI zak j0 (zo p).2.2 j0<|j4)),(fun _=>pa j0 j0 j0 j0 (fa zdh j0 j0 j0<|j4)),(fun _=>pa j0 j0 j0 j0 (ixI zfr j0 zdh j0 j0 j0 p<|j4)),(fun _=>pa j0 j0 j0 j0 (mv j0<|j4)),(fun _=>pa j0 j0 j0 j0 (ld zfr j0 j0<|j4)),(fun _=>pa j0 j0 j0 j0 (fa zad j0 j0 j0<|j4)),(fun _=>pa j0 j0 j0 j0 (ldI ti3 j0 (zo n).2.2 j0<|j4)),(fun _=>pa j0 j0 j0 j0 (fa zdh j0 j0 j0<|j4)),(fun _=>pa j0 j0 j0 j0 (ixI zfr j0 zdh j0 j0 j0 n<|j4)),(fun _=>pa j0 j0 j0 j0 (mv j0<|j4)),(fun _=>pa j0 j0 j0 j0 (ld zfr j0 j0<|j4)),(fun _=>pa j0 j0 j0 j0 (fa zad j0 j0 j0<|j4)),(fun h=>by cases h),(fun _=>pa j0 j0 j0 j0 (fa zad j0 j0 j0<|j4)),j5⟩ (by kernel_rfl) j0 ⟨(fun h=>by cases h),(fun h=>by cases h),(fun _ _=>⟨_,j0,j0,sto zfr j0 j0 j0<|⟨.any,[],[],j0,j0,by kernel_rfl,j5,dt0 ⟨(fun h=>by cases h),(fun h=>by cases h),(fun h=>by cases h),(fun h=>by cases h),(fun h=>by cases h),(fun h=>by cases h),(fun h=>by cases h),(fun h=>by cases h),(fun h=>by cases h),(fun h=>by cases h),(fun h=>by cases h),(fun h=>by cases h),(fun h=>by cases h),(fun h=>by cases h),(fun h=>by cases h),(fun h=>by cases h),(fun h=>by cases h),(fun h=>by cases h),(fun h=>by cases h),(fun h=>by cases h),(fun h=>by cases h),(fun h=>by cases h),(fun h=>by cases h),(fun h=>by cases h),j5⟩ (by kernel_rfl) j0 ⟨[.old 0,.old 1,.old 2,.old 3,.old 6],cv j0 (.mpt j0)<|cv j0 (.mpt j0)<|cv j0 (.mpt j0)<|ce j0 j0<|cn,j0,⟨⟨_,j0,zn (ciL j0)⟩,⟨_,j0,zn (ciL j0)⟩,⟨_,j0,zn ⟨ci j0,ci j0,ci j0,ci j0,ci j0,ci j0,ci j0,.msl j0,.msl j0,ci j0,j5⟩⟩,⟨_,j0,zg (fun _=>j0)⟩,⟨_,j0,zg (fun _=>j0)⟩,j5⟩,j0,j1⟩⟩⟩),j5⟩⟩⟩),(fun _ h=>by cases h),j5⟩⟩⟩),(fun _ h=>by cases h),(fun _ h=>by cases h),j5⟩) ?_
    refine rl j0<|u<|mv j0<|u<|add ti3 j0 j0<|u<|asg j0<|zc ?_
    obtain rfl:=sm h
    exact ⟨_,j0,[.old 0,.old 1,.old 2,.old 3,.old 4],cv j0 (.mpt j0)<|cv j0 (.mpt j0)<|cv j0 (.mpt j0)<|ce j0 j0<|cn,j0,⟨⟨_,j0,zn (ciL j0)⟩,⟨_,j0,zn (ciL j0)⟩,⟨_,j0,zn ⟨ci j0,ci j0,ci j0,ci j0,ci j0,ci j0,ci j0,.msl j0,.msl j0,ci j0,j5⟩⟩,⟨_,j0,zg (fun _=>j0)⟩,⟨_,j0,zg (fun _=>j0)⟩,j5⟩,j0,j1⟩
   ·
    replace h:=bF D h
    refine zB ?_
    obtain rfl:=sm h
    exact ⟨j0,_,j0,[.old 0,.old 1,.old 2,.old 3,.old 4],cv j0 (.mpt j0)<|cv j0 (.mpt j0)<|cv j0 (.mpt j0)<|cn,j0,⟨⟨_,j0,zn (ciL j0)⟩,⟨_,j0,zn (ciL j0)⟩,⟨_,j0,zn ⟨ci j0,ci j0,ci j0,ci j0,ci j0,ci j0,ci j0,.msl j0,.msl j0,ci j0,j5⟩⟩,⟨_,j0,zg (fun _=>j0)⟩,⟨_,j0,zg (fun _=>j0)⟩,j5⟩,j0,j1⟩
  ·
   rintro s rfl
   replace h:zdU a d e i c s=some r:=h
   unfold zdU at h
   refine zx ?_
   refine zl ?_
   refine rg j0<|u<|asg j0<|zc ?_
   obtain ⟨o,ho,h⟩:=bs h
   refine zU (X:=(List zaI)×Int) (B:=(List zaI)) (R:=zi) (fun z=>[(1,.mpt 0 0 0),(2,.mpt 1 0 0),(3,.mpt 2 0 0),(6,iA z.2)]) (fun z=>[some (10,[(zq a)]),some (10,[[sA [],.lit (.slice none 0 0),sA [],bA false,bA false,iA 0,iA 0,.lit (.slice none 0 0),.lit (.slice none 0 0),.lit (.slice none 0 0)]]),some (10,[[sA d,.isl 1 (List.map zz e),sA i,bA a.Static,bA a.Abstract,iA a.Locals,iA a.Stack,.msl 3 0 (List.length c),.msl 4 0 (List.length s),.msl 5 0 (List.length z.1)]]),some (4,List.map zau c),some (3,List.map zaf s),some (4,List.map zb4 z.1)]) (fun b=>[(2,.mpt 0 0 0),(3,.mpt 1 0 0)]) (fun b=>[some (10,[[sA [],.lit (.slice none 0 0),sA [],bA false,bA false,iA 0,iA 0,.lit (.slice none 0 0),.lit (.slice none 0 0),.lit (.slice none 0 0)]]),some (10,[[sA d,.isl 1 (List.map zz e),sA i,bA a.Static,bA a.Abstract,iA a.Locals,iA a.Stack,.msl 2 0 (List.length c),.msl 3 0 (List.length s),.msl 4 0 (List.length b)]]),some (4,List.map zau c),some (3,List.map zaf s),some (4,List.map zb4 b)]) (fun r env st=>zaD Tryz.prog Tryz.f71 0 (.agg (zq r)) [] env st) ho ⟨[.old 0,.old 1,.old 2,.old 3,.old 4,.fresh 4],cv j0 (.mpt j0)<|cv j0 (.mpt j0)<|cv j0 (.mpt j0)<|ce j0 j0<|cn,j0,⟨⟨_,j0,zn (ciL j0)⟩,⟨_,j0,zn (ciL j0)⟩,⟨_,j0,zn ⟨ci j0,ci j0,ci j0,ci j0,ci j0,ci j0,ci j0,.msl j0,.msl j0,.nilown j0,j5⟩⟩,⟨_,j0,zg (fun _=>j0)⟩,⟨_,j0,zg (fun _=>j0)⟩,j4,j5⟩,j0,j1⟩ ?_ ?_ ?_
   ·
    rintro ⟨v38,v39⟩ r h
    replace h:zbQ a v38 v39=some r:=h
    unfold zbQ at h
    refine zl ?_
    refine rg j0<|u<|mv j0<|u<|fa zad j0 j0 j0<|u<|ld zj9 j0 j0<|u<|lnI zj9 j0 j0<|u<|lss ti3 j0 j0<|u<|mv j0<|z2 (j:=5) 2 j0 j0 j0 j0 j0 gpn (fun E=>g j0 E<|mv j0<|g j0 E<|lss ti3 j0 j0<|zc (egA [91,92] 2 E j0 j0 j0 j0)) zdb<|zc ?_
    refine zk j0 (fun F=>?_) (fun F=>?_)
    ·
     replace h:=bT F h
     refine zm ?_
     refine zl ?_
     refine zs ?_
     obtain ⟨K,Y,h⟩:=bs h
     refine rg j0<|u<|fa zad j0 j0 j0<|u<|ld zj9 j0 j0<|u<|mv j0<|u<|ixI zj9 j0 ziD j0 j0 j0 Y<|u<|ldI ziD j0 (zo Y).2.2 j0<|u<|al 6 ziD j0<|u<|sto ziD j0 j0 j0<|zc ?_
     obtain ⟨v41,q38,h⟩:=bs h
     refine rg j0<|u<|fa ziD j0 j0 j0<|u<|ld ti9 j0 j0<|u<|pc (zaS K.C 10 q38) j0 j0 j0<|u<|fa ziD j0 j0 j0<|u<|sto ti9 j0 j0 j0<|zc ?_
     obtain ⟨v42,q39,h⟩:=bs h
     refine rl j0<|u<|fa zad j0 j0 j0<|u<|ld zj9 j0 j0<|u<|ld ziD j0 j0<|u<|bl 7 zj9 j0 ziD j0 (by decide) (by decide) j0 j0 j0<|u<|apM 8 zj9 j0 ziD j0 j0 (by decide) zj9 j0 j0 j0 j0 (roX (f:=zb4) (z:=[(zaI.mk K.From K.To K.At v41)]) j0 j0) (fun _=>j0) j0 q39<|u<|fa zad j0 j0 j0<|u<|sto zj9 j0 j0 j0<|zc ?_
     refine rl j0<|u<|mv j0<|u<|add ti3 j0 j0<|u<|asg j0<|zc ?_
     obtain rfl:=sm h
     exact ⟨_,j0,[.old 0,.old 1,.old 2,.old 3,.old 4,.old 8],cv j0 (.mpt j0)<|cv j0 (.mpt j0)<|cv j0 (.mpt j0)<|ce j0 j0<|cn,j0,⟨⟨_,j0,zn (ciL j0)⟩,⟨_,j0,zn (ciL j0)⟩,⟨_,j0,zn ⟨ci j0,ci j0,ci j0,ci j0,ci j0,ci j0,ci j0,.msl j0,.msl j0,.msl j0,j5⟩⟩,⟨_,j0,zg (fun _=>j0)⟩,⟨_,j0,zg (fun _=>j0)⟩,⟨_,j0,zg (fun _=>j0)⟩,j5⟩,j0,j1⟩
    ·
     replace h:=bF F h
     refine zB ?_
     obtain rfl:=sm h
     exact ⟨j0,_,j0,[.old 1,.old 2,.old 3,.old 4,.old 5],cv j0 (.mpt j0)<|cv j0 (.mpt j0)<|cn,j0,⟨⟨_,j0,zn (ciL j0)⟩,⟨_,j0,zn ⟨ci j0,ci j0,ci j0,ci j0,ci j0,ci j0,ci j0,.msl j0,.msl j0,.msl j0,j5⟩⟩,⟨_,j0,zg (fun _=>j0)⟩,⟨_,j0,zg (fun _=>j0)⟩,⟨_,j0,zg (fun _=>j0)⟩,j5⟩,j0,j1⟩
   ·
    rintro v43 rfl
    replace h:zf6 a d e i c s v43=some r:=h
    unfold zf6 at h
    refine zx ?_
    refine rg j0<|u<|ld zad j0 j0<|u<|sto zad j0 j0 j0<|zc ?_
    refine zp ?_
    obtain rfl:=sm h
    exact ⟨_,j0,[],zp5 ⟨ci j0,ci j0,ci j0,ci j0,ci j0,ci j0,ci j0,(zic j0 j0 (fun _=>j0)),(zic j0 j0 (fun _=>j0)),(zic j0 j0 (fun _=>j0)),j5⟩,j0,j5,j0,j1⟩
   ·
    rintro r' rfl env st hp
    obtain rfl:=sm h
    exact hp
  ·
   rintro r' rfl env st hp
   obtain rfl:=sm h
   exact hp
 ·
  rintro r' rfl env st hp
  obtain rfl:=sm h
  exact hp
def ziv (c:(List UInt8)) (d:(List UInt8)) (e:(List (List UInt8))) (a:List zt) (b:List zi):Option ((List UInt8)×(List UInt8)×(List (List UInt8))×(List zt)×(List zi)) :=
  some (c,d,e,a,b)
def zds (c:za) (b:List zi) (a:Int):Option (Sum ((List zi)×Int) (Sum ((List zi)) ((List UInt8)×(List UInt8)×(List (List UInt8))×(List zt)×(List zi)))) :=
  cond ((decide (a < (List.length c.Methods:Int)))&&(decide (a < 10))) ((idx c.Methods a).bind fun d=>(zfD d).bind fun e=>(zhp 152 b [e]).bind fun f=>some (.inl (f,(IntKind.i64.wrap (a+1))))) (some (.inr (.inl b)))
def zfC (c:za) (d:(List UInt8)) (e:(List UInt8)) (f:(List (List UInt8))) (a:List zt):Option ((List UInt8)×(List UInt8)×(List (List UInt8))×(List zt)×(List zi)) :=
  (zu (fun z=>zds c z.1 z.2) ([],0)).bind fun o=>zQ o (fun b=>ziv d e f a b) some
def zdr (d:za) (c:List zt) (a:Int):Option (Sum ((List zt)×Int) (Sum ((List zt)) ((List UInt8)×(List UInt8)×(List (List UInt8))×(List zt)×(List zi)))) :=
  cond ((decide (a < (List.length d.Fields:Int)))&&(decide (a < 10))) ((idx d.Fields a).bind fun b=>(zbb b.Name 10).bind fun e=>(zbb b.Type_ 12).bind fun f=>(zhp 40 c [(zt.mk e f b.Static)]).bind fun i=>some (.inl (i,(IntKind.i64.wrap (a+1))))) (some (.inr (.inl c)))
def ziW (a:za):Option ((List UInt8)×(List UInt8)×(List (List UInt8))×(List zt)×(List zi)) :=
  (zbb a.Name 10).bind fun c=>(zbb a.Super 10).bind fun d=>(zb8 a.Impl 6).bind fun e=>(zu (fun z=>zdr a z.1 z.2) ([],0)).bind fun o=>zQ o (fun b=>zfC a c d e b) some
theorem zn8 (a:za) {r:(List UInt8)×(List UInt8)×(List (List UInt8))×(List zt)×(List zi)} (h:ziW a=some r):SC Tryz.prog 16 [.agg (zb a)] [] (.agg [sA r.1,sA r.2.1,bA a.Interface,.isl 1 (List.map zz r.2.2.1),.msl 0 0 (List.length r.2.2.2.1),.msl 1 0 (List.length r.2.2.2.2)]) [.many 3 (List.map zW r.2.2.2.1),.many 10 (List.map zq r.2.2.2.2)]:=by
 refine ⟨⟨ze9 (sz:=3) (fun _=>j0),ze9 (sz:=10) (fun _=>j0),j5⟩,za2 Tryz.func16 j0 (by kernel_rfl) j0 ?_⟩
 unfold ziW at h
 refine rg j0<|u<|bx 0 6 j0 j0 j0 j0<|u<|al 1 zS j0<|zc ?_
 obtain ⟨e,N,h⟩:=bs h
 obtain ⟨i,O,h⟩:=bs h
 obtain ⟨l,P,h⟩:=bs h
 refine rd [(1,.mpt 0 0 0),(2,.mpt 1 0 0),(3,.mpt 2 0 0)] [some (6,[(zb a)]),some (6,[[sA [],sA [],bA false,.lit (.slice none 0 0),.lit (.slice none 0 0),.lit (.slice none 0 0)]]),some (6,[[sA e,sA i,bA a.Interface,.isl 1 (List.map zz l),.lit (.slice none 0 0),.lit (.slice none 0 0)]])] [12,13] [11,10,9,8,7,6,5,4,3,2,1,0] [(18,.agg [sA e,sA i,bA a.Interface,.isl 1 (List.map zz l),.lit (.slice none 0 0),.lit (.slice none 0 0)]),(17,.isl 1 (List.map zz l)),(16,.isl 1 (List.map zz a.Impl)),(15,.mpt 0 0 3),(14,bA a.Interface),(13,.mpt 0 0 2),(12,sA i),(11,sA a.Super),(10,.mpt 0 0 1),(9,sA e),(8,sA a.Name),(7,.mpt 0 0 0)] 2 (by kernel_rfl) (by kernel_rfl) j0 (by kernel_rfl) (dtS ⟨(fun _=>pa j0 j0 j0 j0 (bd zS j0 j0 j0<|j4)),(fun _=>pa j0 j0 j0 j0 (pc (zbL a.Impl 6 P) j0 j0 j0<|j4)),(fun _=>pa j0 j0 j0 j0 (ld zak j0 j0<|j4)),(fun _=>pa j0 j0 j0 j0 (fa zS j0 j0 j0<|j4)),(fun _=>pa j0 j0 j0 j0 (ld ti4 j0 j0<|j4)),(fun _=>pa j0 j0 j0 j0 (fa zS j0 j0 j0<|j4)),(fun _=>pa j0 j0 j0 j0 (pc (zaS a.Super 10 O) j0 j0 j0<|j4)),(fun _=>pa j0 j0 j0 j0 (ld ti9 j0 j0<|j4)),(fun _=>pa j0 j0 j0 j0 (fa zS j0 j0 j0<|j4)),(fun _=>pa j0 j0 j0 j0 (pc (zaS a.Name 10 N) j0 j0 j0<|j4)),(fun _=>pa j0 j0 j0 j0 (ld ti9 j0 j0<|j4)),(fun _=>pa j0 j0 j0 j0 (fa zS j0 j0 j0<|j4)),j5⟩ (by kernel_rfl) j0 ⟨(fun _ _=>⟨_,j0,j0,al 2 zS j0<|⟨(.mpt 2 0 0),[],[(3,.mpt 2 0 0)],j0,j0,by kernel_rfl,j0,dtS ⟨(fun _=>pa j0 j0 j0 j0 (bd zS j0 j0 j0<|j4)),(fun _=>pa j0 j0 j0 j0 (pc (zbL a.Impl 6 P) j0 j0 j0<|j4)),(fun _=>pa j0 j0 j0 j0 (ld zak j0 j0<|j4)),(fun _=>pa j0 j0 j0 j0 (fa zS j0 j0 j0<|j4)),(fun _=>pa j0 j0 j0 j0 (ld ti4 j0 j0<|j4)),(fun _=>pa j0 j0 j0 j0 (fa zS j0 j0 j0<|j4)),(fun _=>pa j0 j0 j0 j0 (pc (zaS a.Super 10 O) j0 j0 j0<|j4)),(fun _=>pa j0 j0 j0 j0 (ld ti9 j0 j0<|j4)),(fun _=>pa j0 j0 j0 j0 (fa zS j0 j0 j0<|j4)),(fun _=>pa j0 j0 j0 j0 (pc (zaS a.Name 10 N) j0 j0 j0<|j4)),(fun _=>pa j0 j0 j0 j0 (ld ti9 j0 j0<|j4)),(fun _=>pa j0 j0 j0 j0 (fa zS j0 j0 j0<|j4)),j5⟩ (by kernel_rfl) j0 ⟨(fun h=>by cases h),(fun _ _=>⟨_,j0,j0,sto zS j0 j0 j0<|⟨.any,[],[],j0,j0,by kernel_rfl,j5,dt0 ⟨(fun h=>by cases h),(fun h=>by cases h),(fun h=>by cases h),(fun h=>by cases h),(fun h=>by cases h),(fun h=>by cases h),(fun h=>by cases h),(fun h=>by cases h),(fun h=>by cases h),(fun h=>by cases h),(fun h=>by cases h),(fun h=>by cases h),j5⟩ (by kernel_rfl) j0 ⟨[.old 0,.old 1,.old 2],cv j0 (.mpt j0)<|cv j0 (.mpt j0)<|cv j0 (.mpt j0)<|cn,j0,⟨⟨_,j0,zn (ciL j0)⟩,⟨_,j0,zn (ciL j0)⟩,⟨_,j0,zn (ciL j0)⟩,j5⟩,j0,j1⟩⟩⟩),j5⟩⟩⟩),(fun _ h=>by cases h),j5⟩) ?_
 refine zl ?_
 refine rg j0<|u<|asg j0<|zc ?_
 obtain ⟨o,ho,h⟩:=bs h
 refine zU (X:=(List zt)×Int) (B:=(List zt)) (R:=(List UInt8)×(List UInt8)×(List (List UInt8))×(List zt)×(List zi)) (fun z=>[(1,.mpt 0 0 0),(2,.mpt 1 0 0),(3,.mpt 2 0 0),(4,iA z.2)]) (fun z=>[some (6,[(zb a)]),some (6,[[sA [],sA [],bA false,.lit (.slice none 0 0),.lit (.slice none 0 0),.lit (.slice none 0 0)]]),some (6,[[sA e,sA i,bA a.Interface,.isl 1 (List.map zz l),.msl 3 0 (List.length z.1),.lit (.slice none 0 0)]]),some (3,List.map zW z.1)]) (fun b=>[(1,.mpt 0 0 0),(2,.mpt 1 0 0),(3,.mpt 2 0 0)]) (fun b=>[some (6,[(zb a)]),some (6,[[sA [],sA [],bA false,.lit (.slice none 0 0),.lit (.slice none 0 0),.lit (.slice none 0 0)]]),some (6,[[sA e,sA i,bA a.Interface,.isl 1 (List.map zz l),.msl 3 0 (List.length b),.lit (.slice none 0 0)]]),some (3,List.map zW b)]) (fun r env st=>zaD Tryz.prog Tryz.f16 0 (.agg [sA r.1,sA r.2.1,bA a.Interface,.isl 1 (List.map zz r.2.2.1),.msl 0 0 (List.length r.2.2.2.1),.msl 1 0 (List.length r.2.2.2.2)]) [some (3,List.map zW r.2.2.2.1),some (10,List.map zq r.2.2.2.2)] env st) ho ⟨[.old 0,.old 1,.old 2,.fresh 3],cv j0 (.mpt j0)<|cv j0 (.mpt j0)<|cv j0 (.mpt j0)<|ce j0 j0<|cn,j0,⟨⟨_,j0,zn (ciL j0)⟩,⟨_,j0,zn (ciL j0)⟩,⟨_,j0,zn ⟨ci j0,ci j0,ci j0,ci j0,.nilown j0,ci j0,j5⟩⟩,j4,j5⟩,j0,j1⟩ ?_ ?_ ?_
 ·
  rintro ⟨G,H⟩ r h
  replace h:zdr a G H=some r:=h
  unfold zdr at h
  refine zl ?_
  refine rg j0<|u<|mv j0<|u<|fa zS j0 j0 j0<|u<|ld zes j0 j0<|u<|lnI zes j0 j0<|u<|lss ti3 j0 j0<|u<|mv j0<|z2 (j:=5) 2 j0 j0 j0 j0 j0 gpn (fun n=>g j0 n<|mv j0<|g j0 n<|lss ti3 j0 j0<|zc (egA [25,26] 2 n j0 j0 j0 j0)) zdb<|zc ?_
  refine zk j0 (fun p=>?_) (fun p=>?_)
  ·
   replace h:=bT p h
   refine zm ?_
   refine zl ?_
   refine zs ?_
   obtain ⟨c,I,h⟩:=bs h
   refine rg j0<|u<|fa zS j0 j0 j0<|u<|ld zes j0 j0<|u<|mv j0<|u<|ixI zes j0 zcG j0 j0 j0 I<|u<|ldI zcG j0 (zo I).2.2 j0<|u<|al 4 zcG j0<|u<|sto zcG j0 j0 j0<|zc ?_
   obtain ⟨D,E,h⟩:=bs h
   obtain ⟨F,J,h⟩:=bs h
   obtain ⟨v,Q,h⟩:=bs h
   refine rdL [(1,.mpt 0 0 0),(2,.mpt 1 0 0),(3,.mpt 2 0 0),(4,iA H)] [some (6,[(zb a)]),some (6,[[sA [],sA [],bA false,.lit (.slice none 0 0),.lit (.slice none 0 0),.lit (.slice none 0 0)]]),some (6,[[sA e,sA i,bA a.Interface,.isl 1 (List.map zz l),.msl 3 0 (List.length v),.lit (.slice none 0 0)]]),some (3,List.map zW v)] [11,12,14] [10,9,8,7,6,5,4,3,2,1,0] [(45,.agg [sA D,sA F,bA c.Static]),(44,bA c.Static),(43,.mpt 4 0 2),(42,sA F),(41,sA c.Type_),(40,.mpt 4 0 1),(39,sA D),(38,sA c.Name),(37,.mpt 4 0 0),(36,.msl 3 0 (List.length G)),(35,.mpt 2 0 4)] 3 (by kernel_rfl) (by kernel_rfl) j0 (by kernel_rfl) (dtS ⟨(fun _=>pa j0 j0 j0 j0 (bd zcG j0 j0 j0<|j4)),(fun _=>pa j0 j0 j0 j0 (ld ti4 j0 j0<|j4)),(fun _=>pa j0 j0 j0 j0 (fa zcG j0 j0 j0<|j4)),(fun _=>pa j0 j0 j0 j0 (pc (zaS c.Type_ 12 J) j0 j0 j0<|j4)),(fun _=>pa j0 j0 j0 j0 (ld ti9 j0 j0<|j4)),(fun _=>pa j0 j0 j0 j0 (fa zcG j0 j0 j0<|j4)),(fun _=>pa j0 j0 j0 j0 (pc (zaS c.Name 10 E) j0 j0 j0<|j4)),(fun _=>pa j0 j0 j0 j0 (ld ti9 j0 j0<|j4)),(fun _=>pa j0 j0 j0 j0 (fa zcG j0 j0 j0<|j4)),(fun _=>pa j0 j0 j0 j0 (ld zes j0 j0<|j4)),(fun _=>pa j0 j0 j0 j0 (fa zS j0 j0 j0<|j4)),j5⟩ (by kernel_rfl) j0 ⟨(fun _ _=>⟨_,j0,j0,bl 5 zes j0 zcG j0 (by decide) (by decide) j0 j0 j0<|⟨(.msl 5 0 1),[],[(46,.msl 5 0 1)],j0,j0,by kernel_rfl,j0,dtS ⟨(fun h=>by cases h),(fun _=>pa j0 j0 j0 j0 (ld ti4 j0 j0<|j4)),(fun _=>pa j0 j0 j0 j0 (fa zcG j0 j0 j0<|j4)),(fun _=>pa j0 j0 j0 j0 (pc (zaS c.Type_ 12 J) j0 j0 j0<|j4)),(fun _=>pa j0 j0 j0 j0 (ld ti9 j0 j0<|j4)),(fun _=>pa j0 j0 j0 j0 (fa zcG j0 j0 j0<|j4)),(fun _=>pa j0 j0 j0 j0 (pc (zaS c.Name 10 E) j0 j0 j0<|j4)),(fun _=>pa j0 j0 j0 j0 (ld ti9 j0 j0<|j4)),(fun _=>pa j0 j0 j0 j0 (fa zcG j0 j0 j0<|j4)),(fun _=>pa j0 j0 j0 j0 (ld zes j0 j0<|j4)),(fun _=>pa j0 j0 j0 j0 (fa zS j0 j0 j0<|j4)),j5⟩ (by kernel_rfl) j0 ⟨(fun h=>by cases h),(fun _ _=>⟨_,j0,j0,apM 6 zes j0 zcG j0 j0 (by decide) zes j0 j0 j0 j0 (roX (f:=zW) (z:=[(zt.mk D F c.Static)]) j0 j0) (fun _=>j0) j0 Q<|⟨(.msl 6 0 (List.length v)),[13],[(48,.mpt 2 0 4),(47,.msl 6 0 (List.length v))],j0,j0,by kernel_rfl,j0,dtS ⟨(fun _=>pa j0 j0 j0 j0 (fa zS j0 j0 j0<|j4)),(fun h=>by cases h),(fun _=>pa j0 j0 j0 j0 (ld ti4 j0 j0<|j4)),(fun _=>pa j0 j0 j0 j0 (fa zcG j0 j0 j0<|j4)),(fun h=>by cases h),(fun _=>pa j0 j0 j0 j0 (ld ti9 j0 j0<|j4)),(fun _=>pa j0 j0 j0 j0 (fa zcG j0 j0 j0<|j4)),(fun _=>pa j0 j0 j0 j0 (pc (zaS c.Name 10 E) j0 j0 j0<|j4)),(fun _=>pa j0 j0 j0 j0 (ld ti9 j0 j0<|j4)),(fun _=>pa j0 j0 j0 j0 (fa zcG j0 j0 j0<|j4)),(fun h=>by cases h),(fun _=>pa j0 j0 j0 j0 (fa zS j0 j0 j0<|j4)),j5⟩ (by kernel_rfl) j0 ⟨(fun h=>by cases h),(fun h=>by cases h),(fun _ _=>⟨_,j0,j0,sto zes j0 j0 j0<|⟨.any,[],[],j0,j0,by kernel_rfl,j5,dt0 ⟨(fun h=>by cases h),(fun h=>by cases h),(fun h=>by cases h),(fun h=>by cases h),(fun h=>by cases h),(fun h=>by cases h),(fun h=>by cases h),(fun h=>by cases h),(fun h=>by cases h),(fun h=>by cases h),(fun h=>by cases h),(fun h=>by cases h),j5⟩ (by kernel_rfl) j0 ⟨[.old 0,.old 1,.old 2,.old 6],cv j0 (.mpt j0)<|cv j0 (.mpt j0)<|cv j0 (.mpt j0)<|ce j0 j0<|cn,j0,⟨⟨_,j0,zn (ciL j0)⟩,⟨_,j0,zn (ciL j0)⟩,⟨_,j0,zn ⟨ci j0,ci j0,ci j0,ci j0,.msl j0,ci j0,j5⟩⟩,⟨_,j0,zg (fun _=>j0)⟩,j5⟩,j0,j1⟩⟩⟩),j5⟩⟩⟩),(fun _ h=>by cases h),j5⟩⟩⟩),(fun _ h=>by cases h),(fun _ h=>by cases h),j5⟩) ?_
   refine rl j0<|u<|mv j0<|u<|add ti3 j0 j0<|u<|asg j0<|zc ?_
   obtain rfl:=sm h
   exact ⟨_,j0,[.old 0,.old 1,.old 2,.old 3],cv j0 (.mpt j0)<|cv j0 (.mpt j0)<|cv j0 (.mpt j0)<|ce j0 j0<|cn,j0,⟨⟨_,j0,zn (ciL j0)⟩,⟨_,j0,zn (ciL j0)⟩,⟨_,j0,zn ⟨ci j0,ci j0,ci j0,ci j0,.msl j0,ci j0,j5⟩⟩,⟨_,j0,zg (fun _=>j0)⟩,j5⟩,j0,j1⟩
  ·
   replace h:=bF p h
   refine zB ?_
   obtain rfl:=sm h
   exact ⟨j0,_,j0,[.old 0,.old 1,.old 2,.old 3],cv j0 (.mpt j0)<|cv j0 (.mpt j0)<|cv j0 (.mpt j0)<|cn,j0,⟨⟨_,j0,zn (ciL j0)⟩,⟨_,j0,zn (ciL j0)⟩,⟨_,j0,zn ⟨ci j0,ci j0,ci j0,ci j0,.msl j0,ci j0,j5⟩⟩,⟨_,j0,zg (fun _=>j0)⟩,j5⟩,j0,j1⟩
 ·
  rintro d rfl
  replace h:zfC a e i l d=some r:=h
  unfold zfC at h
  refine zx ?_
  refine zl ?_
  refine rg j0<|u<|asg j0<|zc ?_
  obtain ⟨o,ho,h⟩:=bs h
  refine zU (X:=(List zi)×Int) (B:=(List zi)) (R:=(List UInt8)×(List UInt8)×(List (List UInt8))×(List zt)×(List zi)) (fun z=>[(1,.mpt 0 0 0),(2,.mpt 1 0 0),(3,.mpt 2 0 0),(6,iA z.2)]) (fun z=>[some (6,[(zb a)]),some (6,[[sA [],sA [],bA false,.lit (.slice none 0 0),.lit (.slice none 0 0),.lit (.slice none 0 0)]]),some (6,[[sA e,sA i,bA a.Interface,.isl 1 (List.map zz l),.msl 3 0 (List.length d),.msl 4 0 (List.length z.1)]]),some (3,List.map zW d),some (10,List.map zq z.1)]) (fun b=>[(2,.mpt 0 0 0),(3,.mpt 1 0 0)]) (fun b=>[some (6,[[sA [],sA [],bA false,.lit (.slice none 0 0),.lit (.slice none 0 0),.lit (.slice none 0 0)]]),some (6,[[sA e,sA i,bA a.Interface,.isl 1 (List.map zz l),.msl 2 0 (List.length d),.msl 3 0 (List.length b)]]),some (3,List.map zW d),some (10,List.map zq b)]) (fun r env st=>zaD Tryz.prog Tryz.f16 0 (.agg [sA r.1,sA r.2.1,bA a.Interface,.isl 1 (List.map zz r.2.2.1),.msl 0 0 (List.length r.2.2.2.1),.msl 1 0 (List.length r.2.2.2.2)]) [some (3,List.map zW r.2.2.2.1),some (10,List.map zq r.2.2.2.2)] env st) ho ⟨[.old 0,.old 1,.old 2,.old 3,.fresh 10],cv j0 (.mpt j0)<|cv j0 (.mpt j0)<|cv j0 (.mpt j0)<|ce j0 j0<|cn,j0,⟨⟨_,j0,zn (ciL j0)⟩,⟨_,j0,zn (ciL j0)⟩,⟨_,j0,zn ⟨ci j0,ci j0,ci j0,ci j0,.msl j0,.nilown j0,j5⟩⟩,⟨_,j0,zg (fun _=>j0)⟩,j4,j5⟩,j0,j1⟩ ?_ ?_ ?_
  ·
   rintro ⟨K,x⟩ r h
   replace h:zds a K x=some r:=h
   unfold zds at h
   refine zl ?_
   refine rg j0<|u<|mv j0<|u<|fa zS j0 j0 j0<|u<|ld zh3 j0 j0<|u<|lnI zh3 j0 j0<|u<|lss ti3 j0 j0<|u<|mv j0<|z2 (j:=5) 2 j0 j0 j0 j0 j0 gpn (fun q=>g j0 q<|mv j0<|g j0 q<|lss ti3 j0 j0<|zc (egA [55,56] 2 q j0 j0 j0 j0)) zdb<|zc ?_
   refine zk j0 (fun s=>?_) (fun s=>?_)
   ·
    replace h:=bT s h
    refine zm ?_
    refine zl ?_
    refine zs ?_
    obtain ⟨L,m,h⟩:=bs h
    obtain ⟨M,S,h⟩:=bs h
    obtain ⟨C,T,h⟩:=bs h
    refine rdL [(1,.mpt 0 0 0),(2,.mpt 1 0 0),(3,.mpt 2 0 0),(6,iA x)] [some (6,[(zb a)]),some (6,[[sA [],sA [],bA false,.lit (.slice none 0 0),.lit (.slice none 0 0),.lit (.slice none 0 0)]]),some (6,[[sA e,sA i,bA a.Interface,.isl 1 (List.map zz l),.msl 3 0 (List.length d),.msl 4 0 (List.length C)]]),some (3,List.map zW d),some (10,List.map zq C)] [8,9,11] [7,6,5,4,3,2,1,0] [(67,.agg (zq M)),(66,.agg (zq L)),(65,.ipt 10 (List.map zq a.Methods) (Int.toNat x) 0),(64,iA x),(63,.isl 10 (List.map zq a.Methods)),(62,.mpt 0 0 5),(61,.msl 4 0 (List.length K)),(60,.mpt 2 0 5)] 3 (by kernel_rfl) (by kernel_rfl) j0 (by kernel_rfl) (dtS ⟨(fun _=>pa j0 j0 j0 j0 (pc (zk6 L S) j0 j0 j0<|j4)),(fun _=>pa j0 j0 j0 j0 (ldI zad j0 (zo m).2.2 j0<|j4)),(fun _=>pa j0 j0 j0 j0 (ixI zh3 j0 zad j0 j0 j0 m<|j4)),(fun _=>pa j0 j0 j0 j0 (mv j0<|j4)),(fun _=>pa j0 j0 j0 j0 (ld zh3 j0 j0<|j4)),(fun _=>pa j0 j0 j0 j0 (fa zS j0 j0 j0<|j4)),(fun _=>pa j0 j0 j0 j0 (ld zh3 j0 j0<|j4)),(fun _=>pa j0 j0 j0 j0 (fa zS j0 j0 j0<|j4)),j5⟩ (by kernel_rfl) j0 ⟨(fun _ _=>⟨_,j0,j0,bl 5 zh3 j0 zad j0 (by decide) (by decide) j0 j0 j0<|⟨(.msl 5 0 1),[],[(68,.msl 5 0 1)],j0,j0,by kernel_rfl,j0,dtS ⟨(fun h=>by cases h),(fun _=>pa j0 j0 j0 j0 (ldI zad j0 (zo m).2.2 j0<|j4)),(fun _=>pa j0 j0 j0 j0 (ixI zh3 j0 zad j0 j0 j0 m<|j4)),(fun _=>pa j0 j0 j0 j0 (mv j0<|j4)),(fun _=>pa j0 j0 j0 j0 (ld zh3 j0 j0<|j4)),(fun _=>pa j0 j0 j0 j0 (fa zS j0 j0 j0<|j4)),(fun _=>pa j0 j0 j0 j0 (ld zh3 j0 j0<|j4)),(fun _=>pa j0 j0 j0 j0 (fa zS j0 j0 j0<|j4)),j5⟩ (by kernel_rfl) j0 ⟨(fun h=>by cases h),(fun _ _=>⟨_,j0,j0,apM 6 zh3 j0 zad j0 j0 (by decide) zh3 j0 j0 j0 j0 (roX (f:=zq) (z:=[M]) j0 j0) (fun _=>j0) j0 T<|⟨(.msl 6 0 (List.length C)),[10],[(70,.mpt 2 0 5),(69,.msl 6 0 (List.length C))],j0,j0,by kernel_rfl,j0,dtS ⟨(fun _=>pa j0 j0 j0 j0 (fa zS j0 j0 j0<|j4)),(fun h=>by cases h),(fun _=>pa j0 j0 j0 j0 (ldI zad j0 (zo m).2.2 j0<|j4)),(fun _=>pa j0 j0 j0 j0 (ixI zh3 j0 zad j0 j0 j0 m<|j4)),(fun _=>pa j0 j0 j0 j0 (mv j0<|j4)),(fun _=>pa j0 j0 j0 j0 (ld zh3 j0 j0<|j4)),(fun _=>pa j0 j0 j0 j0 (fa zS j0 j0 j0<|j4)),(fun h=>by cases h),(fun _=>pa j0 j0 j0 j0 (fa zS j0 j0 j0<|j4)),j5⟩ (by kernel_rfl) j0 ⟨(fun h=>by cases h),(fun h=>by cases h),(fun _ _=>⟨_,j0,j0,sto zh3 j0 j0 j0<|⟨.any,[],[],j0,j0,by kernel_rfl,j5,dt0 ⟨(fun h=>by cases h),(fun h=>by cases h),(fun h=>by cases h),(fun h=>by cases h),(fun h=>by cases h),(fun h=>by cases h),(fun h=>by cases h),(fun h=>by cases h),(fun h=>by cases h),j5⟩ (by kernel_rfl) j0 ⟨[.old 0,.old 1,.old 2,.old 3,.old 6],cv j0 (.mpt j0)<|cv j0 (.mpt j0)<|cv j0 (.mpt j0)<|ce j0 j0<|cn,j0,⟨⟨_,j0,zn (ciL j0)⟩,⟨_,j0,zn (ciL j0)⟩,⟨_,j0,zn ⟨ci j0,ci j0,ci j0,ci j0,.msl j0,.msl j0,j5⟩⟩,⟨_,j0,zg (fun _=>j0)⟩,⟨_,j0,zg (fun _=>j0)⟩,j5⟩,j0,j1⟩⟩⟩),j5⟩⟩⟩),(fun _ h=>by cases h),j5⟩⟩⟩),(fun _ h=>by cases h),(fun _ h=>by cases h),j5⟩) ?_
    refine rl j0<|u<|mv j0<|u<|add ti3 j0 j0<|u<|asg j0<|zc ?_
    obtain rfl:=sm h
    exact ⟨_,j0,[.old 0,.old 1,.old 2,.old 3,.old 4],cv j0 (.mpt j0)<|cv j0 (.mpt j0)<|cv j0 (.mpt j0)<|ce j0 j0<|cn,j0,⟨⟨_,j0,zn (ciL j0)⟩,⟨_,j0,zn (ciL j0)⟩,⟨_,j0,zn ⟨ci j0,ci j0,ci j0,ci j0,.msl j0,.msl j0,j5⟩⟩,⟨_,j0,zg (fun _=>j0)⟩,⟨_,j0,zg (fun _=>j0)⟩,j5⟩,j0,j1⟩
   ·
    replace h:=bF s h
    refine zB ?_
    obtain rfl:=sm h
    exact ⟨j0,_,j0,[.old 1,.old 2,.old 3,.old 4],cv j0 (.mpt j0)<|cv j0 (.mpt j0)<|cn,j0,⟨⟨_,j0,zn (ciL j0)⟩,⟨_,j0,zn ⟨ci j0,ci j0,ci j0,ci j0,.msl j0,.msl j0,j5⟩⟩,⟨_,j0,zg (fun _=>j0)⟩,⟨_,j0,zg (fun _=>j0)⟩,j5⟩,j0,j1⟩
  ·
   rintro U rfl
   replace h:ziv e i l d U=some r:=h
   unfold ziv at h
   refine zx ?_
   refine rg j0<|u<|ld zS j0 j0<|u<|sto zS j0 j0 j0<|zc ?_
   refine zp ?_
   obtain rfl:=sm h
   exact ⟨_,j0,[.old 2,.old 3],zp5 ⟨ci j0,ci j0,ci j0,ci j0,(.msl j0),(.msl j0),j5⟩,j0,⟨⟨_,j0,zg (fun _=>j0)⟩,⟨_,j0,zg (fun _=>j0)⟩,j5⟩,j0,j1⟩
  ·
   rintro r' rfl env st hp
   obtain rfl:=sm h
   exact hp
 ·
  rintro r' rfl env st hp
  obtain rfl:=sm h
  exact hp
def ziu (a:List za):Option ((List za)) :=
  some a
def zdq (c:List za) (d:List za) (b:Int):Option (Sum ((List za)×Int) (Sum ((List za)) ((List za)))) :=
  cond ((decide (b < (List.length c:Int)))&&(decide (b < 18))) ((idx c b).bind fun e=>(ziW e).bind fun a=>(zhp 112 d [(za.mk a.1 a.2.1 e.Interface a.2.2.1 a.2.2.2.1 a.2.2.2.2)]).bind fun f=>some (.inl (f,(IntKind.i64.wrap (b+1))))) (some (.inr (.inl d)))
def ziV (a:List za):Option ((List za)) :=
  (zu (fun z=>zdq a z.1 z.2) ([],0)).bind fun o=>zQ o (fun b=>ziu b) some
theorem zn6 (c:List za) {r:(List za)} (h:ziV c=some r):SC Tryz.prog 26 [.isl 6 (List.map zb c)] [] (.msl 0 0 (List.length r)) [.many 6 (List.map zb r)]:=by
 refine ⟨⟨ze9 (sz:=6) (fun _=>j0),j5⟩,za2 Tryz.func26 j0 (by kernel_rfl) j0 ?_⟩
 unfold ziV at h
 refine rg j0<|u<|asg j0<|zc ?_
 refine rg j0<|u<|asg j0<|zc ?_
 refine zl ?_
 refine rg j0<|u<|asg j0<|zc ?_
 obtain ⟨o,ho,h⟩:=bs h
 refine zU (X:=(List za)×Int) (B:=(List za)) (R:=(List za)) (fun z=>[(0,.isl 6 (List.map zb c)),(3,.msl 0 0 (List.length z.1)),(4,iA z.2)]) (fun z=>[some (6,List.map zb z.1)]) (fun b=>[(3,.msl 0 0 (List.length b))]) (fun b=>[some (6,List.map zb b)]) (fun r env st=>zaD Tryz.prog Tryz.f26 0 (.msl 0 0 (List.length r)) [some (6,List.map zb r)] env st) ho ⟨[.fresh 6],ce j0 j0<|cv j0 (.nilown j0)<|ce j0 j0<|cn,j0,⟨j4,j5⟩,j0,j1⟩ ?_ ?_ ?_
 ·
  rintro ⟨d,l⟩ r h
  replace h:zdq c d l=some r:=h
  unfold zdq at h
  refine zl ?_
  refine rg j0<|u<|mv j0<|u<|mv j0<|u<|lnI zbl j0 j0<|u<|lss ti3 j0 j0<|u<|mv j0<|z2 (j:=4) 2 j0 j0 j0 j0 j0 gpn (fun e=>g j0 e<|mv j0<|g j0 e<|lss ti3 j0 j0<|zc (egA [10,11] 2 e j0 j0 j0 j0)) zdb<|zc ?_
  refine zk j0 (fun f=>?_) (fun f=>?_)
  ·
   replace h:=bT f h
   refine zm ?_
   refine zl ?_
   refine zs ?_
   obtain ⟨i,m,h⟩:=bs h
   obtain ⟨a,q,h⟩:=bs h
   obtain ⟨s,n,h⟩:=bs h
   refine rl j0<|u<|mv j0<|u<|mv j0<|u<|mv j0<|u<|ixI zbl j0 zS j0 j0 j0 m<|u<|ldI zS j0 (zo m).2.2 j0<|u<|sc [] (zn8 i q) j0 j0 j0 j0 ⟨(rnI j0),j5⟩ j5<|zcj (env0:=[(0,.isl 6 (List.map zb c)),(4,iA l),(15,.msl 0 0 (List.length d)),(20,.agg [sA a.1,sA a.2.1,bA i.Interface,.isl 1 (List.map zz a.2.2.1),.msl 1 0 (List.length a.2.2.2.1),.msl 2 0 (List.length a.2.2.2.2)])]) (st0:=[some (6,List.map zb d),some (3,List.map zW a.2.2.2.1),some (10,List.map zq a.2.2.2.2)]) ⟨[.old 0,.old 1,.old 2],ce j0 j0<|ce j0 j0<|cv j0 (.msl j0)<|cv j0 (zp5 ⟨ci j0,ci j0,ci j0,ci j0,(.msl j0),(.msl j0),j5⟩)<|cn,j0,⟨⟨_,j0,zg (fun _=>j0)⟩,⟨_,j0,zg (fun _=>j0)⟩,⟨_,j0,zg (fun _=>j0)⟩,j5⟩,j0,j1⟩<|u<|bl 3 zbl j0 zS j0 (by decide) (by decide) j0 j0 j0<|zcj (env0:=[(0,.isl 6 (List.map zb c)),(4,iA l),(15,.msl 0 0 (List.length d)),(21,.msl 1 0 (List.length [(za.mk a.1 a.2.1 i.Interface a.2.2.1 a.2.2.2.1 a.2.2.2.2)]))]) (st0:=[some (6,List.map zb d),some (6,List.map zb [(za.mk a.1 a.2.1 i.Interface a.2.2.1 a.2.2.2.1 a.2.2.2.2)])]) ⟨[.old 0,.old 3],ce j0 j0<|ce j0 j0<|cv j0 (.msl j0)<|cv j0 (.msl j0)<|cn,j0,⟨⟨_,j0,zg (fun _=>j0)⟩,⟨_,j0,zen ⟨⟨(ci j0),(ci j0),(ci j0),(ci j0),(zic j0 j0 (fun _=>j0)),(zic j0 j0 (fun _=>j0)),j5⟩,j5⟩⟩,j5⟩,j0,j1⟩<|u<|apM 2 zbl j0 zS j0 j0 (by decide) zbl j0 j0 j0 j0 (roM j0) (fun _=>j0) j0 n<|u<|asg j0<|zc ?_
   refine rl j0<|u<|mv j0<|u<|add ti3 j0 j0<|u<|asg j0<|zc ?_
   obtain rfl:=sm h
   exact ⟨_,j0,[.old 2],ce j0 j0<|cv j0 (.msl j0)<|ce j0 j0<|cn,j0,⟨⟨_,j0,zg (fun _=>j0)⟩,j5⟩,j0,j1⟩
  ·
   replace h:=bF f h
   refine zB ?_
   obtain rfl:=sm h
   exact ⟨j0,_,j0,[.old 0],cv j0 (.msl j0)<|cn,j0,⟨⟨_,j0,zg (fun _=>j0)⟩,j5⟩,j0,j1⟩
 ·
  rintro p rfl
  replace h:ziu p=some r:=h
  unfold ziu at h
  refine zx ?_
  refine rg j0<|u<|mv j0<|u<|asg j0<|zc ?_
  refine zp ?_
  obtain rfl:=sm h
  exact ⟨_,j0,[.old 0],.msl j0,j0,⟨⟨_,j0,zg (fun _=>j0)⟩,j5⟩,j0,j1⟩
 ·
  rintro r' rfl env st hp
  obtain rfl:=sm h
  exact hp
def zbF:(List (List UInt8)) :=
  ([[79,98,106,101,99,116],[84,104,114,111,119,110],[78,117,108,108,69,114,114],[82,97,110,103,101,69,114,114],[77,97,116,104,69,114,114],[67,97,115,116,69,114,114],[83,105,122,101,69,114,114],[83,116,111,114,101,69,114,114],[73,110,105,116,69,114,114],[67,108,97,115,115,69,114,114]])
theorem zmp {r:(List (List UInt8))} (h:zbF=r):SC Tryz.prog 184 [] [] (.msl 0 0 (List.length r)) [.many 1 (List.map zz r)]:=by
 refine ⟨⟨ze9 (sz:=1) (fun _=>j0),j5⟩,za2 Tryz.func184 j0 (by kernel_rfl) j0 ?_⟩
 unfold zbF at h
 refine rg j0<|u<|asg j0<|zc ?_
 refine rg j0<|u<|bl 0 zak j0 ti9 j0 (by decide) (by decide) j0 j0 j0<|u<|asg j0<|zc ?_
 refine zp ?_
 obtain rfl:=h
 exact ⟨_,j0,[.old 0],.msl j0,j0,⟨⟨_,j0,zen ⟨⟨(ci j0),j5⟩,⟨(ci j0),j5⟩,⟨(ci j0),j5⟩,⟨(ci j0),j5⟩,⟨(ci j0),j5⟩,⟨(ci j0),j5⟩,⟨(ci j0),j5⟩,⟨(ci j0),j5⟩,⟨(ci j0),j5⟩,⟨(ci j0),j5⟩,j5⟩⟩,j5⟩,j0,j1⟩
def zaE:(List (List UInt8)) :=
  ([[79,98,106,101,99,116],[84,104,114,111,119,110],[78,117,108,108,69,114,114],[82,97,110,103,101,69,114,114],[77,97,116,104,69,114,114],[67,97,115,116,69,114,114],[83,105,122,101,69,114,114],[83,116,111,114,101,69,114,114],[73,110,105,116,69,114,114],[67,108,97,115,115,69,114,114]])
theorem ziN {r:(List (List UInt8))} (h:zaE=r):SC Tryz.prog 105 [] [] (.msl 0 0 (List.length r)) [.many 1 (List.map zz r)]:=by
 refine ⟨⟨ze9 (sz:=1) (fun _=>j0),j5⟩,za2 Tryz.func105 j0 (by kernel_rfl) j0 ?_⟩
 unfold zaE at h
 refine rg j0<|u<|asg j0<|zc ?_
 refine rg j0<|u<|bl 0 zak j0 ti9 j0 (by decide) (by decide) j0 j0 j0<|u<|asg j0<|zc ?_
 refine zp ?_
 obtain rfl:=h
 exact ⟨_,j0,[.old 0],.msl j0,j0,⟨⟨_,j0,zen ⟨⟨(ci j0),j5⟩,⟨(ci j0),j5⟩,⟨(ci j0),j5⟩,⟨(ci j0),j5⟩,⟨(ci j0),j5⟩,⟨(ci j0),j5⟩,⟨(ci j0),j5⟩,⟨(ci j0),j5⟩,⟨(ci j0),j5⟩,⟨(ci j0),j5⟩,j5⟩⟩,j5⟩,j0,j1⟩
def zgK (a:List za):Option ((List za)) :=
  some a
def zex (c:List za) (d:Int) (e:List UInt8) (a:List UInt8):Option (Sum ((List za)×Int) (Sum ((List za)) ((List za)))) :=
  (zhp 112 c ([(za.mk e a false [] [] [])])).bind fun b=>some (.inl (b,(IntKind.i64.wrap (d+1))))
def zgL (b:List za) (a:Int):Option (Sum ((List za)×Int) (Sum ((List za)) ((List za)))) :=
  cond (decide (a < ((List.length (zaE)):Int))) ((idx (zaE) a).bind fun c=>cond (decide (a < 2)) ((idx ([[],[79,98,106,101,99,116]]) a).bind fun d=>zex b a c d) (zex b a c [84,104,114,111,119,110])) (some (.inr (.inl b)))
def zhY:Option ((List za)) :=
  (zu (fun z=>zgL z.1 z.2) ([],0)).bind fun o=>zQ o (fun b=>zgK b) some
theorem zlZ {r:(List za)} (h:zhY=some r):SC Tryz.prog 98 [] [] (.msl 0 0 (List.length r)) [.many 6 (List.map zb r)]:=by
 refine ⟨⟨ze9 (sz:=6) (fun _=>j0),j5⟩,za2 Tryz.func98 j0 (by kernel_rfl) j0 ?_⟩
 unfold zhY at h
 refine rg j0<|u<|asg j0<|zc ?_
 refine rg j0<|u<|asg j0<|zc ?_
 refine zl ?_
 refine rg j0<|u<|sc [] (ziN j0) j0 j0 j0 j0 j5 j5<|zcj (env0:=[(1,.lit (.slice none 0 0)),(5,.msl 0 0 (List.length (zaE)))]) (st0:=[some (1,List.map zz (zaE))]) ⟨[.old 0],ce j0 j0<|cv j0 (.msl j0)<|cn,j0,⟨⟨_,j0,zg (fun _=>j0)⟩,j5⟩,j0,j1⟩<|u<|lnM zak j0 j0 j0<|u<|mv j0<|zc ?_
 obtain ⟨o,ho,h⟩:=bs h
 refine zU (X:=(List za)×Int) (B:=(List za)) (R:=(List za)) (fun z=>[(1,.msl 0 0 (List.length z.1)),(5,.msl 1 0 (List.length (zaE))),(6,iA ((List.length (zaE)):Int)),(7,iA z.2)]) (fun z=>[some (6,List.map zb z.1),some (1,List.map zz (zaE))]) (fun b=>[(1,.msl 0 0 (List.length b))]) (fun b=>[some (6,List.map zb b)]) (fun r env st=>zaD Tryz.prog Tryz.f98 0 (.msl 0 0 (List.length r)) [some (6,List.map zb r)] env st) ho ⟨[.fresh 6,.old 0],cv j0 (.nilown j0)<|cv j0 (.msl j0)<|ce j0 j0<|ce j0 j0<|cn,j0,⟨j4,⟨_,j0,zg (fun _=>j0)⟩,j5⟩,j0,j1⟩ ?_ ?_ ?_
 ·
  rintro ⟨a,c⟩ r h
  replace h:zgL a c=some r:=h
  unfold zgL at h
  refine rg j0<|u<|lss ti3 j0 j0<|zc ?_
  refine zl ?_
  refine zk j0 (fun e=>?_) (fun e=>?_)
  ·
   replace h:=bT e h
   refine zm ?_
   refine zl ?_
   refine zs ?_
   obtain ⟨d,j,h⟩:=bs h
   refine rg j0<|u<|mv j0<|u<|ixM zak j0 ti9 j0 j0 j0 j0 j<|u<|ldM ti9 j0 j0 (zo j).2.2 j0<|u<|asg j0<|u<|asg j0<|zc ?_
   refine rg j0<|u<|mv j0<|u<|bd zS j0 j0 j0<|u<|al 2 zS j0<|u<|sto zS j0 j0 j0<|zc ?_
   refine zb3 (X:=(List UInt8)) (fun z=>[(1,.msl 0 0 (List.length a)),(4,.mpt 1 0 0),(5,.msl 2 0 (List.length (zaE))),(6,iA ((List.length (zaE)):Int)),(7,iA c)]) (fun z=>[some (6,List.map zb a),some (6,[[sA d,sA z,bA false,.lit (.slice none 0 0),.lit (.slice none 0 0),.lit (.slice none 0 0)]]),some (1,List.map zz (zaE))]) (fun z=>zex a c d z=some r) ?_ ?_
   ·
    refine rg j0<|u<|mv j0<|u<|lss ti3 j0 j0<|zc ?_
    refine zk j0 (fun f=>?_) (fun f=>?_)
    ·
     replace h:=bT f h
     obtain ⟨n,l,h⟩:=bs h
     exact rl j0<|u<|bl 3 zak j0 ti9 j0 (by decide) (by decide) j0 j0 j0<|u<|mv j0<|zcj (env0:=[(1,.msl 0 0 (List.length a)),(4,.mpt 1 0 0),(5,.msl 2 0 (List.length (zaE))),(6,iA ((List.length (zaE)):Int)),(7,iA c),(16,.msl 3 0 (List.length ([[],[79,98,106,101,99,116]]))),(17,iA c)]) (st0:=[some (6,List.map zb a),some (6,[[sA d,sA [84,104,114,111,119,110],bA false,.lit (.slice none 0 0),.lit (.slice none 0 0),.lit (.slice none 0 0)]]),some (1,List.map zz (zaE)),some (1,List.map zz ([[],[79,98,106,101,99,116]]))]) ⟨[.old 0,.old 2,.old 1,.old 3],cv j0 (.msl j0)<|cv j0 (.mpt j0)<|cv j0 (.msl j0)<|ce j0 j0<|ce j0 j0<|cv j0 (.msl j0)<|ce j0 j0<|cn,j0,⟨⟨_,j0,zg (fun _=>j0)⟩,⟨_,j0,zn (ciL j0)⟩,⟨_,j0,zg (fun _=>j0)⟩,⟨_,j0,zen ⟨⟨(ci j0),j5⟩,⟨(ci j0),j5⟩,j5⟩⟩,j5⟩,j0,j1⟩<|u<|ixM zak j0 ti9 j0 j0 j0 j0 l<|u<|ldM ti9 j0 j0 (zo l).2.2 j0<|u<|fa zS j0 j0 j0<|u<|sto ti9 j0 j0 j0<|zc (⟨n,h,[.old 0,.old 1,.old 2],cv j0 (.msl j0)<|cv j0 (.mpt j0)<|cv j0 (.msl j0)<|ce j0 j0<|ce j0 j0<|cn,j0,⟨⟨_,j0,zg (fun _=>j0)⟩,⟨_,j0,zn (ciL j0)⟩,⟨_,j0,zg (fun _=>j0)⟩,j5⟩,j0,j1⟩)
    ·
     replace h:=bF f h
     refine zm ?_
     exact ⟨[84,104,114,111,119,110],h,[.old 0,.old 2,.old 1],cv j0 (.msl j0)<|cv j0 (.mpt j0)<|cv j0 (.msl j0)<|ce j0 j0<|ce j0 j0<|cn,j0,⟨⟨_,j0,zg (fun _=>j0)⟩,⟨_,j0,zn (ciL j0)⟩,⟨_,j0,zg (fun _=>j0)⟩,j5⟩,j0,j1⟩
   ·
    rintro i h
    replace h:zex a c d i=some r:=h
    unfold zex at h
    obtain ⟨q,p,h⟩:=bs h
    refine rl j0<|u<|mv j0<|u<|ld zS j0 j0<|u<|bl 3 zbl j0 zS j0 (by decide) (by decide) j0 j0 j0<|zcj (env0:=[(5,.msl 0 0 (List.length (zaE))),(6,iA ((List.length (zaE)):Int)),(7,iA c),(21,.msl 1 0 (List.length a)),(23,.msl 2 0 (List.length ([(za.mk d i false [] [] [])])))]) (st0:=[some (1,List.map zz (zaE)),some (6,List.map zb a),some (6,List.map zb ([(za.mk d i false [] [] [])]))]) ⟨[.old 2,.old 0,.old 3],cv j0 (.msl j0)<|ce j0 j0<|ce j0 j0<|cv j0 (.msl j0)<|cv j0 (.msl j0)<|cn,j0,⟨⟨_,j0,zg (fun _=>j0)⟩,⟨_,j0,zg (fun _=>j0)⟩,⟨_,j0,zen ⟨⟨(ci j0),(ci j0),(ci j0),(.nil),(.nil),(.nil),j5⟩,j5⟩⟩,j5⟩,j0,j1⟩<|u<|apM 3 zbl j0 zS j0 j0 (by decide) zbl j0 j0 j0 j0 (roM j0) (fun _=>j0) j0 p<|u<|asg j0<|zc ?_
    refine rl j0<|u<|add ti3 j0 j0<|u<|mv j0<|zc ?_
    obtain rfl:=sm h
    exact ⟨_,j0,[.old 3,.old 0],cv j0 (.msl j0)<|cv j0 (.msl j0)<|ce j0 j0<|ce j0 j0<|cn,j0,⟨⟨_,j0,zg (fun _=>j0)⟩,⟨_,j0,zg (fun _=>j0)⟩,j5⟩,j0,j1⟩
  ·
   replace h:=bF e h
   refine zB ?_
   obtain rfl:=sm h
   exact ⟨j0,_,j0,[.old 0],cv j0 (.msl j0)<|cn,j0,⟨⟨_,j0,zg (fun _=>j0)⟩,j5⟩,j0,j1⟩
 ·
  rintro m rfl
  replace h:zgK m=some r:=h
  unfold zgK at h
  refine zx ?_
  refine rg j0<|u<|mv j0<|u<|asg j0<|zc ?_
  refine zp ?_
  obtain rfl:=sm h
  exact ⟨_,j0,[.old 0],.msl j0,j0,⟨⟨_,j0,zg (fun _=>j0)⟩,j5⟩,j0,j1⟩
 ·
  rintro r' rfl env st hp
  obtain rfl:=sm h
  exact hp
def zeL (a:za):Option ((List (List UInt8))) :=
  (zhp 16 [a.Super] a.Impl).bind fun b=>some b
theorem zgJ (a:za) {r:(List (List UInt8))} (h:zeL a=some r):SC Tryz.prog 100 [.agg (zb a)] [] (.msl 0 0 (List.length r)) [.many 1 (List.map zz r)]:=by
 refine ⟨⟨ze9 (sz:=1) (fun _=>j0),j5⟩,za2 Tryz.func100 j0 (by kernel_rfl) j0 ?_⟩
 unfold zeL at h
 refine rg j0<|u<|bx 0 6 j0 j0 j0 j0<|u<|asg j0<|zc ?_
 obtain ⟨c,b,h⟩:=bs h
 refine rg j0<|u<|fa zS j0 j0 j0<|u<|ld ti9 j0 j0<|u<|bl 1 zak j0 ti9 j0 (by decide) (by decide) j0 j0 j0<|u<|fa zS j0 j0 j0<|u<|ld zak j0 j0<|u<|apM (l:=[a.Super]) (f:=zz) 2 zak j0 ti9 j0 j0 (by decide) zak j0 j0 j0 j0 roI (fun _=>j0) j0 b<|u<|asg j0<|zc ?_
 refine zp ?_
 obtain rfl:=sm h
 exact ⟨_,j0,[.old 2],.msl j0,j0,⟨⟨_,j0,zg (fun _=>j0)⟩,j5⟩,j0,j1⟩
def zbw (c:List za) (a:List (List UInt8×Int)) (b:List UInt8):Bool :=
  (Option.isSome (zw b a))
theorem zfb (b:List za) (a:List (List UInt8×Int)) (c:List UInt8) {r:Bool} (h:zbw b a c=r):zF Tryz.prog 102 [.ipt 2 [[.isl 6 (List.map zb b),.imp (List.map (rKV (fun x=>iA x)) a)]] 0 0,sA c] (bA r):=by
 refine zr Tryz.func102 j0 (by kernel_rfl) j0 j0 ?_
 unfold zbw at h
 refine rg j0<|u<|asg j0<|zc ?_
 refine zl ?_
 refine rg j0<|u<|mv j0<|u<|eqp zjm j0 j0 j0 j0 j0 j0<|zc ?_
 refine zk j0 (fun hx=>by cases hx) (fun _=>?_)
 refine zm ?_
 refine rg j0<|u<|mv j0<|u<|nc j0 j0<|u<|fa zjh j0 j0 j0<|u<|ld zjg j0 j0<|u<|mv j0<|u<|zt5 (g:=(fun x=>iA x)) (z:=0) (l:=a) j0 ti3 j0 j0 j0 j0<|u<|mv j0<|u<|ex j0 j0<|u<|ex j0 j0<|u<|asg j0<|u<|asg j0<|zc ?_
 refine rg j0<|u<|mv j0<|u<|asg j0<|zc ?_
 refine zp ?_
 obtain rfl:=h
 exact ⟨_,j0,[],ci j0,j0,j5,j0,j1⟩
def zhX (a:List UInt8) (b:List za) (c:List (List UInt8×Int)):Bool :=
  (!(zbw b c a))
theorem zlX (a:List UInt8) (b:List za) (c:List (List UInt8×Int)) {r:Bool} (h:zhX a b c=r):zF Tryz.prog 101 [sA a,.ipt 1 [[.ipt 2 [[.isl 6 (List.map zb b),.imp (List.map (rKV (fun x=>iA x)) c)]] 0 0]] 0 0] (bA r):=by
 refine zr Tryz.func101 j0 (by kernel_rfl) j0 j0 ?_
 unfold zhX at h
 refine rg j0<|u<|asg j0<|zc ?_
 refine rg j0<|u<|ld zjm j0 j0<|u<|mv j0<|u<|pc (zfb b c a j0) j0 j0 j0<|u<|nt j0<|u<|asg j0<|zc ?_
 refine zp ?_
 obtain rfl:=h
 exact ⟨_,j0,[],ci j0,j0,j5,j0,j1⟩
def zaA:Option (Int) :=
  some (-1)
def zO (b:List (List UInt8)) (c:List za) (d:List (List UInt8×Int)) (a:Int):Option (Sum (Int) (Sum (Unit) (Int))) :=
  cond (decide (a < (List.length b:Int))) ((idx b a).bind fun e=>cond (zhX e c d) (some (.inr (.inr a))) (some (.inl (IntKind.i64.wrap (a+1))))) (some (.inr (.inl ())))
def zaO (a:List (List UInt8)) (c:List za) (d:List (List UInt8×Int)):Option (Int) :=
  (zu (fun z=>zO a c d z) 0).bind fun o=>zQ o (fun b=>zaA) some
theorem zd0 (a:List (List UInt8)) (c:List za) (d:List (List UInt8×Int)) {r:Int} (h:zaO a c d=some r):zF Tryz.prog 181 [.isl 1 (List.map zz a),.fn (.func 101) [] [.ipt 1 [[.ipt 2 [[.isl 6 (List.map zb c),.imp (List.map (rKV (fun x=>iA x)) d)]] 0 0]] 0 0]] (iA r):=by
 refine zr Tryz.func181 j0 (by kernel_rfl) j0 j0 ?_
 unfold zaO at h
 refine rg j0<|u<|asg j0<|zc ?_
 refine zl ?_
 refine rg j0<|u<|mv j0<|u<|lnI zak j0 j0<|u<|mv j0<|zc ?_
 obtain ⟨o,ho,h⟩:=bs h
 refine zU (X:=Int) (B:=Unit) (R:=Int) (fun z=>[(0,.isl 1 (List.map zz a)),(1,.fn (.func 101) [] [.ipt 1 [[.ipt 2 [[.isl 6 (List.map zb c),.imp (List.map (rKV (fun x=>iA x)) d)]] 0 0]] 0 0]),(7,iA (List.length a:Int)),(8,iA z)]) (fun z=>[]) (fun b=>[]) (fun b=>[]) (fun r env st=>zaD Tryz.prog Tryz.f181 0 (iA r) [] env st) ho ⟨[],ce j0 j0<|ce j0 j0<|ce j0 j0<|ce j0 j0<|cn,j0,j5,j0,j1⟩ ?_ ?_ ?_
 ·
  rintro j r h
  replace h:zO a c d j=some r:=h
  unfold zO at h
  refine rg j0<|u<|lss ti3 j0 j0<|zc ?_
  refine zl ?_
  refine zk j0 (fun e=>?_) (fun e=>?_)
  ·
   replace h:=bT e h
   refine zm ?_
   refine zl ?_
   refine zs ?_
   refine rg j0<|u<|mv j0<|u<|asg j0<|zc ?_
   obtain ⟨l,i,h⟩:=bs h
   refine rg j0<|u<|mv j0<|u<|mv j0<|u<|mv j0<|u<|ixI zak j0 ti9 j0 j0 j0 i<|u<|ldI ti9 j0 (zo i).2.2 j0<|u<|pc (zlX l c d j0) j0 j0 j0<|zc ?_
   refine zk j0 (fun f=>?_) (fun f=>?_)
   ·
    replace h:=bT f h
    refine rg j0<|u<|mv j0<|u<|asg j0<|zc ?_
    refine zp ?_
    obtain rfl:=sm h
    exact ⟨_,j0,_,j0,[],ci j0,j0,j5,j0,j1⟩
   ·
    replace h:=bF f h
    refine zm ?_
    refine rl j0<|u<|add ti3 j0 j0<|u<|mv j0<|zc ?_
    obtain rfl:=sm h
    exact ⟨_,j0,[],ce j0 j0<|ce j0 j0<|ce j0 j0<|ce j0 j0<|cn,j0,j5,j0,j1⟩
  ·
   replace h:=bF e h
   refine zB ?_
   obtain rfl:=sm h
   exact ⟨j0,_,j0,[],cn,j0,j5,j0,j1⟩
 ·
  rintro ⟨⟩ rfl
  replace h:zaA=some r:=h
  unfold zaA at h
  refine zx ?_
  refine rg j0<|u<|asg j0<|zc ?_
  refine zp ?_
  obtain rfl:=sm h
  exact ⟨_,j0,[],ci j0,j0,j5,j0,j1⟩
 ·
  rintro r' rfl env st hp
  obtain rfl:=sm h
  exact hp
def z6 (a:List (List UInt8)) (b:List za) (c:List (List UInt8×Int)):Option (Bool) :=
  (zaO a b c).bind fun d=>some (decide (0≤d))
theorem zdz (a:List (List UInt8)) (b:List za) (c:List (List UInt8×Int)) {r:Bool} (h:z6 a b c=some r):zF Tryz.prog 99 [.isl 1 (List.map zz a),.fn (.func 101) [] [.ipt 1 [[.ipt 2 [[.isl 6 (List.map zb b),.imp (List.map (rKV (fun x=>iA x)) c)]] 0 0]] 0 0]] (bA r):=by
 refine zr Tryz.func99 j0 (by kernel_rfl) j0 j0 ?_
 unfold z6 at h
 refine rg j0<|u<|asg j0<|zc ?_
 obtain ⟨e,d,h⟩:=bs h
 refine rg j0<|u<|mv j0<|u<|mv j0<|u<|pc (zd0 a b c d) j0 j0 j0<|u<|geq ti3 j0 j0<|u<|asg j0<|zc ?_
 refine zp ?_
 obtain rfl:=sm h
 exact ⟨_,j0,[],ci j0,j0,j5,j0,j1⟩
def zbv (a:List za) (b:List (List UInt8×Int)) (c:List UInt8):Option (za) :=
  (idx a (Option.getD (zw c b) 0)).bind fun d=>some d
theorem zcN (b:List za) (a:List (List UInt8×Int)) (c:List UInt8) {r:za} (h:zbv b a c=some r):zF Tryz.prog 182 [.ipt 2 [[.isl 6 (List.map zb b),.imp (List.map (rKV (fun x=>iA x)) a)]] 0 0,sA c] (.agg (zb r)):=by
 refine zr Tryz.func182 j0 (by kernel_rfl) j0 j0 ?_
 unfold zbv at h
 refine rg j0<|u<|al 0 zS j0<|zc ?_
 obtain ⟨d,e,h⟩:=bs h
 refine rd [(4,.mpt 0 0 0)] [some (6,[(zb d)])] [12] [11,10,9,8,7,6,5,4,3,2,1,0] [(16,.agg (zb d)),(15,.ipt 6 (List.map zb b) (Int.toNat (Option.getD (zw c a) 0)) 0),(14,iA (Option.getD (zw c a) 0)),(13,sA c),(12,.imp (List.map (rKV (fun x=>iA x)) a)),(11,.ipt 2 [[.isl 6 (List.map zb b),.imp (List.map (rKV (fun x=>iA x)) a)]] 0 1),(10,.ipt 2 [[.isl 6 (List.map zb b),.imp (List.map (rKV (fun x=>iA x)) a)]] 0 0),(9,.ipt 2 [[.isl 6 (List.map zb b),.imp (List.map (rKV (fun x=>iA x)) a)]] 0 0),(8,.isl 6 (List.map zb b)),(7,.ipt 2 [[.isl 6 (List.map zb b),.imp (List.map (rKV (fun x=>iA x)) a)]] 0 0),(6,.ipt 2 [[.isl 6 (List.map zb b),.imp (List.map (rKV (fun x=>iA x)) a)]] 0 0),(5,.ipt 2 [[.isl 6 (List.map zb b),.imp (List.map (rKV (fun x=>iA x)) a)]] 0 0)] 1 (by kernel_rfl) (by kernel_rfl) j0 (by kernel_rfl) (dtS ⟨(fun _=>pa j0 j0 j0 j0 (ldI zS j0 (zo e).2.2 j0<|j4)),(fun _=>pa j0 j0 j0 j0 (ixI zbl j0 zS j0 j0 j0 e<|j4)),(fun _=>pa j0 j0 j0 j0 (zsq (g:=(fun x=>iA x)) (z:=0) (l:=a) j0 ti3 j0 j0 j0 j0<|j4)),(fun _=>pa j0 j0 j0 j0 (mv j0<|j4)),(fun _=>pa j0 j0 j0 j0 (ld zjg j0 j0<|j4)),(fun _=>pa j0 j0 j0 j0 (fa zjh j0 j0 j0<|j4)),(fun _=>pa j0 j0 j0 j0 (nc j0 j0<|j4)),(fun _=>pa j0 j0 j0 j0 (mv j0<|j4)),(fun _=>pa j0 j0 j0 j0 (ld zbl j0 j0<|j4)),(fun _=>pa j0 j0 j0 j0 (fa zjh j0 j0 j0<|j4)),(fun _=>pa j0 j0 j0 j0 (nc j0 j0<|j4)),(fun _=>pa j0 j0 j0 j0 (mv j0<|j4)),j5⟩ (by kernel_rfl) j0 ⟨(fun _ _=>⟨_,j0,j0,sto zS j0 j0 j0<|⟨.any,[],[],j0,j0,by kernel_rfl,j5,dt0 ⟨(fun h=>by cases h),(fun h=>by cases h),(fun h=>by cases h),(fun h=>by cases h),(fun h=>by cases h),(fun h=>by cases h),(fun h=>by cases h),(fun h=>by cases h),(fun h=>by cases h),(fun h=>by cases h),(fun h=>by cases h),(fun h=>by cases h),j5⟩ (by kernel_rfl) j0 ⟨[.old 0],cv j0 (.mpt j0)<|cn,j0,⟨⟨_,j0,zn (ciL j0)⟩,j5⟩,j0,j1⟩⟩⟩),j5⟩) ?_
 refine zp ?_
 obtain rfl:=sm h
 exact ⟨_,j0,[],ci j0,j0,j5,j0,j1⟩
def zd3 (a:List UInt8) (b:List za) (c:List (List UInt8×Int)):Option (Bool) :=
  (zbv b c a).bind fun d=>some (!d.Interface)
theorem zio (a:List UInt8) (b:List za) (c:List (List UInt8×Int)) {r:Bool} (h:zd3 a b c=some r):zF Tryz.prog 183 [sA a,.ipt 1 [[.ipt 2 [[.isl 6 (List.map zb b),.imp (List.map (rKV (fun x=>iA x)) c)]] 0 0]] 0 0] (bA r):=by
 refine zr Tryz.func183 j0 (by kernel_rfl) j0 j0 ?_
 unfold zd3 at h
 refine rg j0<|u<|asg j0<|zc ?_
 obtain ⟨e,d,h⟩:=bs h
 refine rg j0<|u<|ld zjm j0 j0<|u<|mv j0<|u<|pc (zcN b c a d) j0 j0 j0<|u<|fdV j0 j0<|u<|nt j0<|u<|asg j0<|zc ?_
 refine zp ?_
 obtain rfl:=sm h
 exact ⟨_,j0,[],ci j0,j0,j5,j0,j1⟩
def zaB:Option (Int) :=
  some (-1)
def zP (b:List (List UInt8)) (c:List za) (d:List (List UInt8×Int)) (a:Int):Option (Sum (Int) (Sum (Unit) (Int))) :=
  cond (decide (a < (List.length b:Int))) ((idx b a).bind fun e=>(zd3 e c d).bind fun f=>cond f (some (.inr (.inr a))) (some (.inl (IntKind.i64.wrap (a+1))))) (some (.inr (.inl ())))
def zaP (a:List (List UInt8)) (c:List za) (d:List (List UInt8×Int)):Option (Int) :=
  (zu (fun z=>zP a c d z) 0).bind fun o=>zQ o (fun b=>zaB) some
theorem zd1 (a:List (List UInt8)) (c:List za) (d:List (List UInt8×Int)) {r:Int} (h:zaP a c d=some r):zF Tryz.prog 181 [.isl 1 (List.map zz a),.fn (.func 183) [] [.ipt 1 [[.ipt 2 [[.isl 6 (List.map zb c),.imp (List.map (rKV (fun x=>iA x)) d)]] 0 0]] 0 0]] (iA r):=by
 refine zr Tryz.func181 j0 (by kernel_rfl) j0 j0 ?_
 unfold zaP at h
 refine rg j0<|u<|asg j0<|zc ?_
 refine zl ?_
 refine rg j0<|u<|mv j0<|u<|lnI zak j0 j0<|u<|mv j0<|zc ?_
 obtain ⟨o,ho,h⟩:=bs h
 refine zU (X:=Int) (B:=Unit) (R:=Int) (fun z=>[(0,.isl 1 (List.map zz a)),(1,.fn (.func 183) [] [.ipt 1 [[.ipt 2 [[.isl 6 (List.map zb c),.imp (List.map (rKV (fun x=>iA x)) d)]] 0 0]] 0 0]),(7,iA (List.length a:Int)),(8,iA z)]) (fun z=>[]) (fun b=>[]) (fun b=>[]) (fun r env st=>zaD Tryz.prog Tryz.f181 0 (iA r) [] env st) ho ⟨[],ce j0 j0<|ce j0 j0<|ce j0 j0<|ce j0 j0<|cn,j0,j5,j0,j1⟩ ?_ ?_ ?_
 ·
  rintro j r h
  replace h:zP a c d j=some r:=h
  unfold zP at h
  refine rg j0<|u<|lss ti3 j0 j0<|zc ?_
  refine zl ?_
  refine zk j0 (fun e=>?_) (fun e=>?_)
  ·
   replace h:=bT e h
   refine zm ?_
   refine zl ?_
   refine zs ?_
   refine rg j0<|u<|mv j0<|u<|asg j0<|zc ?_
   obtain ⟨l,i,h⟩:=bs h
   obtain ⟨n,m,h⟩:=bs h
   refine rg j0<|u<|mv j0<|u<|mv j0<|u<|mv j0<|u<|ixI zak j0 ti9 j0 j0 j0 i<|u<|ldI ti9 j0 (zo i).2.2 j0<|u<|pc (zio l c d m) j0 j0 j0<|zc ?_
   refine zk j0 (fun f=>?_) (fun f=>?_)
   ·
    replace h:=bT f h
    refine rg j0<|u<|mv j0<|u<|asg j0<|zc ?_
    refine zp ?_
    obtain rfl:=sm h
    exact ⟨_,j0,_,j0,[],ci j0,j0,j5,j0,j1⟩
   ·
    replace h:=bF f h
    refine zm ?_
    refine rl j0<|u<|add ti3 j0 j0<|u<|mv j0<|zc ?_
    obtain rfl:=sm h
    exact ⟨_,j0,[],ce j0 j0<|ce j0 j0<|ce j0 j0<|ce j0 j0<|cn,j0,j5,j0,j1⟩
  ·
   replace h:=bF e h
   refine zB ?_
   obtain rfl:=sm h
   exact ⟨j0,_,j0,[],cn,j0,j5,j0,j1⟩
 ·
  rintro ⟨⟩ rfl
  replace h:zaB=some r:=h
  unfold zaB at h
  refine zx ?_
  refine rg j0<|u<|asg j0<|zc ?_
  refine zp ?_
  obtain rfl:=sm h
  exact ⟨_,j0,[],ci j0,j0,j5,j0,j1⟩
 ·
  rintro r' rfl env st hp
  obtain rfl:=sm h
  exact hp
def z7 (a:List (List UInt8)) (b:List za) (c:List (List UInt8×Int)):Option (Bool) :=
  (zaP a b c).bind fun d=>some (decide (0≤d))
theorem zdA (a:List (List UInt8)) (b:List za) (c:List (List UInt8×Int)) {r:Bool} (h:z7 a b c=some r):zF Tryz.prog 99 [.isl 1 (List.map zz a),.fn (.func 183) [] [.ipt 1 [[.ipt 2 [[.isl 6 (List.map zb b),.imp (List.map (rKV (fun x=>iA x)) c)]] 0 0]] 0 0]] (bA r):=by
 refine zr Tryz.func99 j0 (by kernel_rfl) j0 j0 ?_
 unfold z7 at h
 refine rg j0<|u<|asg j0<|zc ?_
 obtain ⟨e,d,h⟩:=bs h
 refine rg j0<|u<|mv j0<|u<|mv j0<|u<|pc (zd1 a b c d) j0 j0 j0<|u<|geq ti3 j0 j0<|u<|asg j0<|zc ?_
 refine zp ?_
 obtain rfl:=sm h
 exact ⟨_,j0,[],ci j0,j0,j5,j0,j1⟩
def zew:Option (Bool) :=
  some true
def zdD (a:Int) (b:List (List UInt8)):Option (Sum ((List (List UInt8))×Int) (Sum (Unit) (Bool))) :=
  some (.inl (b,(IntKind.i64.wrap (a+1))))
def zbS (a:Int) (b:List (List UInt8)):Option (Sum ((List (List UInt8))×Int) (Sum ((List (List UInt8))) (Bool))) :=
  some (.inl (b,(IntKind.i64.wrap (a+1))))
def za7 (d:(List (List UInt8))) (a:List (List UInt8)) (b:Int):Option (Sum ((List (List UInt8))×Int) (Sum ((List (List UInt8))) (Bool))) :=
  cond (decide (b < ((List.length d):Int))) ((idx d b).bind fun c=>(cond (!(c == [])) ((zZ a c).bind fun e=>some (!e)) (some false)).bind fun f=>cond f ((zhp 16 a [c]).bind fun i=>zbS b i) (zbS b a)) (some (.inr (.inl a)))
def zaW (j:List za) (l:List (List UInt8×Int)) (m:za) (a:List (List UInt8)) (c:Int):Option (Sum ((List (List UInt8))×Int) (Sum (Unit) (Bool))) :=
  cond (decide (c < ((List.length a):Int))) ((idx a c).bind fun d=>cond (d == m.Name) (some (.inr (.inr false))) ((idx a c).bind fun e=>(zbv j l e).bind fun f=>(zeL f).bind fun i=>(zu (fun z=>za7 i z.1 z.2) (a,0)).bind fun o=>zQ o (fun b=>zdD c b) (fun r=>some (.inr (.inr r))))) (some (.inr (.inl ())))
def zcS (c:List za) (d:List (List UInt8×Int)) (a:za):Option (Bool) :=
  (zbv c d a.Super).bind fun e=>(cond e.Interface (some true) ((z7 a.Impl c d).bind fun f=>some f)).bind fun i=>cond i (some false) ((zeL a).bind fun j=>(zu (fun z=>zaW c d a z.1 z.2) (j,0)).bind fun o=>zQ o (fun b=>zew) some)
theorem zjs (e:List za) (i:List (List UInt8×Int)) (d:za) {r:Bool} (h:zcS e i d=some r):zF Tryz.prog 103 [.ipt 2 [[.isl 6 (List.map zb e),.imp (List.map (rKV (fun x=>iA x)) i)]] 0 0,.agg (zb d)] (bA r):=by
 refine zr Tryz.func103 j0 (by kernel_rfl) j0 j0 ?_
 unfold zcS at h
 refine rg j0<|u<|bx 0 1 j0 j0 j0 j0<|u<|bx 1 6 j0 j0 j0 j0<|u<|asg j0<|zc ?_
 refine zl ?_
 obtain ⟨v4,Z,h⟩:=bs h
 obtain ⟨v6,F,h⟩:=bs h
 refine rg j0<|u<|ld zjm j0 j0<|u<|fa zS j0 j0 j0<|u<|ld ti9 j0 j0<|u<|pc (zcN e i d.Super Z) j0 j0 j0<|u<|fdV j0 j0<|u<|mv j0<|zdf (x:=v6) (j:=5) 4 j0 j0 j0 j0 j0 gpn (fun p=>by replace F:=bF p F; obtain ⟨v5,q3,F⟩:=bs F; obtain rfl:=sm F; exact g j0 p<|fa zS j0 j0 j0<|g j0 p<|ld zak j0 j0<|g j0 p<|mf j0 j0<|g j0 p<|pcs (zdA d.Impl e i q3) j0 j0 (.cons (si j0) (.cons (zif j5 ⟨(zbM j0 ⟨(si j0),j5⟩),j5⟩) .nil)) zek<|zc (eg [15,16,17,18] 4 j0 j0 j0 j0)) (fun hb=>(sm (bT hb F)).symm)<|zc ?_
 refine zk j0 (fun G=>?_) (fun G=>?_)
 ·
  replace h:=bT G h
  refine rg j0<|u<|asg j0<|zc ?_
  refine zp ?_
  obtain rfl:=sm h
  exact ⟨_,j0,[],ci j0,j0,j5,j0,j1⟩
 ·
  replace h:=bF G h
  refine zm ?_
  obtain ⟨O,q6,h⟩:=bs h
  refine rg j0<|u<|ld zS j0 j0<|u<|sc [] (zgJ d q6) j0 j0 j0 j0 ⟨(rnI j0),j5⟩ j5<|zcj (env0:=[(2,.mpt 0 0 0),(3,.mpt 1 0 0),(21,.msl 2 0 (List.length O))]) (st0:=[some (1,[[.ipt 2 [[.isl 6 (List.map zb e),.imp (List.map (rKV (fun x=>iA x)) i)]] 0 0]]),some (6,[(zb d)]),some (1,List.map zz O)]) ⟨[.old 0,.old 1,.old 2],cv j0 (.mpt j0)<|cv j0 (.mpt j0)<|cv j0 (.msl j0)<|cn,j0,⟨⟨_,j0,zn ⟨ci j0,j5⟩⟩,⟨_,j0,zn (ciL j0)⟩,⟨_,j0,zg (fun _=>j0)⟩,j5⟩,j0,j1⟩<|u<|asg j0<|zc ?_
  refine zl ?_
  refine rg j0<|u<|asg j0<|zc ?_
  obtain ⟨o,ho,h⟩:=bs h
  refine zU (X:=(List (List UInt8))×Int) (B:=Unit) (R:=Bool) (fun z=>[(2,.mpt 0 0 0),(3,.mpt 1 0 0),(5,.msl 2 0 (List.length z.1)),(6,iA z.2)]) (fun z=>[some (1,[[.ipt 2 [[.isl 6 (List.map zb e),.imp (List.map (rKV (fun x=>iA x)) i)]] 0 0]]),some (6,[(zb d)]),some (1,List.map zz z.1)]) (fun b=>[]) (fun b=>[]) (fun r env st=>zaD Tryz.prog Tryz.f103 0 (bA r) [] env st) ho ⟨[.old 0,.old 1,.old 2],cv j0 (.mpt j0)<|cv j0 (.mpt j0)<|cv j0 (.msl j0)<|ce j0 j0<|cn,j0,⟨⟨_,j0,zn ⟨ci j0,j5⟩⟩,⟨_,j0,zn (ciL j0)⟩,⟨_,j0,zg (fun _=>j0)⟩,j5⟩,j0,j1⟩ ?_ ?_ ?_
  ·
   rintro ⟨l,c⟩ r h
   replace h:zaW e i d l c=some r:=h
   unfold zaW at h
   refine zl ?_
   refine rg j0<|u<|mv j0<|u<|mv j0<|u<|lnM zak j0 j0 j0<|u<|lss ti3 j0 j0<|zc ?_
   refine zk j0 (fun q=>?_) (fun q=>?_)
   ·
    replace h:=bT q h
    refine zm ?_
    refine zl ?_
    refine zs ?_
    refine zl ?_
    obtain ⟨H,J,h⟩:=bs h
    refine rd [(2,.mpt 0 0 0),(3,.mpt 1 0 0),(5,.msl 2 0 (List.length l)),(6,iA c),(34,bA (H == d.Name))] [some (1,[[.ipt 2 [[.isl 6 (List.map zb e),.imp (List.map (rKV (fun x=>iA x)) i)]] 0 0]]),some (6,[(zb d)]),some (1,List.map zz l)] [] [6,5,4,3,2,1,0] [(34,bA (H == d.Name)),(33,sA d.Name),(32,.mpt 1 0 0),(31,sA H),(30,.mpt 2 (Int.toNat c) 0),(29,iA c),(28,.msl 2 0 (List.length l))] 0 (by kernel_rfl) (by kernel_rfl) j0 (by kernel_rfl) (dt0 ⟨(fun _=>pa j0 j0 j0 j0 (seq ti9 j0 j0<|j4)),(fun _=>pa j0 j0 j0 j0 (ld ti9 j0 j0<|j4)),(fun _=>pa j0 j0 j0 j0 (fa zS j0 j0 j0<|j4)),(fun _=>pa j0 j0 j0 j0 (ldM ti9 j0 j0 (zo J).2.2 j0<|j4)),(fun _=>pa j0 j0 j0 j0 (ixM zak j0 ti9 j0 j0 j0 j0 J<|j4)),(fun _=>pa j0 j0 j0 j0 (mv j0<|j4)),(fun _=>pa j0 j0 j0 j0 (mv j0<|j4)),j5⟩ (by kernel_rfl) j0 ⟨[.old 0,.old 1,.old 2],cv j0 (.mpt j0)<|cv j0 (.mpt j0)<|cv j0 (.msl j0)<|ce j0 j0<|ce j0 j0<|cn,j0,⟨⟨_,j0,zn ⟨ci j0,j5⟩⟩,⟨_,j0,zn (ciL j0)⟩,⟨_,j0,zg (fun _=>j0)⟩,j5⟩,j0,j1⟩) ?_
    refine zk j0 (fun s=>?_) (fun s=>?_)
    ·
     replace h:=bT s h
     refine rg j0<|u<|asg j0<|zc ?_
     refine zp ?_
     obtain rfl:=sm h
     exact ⟨_,j0,_,j0,[],ci j0,j0,j5,j0,j1⟩
    ·
     replace h:=bF s h
     refine zm ?_
     obtain ⟨K,D,h⟩:=bs h
     obtain ⟨L,P,h⟩:=bs h
     obtain ⟨a,Q,h⟩:=bs h
     refine rd [(2,.mpt 0 0 0),(3,.mpt 1 0 0),(5,.msl 2 0 (List.length l)),(6,iA c),(41,.msl 3 0 (List.length a)),(42,iA ((List.length a):Int)),(43,iA 0)] [some (1,[[.ipt 2 [[.isl 6 (List.map zb e),.imp (List.map (rKV (fun x=>iA x)) i)]] 0 0]]),some (6,[(zb d)]),some (1,List.map zz l),some (1,List.map zz a)] [6] [8,5,4,3,2,1,0] [(43,iA 0),(40,.agg (zb L)),(39,sA K),(38,.mpt 2 (Int.toNat c) 0),(37,iA c),(36,.msl 2 0 (List.length l)),(35,.ipt 2 [[.isl 6 (List.map zb e),.imp (List.map (rKV (fun x=>iA x)) i)]] 0 0)] 1 (by kernel_rfl) (by kernel_rfl) j0 (by kernel_rfl) (dtS ⟨(fun _=>pa j0 j0 j0 j0 (mv j0<|j4)),(fun _=>pa j0 j0 j0 j0 (pc (zcN e i K P) j0 j0 j0<|j4)),(fun _=>pa j0 j0 j0 j0 (ldM ti9 j0 j0 (zo D).2.2 j0<|j4)),(fun _=>pa j0 j0 j0 j0 (ixM zak j0 ti9 j0 j0 j0 j0 D<|j4)),(fun _=>pa j0 j0 j0 j0 (mv j0<|j4)),(fun _=>pa j0 j0 j0 j0 (mv j0<|j4)),(fun _=>pa j0 j0 j0 j0 (ld zjm j0 j0<|j4)),j5⟩ (by kernel_rfl) j0 ⟨(fun _ _=>⟨_,j0,j0,sc [] (zgJ L Q) j0 j0 j0 j0 ⟨(rnI j0),j5⟩ j5<|⟨(.msl 3 0 (List.length a)),[7],[(42,iA ((List.length a):Int)),(41,.msl 3 0 (List.length a))],j0,j0,by kernel_rfl,j0,dt0 ⟨(fun _=>pa j0 j0 j0 j0 (lnM zak j0 j0 j0<|j4)),(fun _=>pa j0 j0 j0 j0 (mv j0<|j4)),(fun h=>by cases h),(fun _=>pa j0 j0 j0 j0 (ldM ti9 j0 j0 (zo D).2.2 j0<|j4)),(fun _=>pa j0 j0 j0 j0 (ixM zak j0 ti9 j0 j0 j0 j0 D<|j4)),(fun _=>pa j0 j0 j0 j0 (mv j0<|j4)),(fun _=>pa j0 j0 j0 j0 (mv j0<|j4)),(fun _=>pa j0 j0 j0 j0 (ld zjm j0 j0<|j4)),j5⟩ (by kernel_rfl) j0 ⟨[.old 0,.old 1,.old 2,.old 3],cv j0 (.mpt j0)<|cv j0 (.mpt j0)<|cv j0 (.msl j0)<|ce j0 j0<|cv j0 (.msl j0)<|ce j0 j0<|ce j0 j0<|cn,j0,⟨⟨_,j0,zn ⟨ci j0,j5⟩⟩,⟨_,j0,zn (ciL j0)⟩,⟨_,j0,zg (fun _=>j0)⟩,⟨_,j0,zg (fun _=>j0)⟩,j5⟩,j0,j1⟩⟩⟩),j5⟩) ?_
     obtain ⟨o,ho,h⟩:=bs h
     refine zU (X:=(List (List UInt8))×Int) (B:=(List (List UInt8))) (R:=Bool) (fun z=>[(2,.mpt 0 0 0),(3,.mpt 1 0 0),(5,.msl 2 0 (List.length z.1)),(6,iA c),(41,.msl 3 0 (List.length a)),(42,iA ((List.length a):Int)),(43,iA z.2)]) (fun z=>[some (1,[[.ipt 2 [[.isl 6 (List.map zb e),.imp (List.map (rKV (fun x=>iA x)) i)]] 0 0]]),some (6,[(zb d)]),some (1,List.map zz z.1),some (1,List.map zz a)]) (fun b=>[(2,.mpt 0 0 0),(3,.mpt 1 0 0),(5,.msl 2 0 (List.length b)),(6,iA c)]) (fun b=>[some (1,[[.ipt 2 [[.isl 6 (List.map zb e),.imp (List.map (rKV (fun x=>iA x)) i)]] 0 0]]),some (6,[(zb d)]),some (1,List.map zz b)]) (fun r env st=>zaD Tryz.prog Tryz.f103 0 (bA r) [] env st) ho ⟨[.old 0,.old 1,.old 2,.old 3],cv j0 (.mpt j0)<|cv j0 (.mpt j0)<|cv j0 (.msl j0)<|ce j0 j0<|cv j0 (.msl j0)<|ce j0 j0<|ce j0 j0<|cn,j0,⟨⟨_,j0,zn ⟨ci j0,j5⟩⟩,⟨_,j0,zn (ciL j0)⟩,⟨_,j0,zg (fun _=>j0)⟩,⟨_,j0,zg (fun _=>j0)⟩,j5⟩,j0,j1⟩ ?_ ?_ ?_
     ·
      rintro ⟨I,E⟩ r h
      replace h:za7 a I E=some r:=h
      unfold za7 at h
      refine rg j0<|u<|lss ti3 j0 j0<|zc ?_
      refine zl ?_
      refine zk j0 (fun v=>?_) (fun v=>?_)
      ·
       replace h:=bT v h
       refine zm ?_
       refine zb3 (X:=(List (List UInt8))) (fun z=>[(2,.mpt 0 0 0),(3,.mpt 1 0 0),(5,.msl 2 0 (List.length z)),(6,iA c),(41,.msl 3 0 (List.length a)),(42,iA ((List.length a):Int)),(43,iA E)]) (fun z=>[some (1,[[.ipt 2 [[.isl 6 (List.map zb e),.imp (List.map (rKV (fun x=>iA x)) i)]] 0 0]]),some (6,[(zb d)]),some (1,List.map zz z),some (1,List.map zz a)]) (fun z=>zbS E z=some r) ?_ ?_
       ·
        refine zs ?_
        obtain ⟨M,N,h⟩:=bs h
        refine rg j0<|u<|ixM zak j0 ti9 j0 j0 j0 j0 N<|u<|ldM ti9 j0 j0 (zo N).2.2 j0<|u<|asg j0<|zc ?_
        obtain ⟨S,n,h⟩:=bs h
        refine rg j0<|u<|mv j0<|u<|sne ti9 j0 j0<|u<|mv j0<|z2 (x:=S) (j:=2) 4 j0 j0 j0 j0 j0 gpn (fun m=>by replace n:=bT m n; obtain ⟨v45,T,n⟩:=bs n; obtain rfl:=sm n; exact g j0 m<|mv j0<|g j0 m<|mv j0<|g j0 m<|pcs (zcv I M T) j0 j0 (.cons (ziz j0 (fun _=>j0)) (.cons (si j0) .nil)) zek<|g j0 m<|nt j0<|zc (eg [50,51,52,53] 4 j0 j0 j0 j0)) (fun hb=>(sm (bF hb n)).symm)<|zc ?_
        refine zk j0 (fun C=>?_) (fun C=>?_)
        ·
         replace h:=bT C h
         obtain ⟨U,V,h⟩:=bs h
         exact rl j0<|u<|mv j0<|u<|mv j0<|u<|bl 4 zak j0 ti9 j0 (by decide) (by decide) j0 j0 j0<|u<|apM 5 zak j0 ti9 j0 j0 (by decide) zak j0 j0 j0 j0 (roX (f:=zz) (z:=[M]) j0 j0) (fun _=>j0) j0 V<|u<|asg j0<|zc (⟨U,h,[.old 0,.old 1,.old 5,.old 3],cv j0 (.mpt j0)<|cv j0 (.mpt j0)<|cv j0 (.msl j0)<|ce j0 j0<|cv j0 (.msl j0)<|ce j0 j0<|ce j0 j0<|cn,j0,⟨⟨_,j0,zn ⟨ci j0,j5⟩⟩,⟨_,j0,zn (ciL j0)⟩,⟨_,j0,zg (fun _=>j0)⟩,⟨_,j0,zg (fun _=>j0)⟩,j5⟩,j0,j1⟩)
        ·
         replace h:=bF C h
         refine zm ?_
         exact ⟨I,h,[.old 0,.old 1,.old 2,.old 3],cv j0 (.mpt j0)<|cv j0 (.mpt j0)<|cv j0 (.msl j0)<|ce j0 j0<|cv j0 (.msl j0)<|ce j0 j0<|ce j0 j0<|cn,j0,⟨⟨_,j0,zn ⟨ci j0,j5⟩⟩,⟨_,j0,zn (ciL j0)⟩,⟨_,j0,zg (fun _=>j0)⟩,⟨_,j0,zg (fun _=>j0)⟩,j5⟩,j0,j1⟩
       ·
        rintro W h
        replace h:zbS E W=some r:=h
        unfold zbS at h
        refine rl j0<|u<|add ti3 j0 j0<|u<|mv j0<|zc ?_
        obtain rfl:=sm h
        exact ⟨_,j0,[.old 0,.old 1,.old 2,.old 3],cv j0 (.mpt j0)<|cv j0 (.mpt j0)<|cv j0 (.msl j0)<|ce j0 j0<|cv j0 (.msl j0)<|ce j0 j0<|ce j0 j0<|cn,j0,⟨⟨_,j0,zn ⟨ci j0,j5⟩⟩,⟨_,j0,zn (ciL j0)⟩,⟨_,j0,zg (fun _=>j0)⟩,⟨_,j0,zg (fun _=>j0)⟩,j5⟩,j0,j1⟩
      ·
       replace h:=bF v h
       refine zB ?_
       obtain rfl:=sm h
       exact ⟨j0,_,j0,[.old 0,.old 1,.old 2],cv j0 (.mpt j0)<|cv j0 (.mpt j0)<|cv j0 (.msl j0)<|ce j0 j0<|cn,j0,⟨⟨_,j0,zn ⟨ci j0,j5⟩⟩,⟨_,j0,zn (ciL j0)⟩,⟨_,j0,zg (fun _=>j0)⟩,j5⟩,j0,j1⟩
     ·
      rintro Y rfl
      replace h:zdD c Y=some r:=h
      unfold zdD at h
      refine zx ?_
      refine rl j0<|u<|mv j0<|u<|add ti3 j0 j0<|u<|asg j0<|zc ?_
      obtain rfl:=sm h
      exact ⟨_,j0,[.old 0,.old 1,.old 2],cv j0 (.mpt j0)<|cv j0 (.mpt j0)<|cv j0 (.msl j0)<|ce j0 j0<|cn,j0,⟨⟨_,j0,zn ⟨ci j0,j5⟩⟩,⟨_,j0,zn (ciL j0)⟩,⟨_,j0,zg (fun _=>j0)⟩,j5⟩,j0,j1⟩
     ·
      rintro r' rfl env st hp
      obtain rfl:=sm h
      exact ⟨_,j0,hp⟩
   ·
    replace h:=bF q h
    refine zB ?_
    obtain rfl:=sm h
    exact ⟨j0,_,j0,[],cn,j0,j5,j0,j1⟩
  ·
   rintro ⟨⟩ rfl
   replace h:zew=some r:=h
   unfold zew at h
   refine zx ?_
   refine rg j0<|u<|asg j0<|zc ?_
   refine zp ?_
   obtain rfl:=sm h
   exact ⟨_,j0,[],ci j0,j0,j5,j0,j1⟩
  ·
   rintro r' rfl env st hp
   obtain rfl:=sm h
   exact hp
def zip (a:List za) (b:List (List UInt8×Int)):Option ((Option zaZ)×Int) :=
  some ((some (zaZ.mk a b)),0)
def zdn (b:List za) (c:List za) (d:List (List UInt8×Int)) (a:Int):Option (Sum (Int) (Sum (Unit) ((Option zaZ)×Int))) :=
  cond (decide (a < (List.length b:Int))) ((idx b a).bind fun e=>(zcS c d e).bind fun f=>cond (!f) (some (.inr (.inr (none,1)))) (some (.inl (IntKind.i64.wrap (a+1))))) (some (.inr (.inl ())))
def zgG (d:List za) (a:List za) (c:List (List UInt8×Int)):Option ((Option zaZ)×Int) :=
  (zu (fun z=>zdn d a c z) 0).bind fun o=>zQ o (fun b=>zip a c) some
def zdm (b:List za) (c:List za) (d:List (List UInt8×Int)) (a:Int):Option (Sum (Int) (Sum (Unit) ((Option zaZ)×Int))) :=
  cond (decide (a < (List.length b:Int))) ((idx b a).bind fun e=>(zeL e).bind fun f=>(z6 f c d).bind fun i=>cond i (some (.inr (.inr (none,4)))) (some (.inl (IntKind.i64.wrap (a+1))))) (some (.inr (.inl ())))
def zgF (d:List za) (a:List za) (c:List (List UInt8×Int)):Option ((Option zaZ)×Int) :=
  (zu (fun z=>zdm d a c z) 0).bind fun o=>zQ o (fun b=>zgG d a c) some
def zbq (e:List za) (b:List za) (c:List (List UInt8×Int)) (d:Int):Option (Sum ((List za)×(List (List UInt8×Int))×Int) (Sum ((List za)×(List (List UInt8×Int))) ((Option zaZ)×Int))) :=
  cond (decide (d < (List.length e:Int))) ((idx e d).bind fun a=>(cond (Option.isSome (zw a.Name c)) (some true) ((zht a).bind fun f=>some (!f))).bind fun i=>cond i (some (.inr (.inr (none,1)))) ((zhp 112 b [a]).bind fun j=>some (.inl (j,(zat a.Name ((List.length b):Int) c),(IntKind.i64.wrap (d+1)))))) (some (.inr (.inl (b,c))))
def zgE (a:List za) (c:(List za)) (d:List (List UInt8×Int)):Option ((Option zaZ)×Int) :=
  (zu (fun z=>zbq a z.1 z.2.1 z.2.2) (c,d,0)).bind fun o=>zQ o (fun b=>zgF a b.1 b.2) some
def zgH (b:(List za)) (c:List (List UInt8×Int)) (a:Int):Option (Sum ((List (List UInt8×Int))×Int) (Sum ((List (List UInt8×Int))) ((Option zaZ)×Int))) :=
  cond (decide (a < ((List.length b):Int))) ((idx b a).bind fun d=>some (.inl ((zat d.Name a c),(IntKind.i64.wrap (a+1))))) (some (.inr (.inl c)))
def zhW (a:List za):Option ((Option zaZ)×Int) :=
  cond (decide (16 < (List.length a:Int))) (some (none,3)) ((zhY).bind fun c=>(zu (fun z=>zgH c z.1 z.2) ([],0)).bind fun o=>zQ o (fun b=>zgE a c b) some)
theorem zkw (a:List za) {r:(Option zaZ)×Int} (h:zhW a=some r):zF Tryz.prog 22 [.isl 6 (List.map zb a)] (.tup [znH 2 zgm r.1,iA r.2]):=by
 refine zr Tryz.func22 j0 (by kernel_rfl) j0 (ztd (zwp (zuR (fun _=>j0)) (j0))) ?_
 unfold zhW at h
 refine rg j0<|u<|asg j0<|u<|asg j0<|zc ?_
 refine zl ?_
 refine rg j0<|u<|mv j0<|u<|lnI zbl j0 j0<|u<|gtr ti3 j0 j0<|zc ?_
 refine zk j0 (fun L=>?_) (fun L=>?_)
 ·
  replace h:=bT L h
  refine rg j0<|u<|asg j0<|u<|asg j0<|zc ?_
  refine zp ?_
  obtain rfl:=sm h
  exact ⟨_,j0,[],zer ⟨(ci j0),(ci j0),j5⟩,j0,j5,j0,j1⟩
 ·
  replace h:=bF L h
  refine zm ?_
  obtain ⟨p,q2,h⟩:=bs h
  refine rg j0<|u<|sc [] (zlZ q2) j0 j0 j0 j0 j5 j5<|zcj (env0:=[(0,.isl 6 (List.map zb a)),(18,.msl 0 0 (List.length p))]) (st0:=[some (6,List.map zb p)]) ⟨[.old 0],ce j0 j0<|cv j0 (.msl j0)<|cn,j0,⟨⟨_,j0,zg (fun _=>j0)⟩,j5⟩,j0,j1⟩<|u<|mmk (e:=3) 1 j0 j0<|u<|bd zjh j0 j0 j0<|u<|bx 2 2 j0 j0 j0 j0<|u<|al 3 zjm j0<|u<|sto zjm j0 j0 j0<|zc ?_
  refine zl ?_
  refine rg j0<|u<|ld zjm j0 j0<|u<|nc j0 j0<|u<|fa zjh j0 j0 j0<|u<|ld zbl j0 j0<|u<|lnM zbl j0 j0 j0<|u<|mv j0<|zc ?_
  obtain ⟨o,ho,h⟩:=bs h
  refine zU (X:=(List (List UInt8×Int))×Int) (B:=(List (List UInt8×Int))) (R:=(Option zaZ)×Int) (fun z=>[(0,.isl 6 (List.map zb a)),(4,.mpt 0 0 0),(25,.msl 2 0 (List.length p)),(26,iA ((List.length p):Int)),(27,iA z.2)]) (fun z=>[some (1,[[.mpt 1 0 0]]),some (2,[[.msl 2 0 (List.length p),.mmp 3]]),some (6,List.map zb p),some (2,List.map (rKV (fun x=>iA x)) z.1)]) (fun b=>[(0,.isl 6 (List.map zb a)),(4,.mpt 0 0 0)]) (fun b=>[some (1,[[.mpt 1 0 0]]),some (2,[[.msl 2 0 (List.length p),.mmp 3]]),some (6,List.map zb p),some (2,List.map (rKV (fun x=>iA x)) b)]) (fun r env st=>zaD Tryz.prog Tryz.f22 0 (.tup [znH 2 zgm r.1,iA r.2]) [] env st) ho ⟨[.old 3,.old 2,.old 0,.old 1],ce j0 j0<|cv j0 (.mpt j0)<|cv j0 (.msl j0)<|ce j0 j0<|ce j0 j0<|cn,j0,⟨⟨_,j0,zn ⟨.mpt j0,j5⟩⟩,⟨_,j0,zn ⟨.msl j0,.mmp j0,j5⟩⟩,⟨_,j0,zg (fun _=>j0)⟩,⟨_,j0,zg (fun _=>j0)⟩,j5⟩,j0,j1⟩ ?_ ?_ ?_
  ·
   rintro ⟨U,M⟩ r h
   replace h:zgH p U M=some r:=h
   unfold zgH at h
   refine rg j0<|u<|lss ti3 j0 j0<|zc ?_
   refine zl ?_
   refine zk j0 (fun N=>?_) (fun N=>?_)
   ·
    replace h:=bT N h
    refine zm ?_
    refine zl ?_
    refine zs ?_
    obtain ⟨V,W,h⟩:=bs h
    refine rg j0<|u<|mv j0<|u<|ixM zbl j0 zS j0 j0 j0 j0 W<|u<|ldM zS j0 j0 (zo W).2.2 j0<|u<|al 4 zS j0<|u<|asg j0<|u<|sto zS j0 j0 j0<|zc ?_
    refine rdL [(0,.isl 6 (List.map zb a)),(4,.mpt 0 0 0),(25,.msl 2 0 (List.length p)),(26,iA ((List.length p):Int)),(27,iA M)] [some (1,[[.mpt 1 0 0]]),some (2,[[.msl 2 0 (List.length p),.mmp 3]]),some (6,List.map zb p),some (2,List.map (rKV (fun x=>iA x)) (zat V.Name M U))] [7] [6,5,4,3,2,1,0] [(38,iA M),(37,sA V.Name),(36,.mpt 4 0 0),(35,.mmp 3),(34,.mpt 1 0 1),(33,.mpt 1 0 0),(32,.mpt 1 0 0)] 1 (by kernel_rfl) (by kernel_rfl) j0 (by kernel_rfl) (dtS ⟨(fun _=>pa j0 j0 j0 j0 (mv j0<|j4)),(fun _=>pa j0 j0 j0 j0 (ld ti9 j0 j0<|j4)),(fun _=>pa j0 j0 j0 j0 (fa zS j0 j0 j0<|j4)),(fun _=>pa j0 j0 j0 j0 (ld zjg j0 j0<|j4)),(fun _=>pa j0 j0 j0 j0 (fa zjh j0 j0 j0<|j4)),(fun _=>pa j0 j0 j0 j0 (nc j0 j0<|j4)),(fun _=>pa j0 j0 j0 j0 (ld zjm j0 j0<|j4)),j5⟩ (by kernel_rfl) j0 ⟨(fun _ _=>⟨_,j0,j0,mup (v:=M) (g:=(fun x=>iA x)) (l:=U) (s:=V.Name) j0 j0 j0 j0 j0 j0<|⟨.any,[],[],j0,j0,by kernel_rfl,j5,dt0 ⟨(fun h=>by cases h),(fun h=>by cases h),(fun h=>by cases h),(fun h=>by cases h),(fun h=>by cases h),(fun h=>by cases h),(fun h=>by cases h),j5⟩ (by kernel_rfl) j0 ⟨[.old 0,.old 1,.old 2,.old 3],ce j0 j0<|cv j0 (.mpt j0)<|cv j0 (.msl j0)<|ce j0 j0<|ce j0 j0<|cn,j0,⟨⟨_,j0,zn ⟨.mpt j0,j5⟩⟩,⟨_,j0,zn ⟨.msl j0,.mmp j0,j5⟩⟩,⟨_,j0,zg (fun _=>j0)⟩,⟨_,j0,zg (fun _=>j0)⟩,j5⟩,j0,j1⟩⟩⟩),j5⟩) ?_
    refine rl j0<|u<|add ti3 j0 j0<|u<|mv j0<|zc ?_
    obtain rfl:=sm h
    exact ⟨_,j0,[.old 0,.old 1,.old 2,.old 3],ce j0 j0<|cv j0 (.mpt j0)<|cv j0 (.msl j0)<|ce j0 j0<|ce j0 j0<|cn,j0,⟨⟨_,j0,zn ⟨.mpt j0,j5⟩⟩,⟨_,j0,zn ⟨.msl j0,.mmp j0,j5⟩⟩,⟨_,j0,zg (fun _=>j0)⟩,⟨_,j0,zg (fun _=>j0)⟩,j5⟩,j0,j1⟩
   ·
    replace h:=bF N h
    refine zB ?_
    obtain rfl:=sm h
    exact ⟨j0,_,j0,[.old 0,.old 1,.old 2,.old 3],ce j0 j0<|cv j0 (.mpt j0)<|cn,j0,⟨⟨_,j0,zn ⟨.mpt j0,j5⟩⟩,⟨_,j0,zn ⟨.msl j0,.mmp j0,j5⟩⟩,⟨_,j0,zg (fun _=>j0)⟩,⟨_,j0,zg (fun _=>j0)⟩,j5⟩,j0,j1⟩
  ·
   rintro v9 rfl
   replace h:zgE a p v9=some r:=h
   unfold zgE at h
   refine zx ?_
   refine zl ?_
   refine rg j0<|u<|mv j0<|u<|lnI zbl j0 j0<|u<|mv j0<|zc ?_
   obtain ⟨o,ho,h⟩:=bs h
   refine zU (X:=(List za)×(List (List UInt8×Int))×Int) (B:=(List za)×(List (List UInt8×Int))) (R:=(Option zaZ)×Int) (fun z=>[(0,.isl 6 (List.map zb a)),(4,.mpt 0 0 0),(40,.isl 6 (List.map zb a)),(41,iA (List.length a:Int)),(42,iA z.2.2)]) (fun z=>[some (1,[[.mpt 1 0 0]]),some (2,[[.msl 2 0 (List.length z.1),.mmp 3]]),some (6,List.map zb z.1),some (2,List.map (rKV (fun x=>iA x)) z.2.1)]) (fun b=>[(0,.isl 6 (List.map zb a)),(4,.mpt 0 0 0)]) (fun b=>[some (1,[[.mpt 1 0 0]]),some (2,[[.msl 2 0 (List.length b.1),.mmp 3]]),some (6,List.map zb b.1),some (2,List.map (rKV (fun x=>iA x)) b.2)]) (fun r env st=>zaD Tryz.prog Tryz.f22 0 (.tup [znH 2 zgm r.1,iA r.2]) [] env st) ho ⟨[.old 0,.old 1,.old 2,.old 3],ce j0 j0<|cv j0 (.mpt j0)<|ce j0 j0<|ce j0 j0<|ce j0 j0<|cn,j0,⟨⟨_,j0,zn ⟨.mpt j0,j5⟩⟩,⟨_,j0,zn ⟨.msl j0,.mmp j0,j5⟩⟩,⟨_,j0,zg (fun _=>j0)⟩,⟨_,j0,zg (fun _=>j0)⟩,j5⟩,j0,j1⟩ ?_ ?_ ?_
   ·
    rintro ⟨n,i,J⟩ r h
    replace h:zbq a n i J=some r:=h
    unfold zbq at h
    refine rg j0<|u<|lss ti3 j0 j0<|zc ?_
    refine zl ?_
    refine zk j0 (fun D=>?_) (fun D=>?_)
    ·
     replace h:=bT D h
     refine zm ?_
     refine zl ?_
     refine zs ?_
     obtain ⟨c,P,h⟩:=bs h
     refine rg j0<|u<|ixI zbl j0 zS j0 j0 j0 P<|u<|ldI zS j0 (zo P).2.2 j0<|u<|al 4 zS j0<|u<|sto zS j0 j0 j0<|zc ?_
     refine zl ?_
     refine rd [(0,.isl 6 (List.map zb a)),(4,.mpt 0 0 0),(8,.mpt 4 0 0),(10,bA (Option.isSome (zw c.Name i))),(40,.isl 6 (List.map zb a)),(41,iA (List.length a:Int)),(42,iA J)] [some (1,[[.mpt 1 0 0]]),some (2,[[.msl 2 0 (List.length n),.mmp 3]]),some (6,List.map zb n),some (2,List.map (rKV (fun x=>iA x)) i),some (6,[(zb c)])] [] [11,10,9,8,7,6,5,4,3,2,1,0] [(10,bA (Option.isSome (zw c.Name i))),(9,iA (Option.getD (zw c.Name i) 0)),(55,bA (Option.isSome (zw c.Name i))),(54,iA (Option.getD (zw c.Name i) 0)),(46,.tup [iA (Option.getD (zw c.Name i) 0),bA (Option.isSome (zw c.Name i))]),(53,.tup [iA (Option.getD (zw c.Name i) 0),bA (Option.isSome (zw c.Name i))]),(52,sA c.Name),(51,.mpt 4 0 0),(50,.mmp 3),(49,.mpt 1 0 1),(48,.mpt 1 0 0),(47,.mpt 1 0 0)] 0 (by kernel_rfl) (by kernel_rfl) j0 (by kernel_rfl) (dt0 ⟨(fun _=>pa j0 j0 j0 j0 (asg j0<|j4)),(fun _=>pa j0 j0 j0 j0 (asg j0<|j4)),(fun _=>pa j0 j0 j0 j0 (ex j0 j0<|j4)),(fun _=>pa j0 j0 j0 j0 (ex j0 j0<|j4)),(fun _=>pa j0 j0 j0 j0 (mv j0<|j4)),(fun _=>pa j0 j0 j0 j0 (zt5 (g:=(fun x=>iA x)) (z:=0) (l:=i) j0 ti3 j0 j0 j0 j0<|j4)),(fun _=>pa j0 j0 j0 j0 (ld ti9 j0 j0<|j4)),(fun _=>pa j0 j0 j0 j0 (fa zS j0 j0 j0<|j4)),(fun _=>pa j0 j0 j0 j0 (ld zjg j0 j0<|j4)),(fun _=>pa j0 j0 j0 j0 (fa zjh j0 j0 j0<|j4)),(fun _=>pa j0 j0 j0 j0 (nc j0 j0<|j4)),(fun _=>pa j0 j0 j0 j0 (ld zjm j0 j0<|j4)),j5⟩ (by kernel_rfl) j0 ⟨[.old 0,.old 1,.old 2,.old 3,.old 4],ce j0 j0<|cv j0 (.mpt j0)<|cv j0 (.mpt j0)<|ce j0 j0<|ce j0 j0<|ce j0 j0<|ce j0 j0<|cn,j0,⟨⟨_,j0,zn ⟨.mpt j0,j5⟩⟩,⟨_,j0,zn ⟨.msl j0,.mmp j0,j5⟩⟩,⟨_,j0,zg (fun _=>j0)⟩,⟨_,j0,zg (fun _=>j0)⟩,⟨_,j0,zn (ciL j0)⟩,j5⟩,j0,j1⟩) ?_
     obtain ⟨Y,q,h⟩:=bs h
     refine rg j0<|u<|mv j0<|u<|mv j0<|zdf (x:=Y) (j:=1) 3 j0 j0 j0 j0 j0 gpn (fun C=>by replace q:=bF C q; obtain ⟨v21,Z,q⟩:=bs q; obtain rfl:=sm q; exact g j0 C<|ld zS j0 j0<|g j0 C<|pc (zmT c Z) j0 j0 j0<|g j0 C<|nt j0<|zc (eg [58,59,60] 3 j0 j0 j0 j0)) (fun hb=>(sm (bT hb q)).symm)<|zc ?_
     refine zk j0 (fun E=>?_) (fun E=>?_)
     ·
      replace h:=bT E h
      refine rg j0<|u<|asg j0<|u<|asg j0<|zc ?_
      refine zp ?_
      obtain rfl:=sm h
      exact ⟨_,j0,_,j0,[],zer ⟨(ci j0),(ci j0),j5⟩,j0,j5,j0,j1⟩
     ·
      replace h:=bF E h
      refine zm ?_
      refine rd [(0,.isl 6 (List.map zb a)),(4,.mpt 0 0 0),(8,.mpt 4 0 0),(40,.isl 6 (List.map zb a)),(41,iA (List.length a:Int)),(42,iA J)] [some (1,[[.mpt 1 0 0]]),some (2,[[.msl 2 0 (List.length n),.mmp 3]]),some (6,List.map zb n),some (2,List.map (rKV (fun x=>iA x)) (zat c.Name ((List.length n):Int) i)),some (6,[(zb c)])] [11] [10,9,8,7,6,5,4,3,2,1,0] [(72,iA ((List.length n):Int)),(71,.msl 2 0 (List.length n)),(70,.mpt 1 0 0),(69,.mpt 1 0 0),(68,.mpt 1 0 0),(67,sA c.Name),(66,.mpt 4 0 0),(65,.mmp 3),(64,.mpt 1 0 1),(63,.mpt 1 0 0),(62,.mpt 1 0 0)] 1 (by kernel_rfl) (by kernel_rfl) j0 (by kernel_rfl) (dtS ⟨(fun _=>pa j0 j0 j0 j0 (lnM zbl j0 j0 j0<|j4)),(fun _=>pa j0 j0 j0 j0 (ld zbl j0 j0<|j4)),(fun _=>pa j0 j0 j0 j0 (fa zjh j0 j0 j0<|j4)),(fun _=>pa j0 j0 j0 j0 (nc j0 j0<|j4)),(fun _=>pa j0 j0 j0 j0 (ld zjm j0 j0<|j4)),(fun _=>pa j0 j0 j0 j0 (ld ti9 j0 j0<|j4)),(fun _=>pa j0 j0 j0 j0 (fa zS j0 j0 j0<|j4)),(fun _=>pa j0 j0 j0 j0 (ld zjg j0 j0<|j4)),(fun _=>pa j0 j0 j0 j0 (fa zjh j0 j0 j0<|j4)),(fun _=>pa j0 j0 j0 j0 (nc j0 j0<|j4)),(fun _=>pa j0 j0 j0 j0 (ld zjm j0 j0<|j4)),j5⟩ (by kernel_rfl) j0 ⟨(fun _ _=>⟨_,j0,j0,mup (v:=((List.length n):Int)) (g:=(fun x=>iA x)) (l:=i) (s:=c.Name) j0 j0 j0 j0 j0 j0<|⟨.any,[],[],j0,j0,by kernel_rfl,j5,dt0 ⟨(fun h=>by cases h),(fun h=>by cases h),(fun h=>by cases h),(fun h=>by cases h),(fun h=>by cases h),(fun h=>by cases h),(fun h=>by cases h),(fun h=>by cases h),(fun h=>by cases h),(fun h=>by cases h),(fun h=>by cases h),j5⟩ (by kernel_rfl) j0 ⟨[.old 0,.old 1,.old 2,.old 3,.old 4],ce j0 j0<|cv j0 (.mpt j0)<|cv j0 (.mpt j0)<|ce j0 j0<|ce j0 j0<|ce j0 j0<|cn,j0,⟨⟨_,j0,zn ⟨.mpt j0,j5⟩⟩,⟨_,j0,zn ⟨.msl j0,.mmp j0,j5⟩⟩,⟨_,j0,zg (fun _=>j0)⟩,⟨_,j0,zg (fun _=>j0)⟩,⟨_,j0,zn (ciL j0)⟩,j5⟩,j0,j1⟩⟩⟩),j5⟩) ?_
      obtain ⟨K,q20,h⟩:=bs h
      refine rdL [(0,.isl 6 (List.map zb a)),(4,.mpt 0 0 0),(40,.isl 6 (List.map zb a)),(41,iA (List.length a:Int)),(42,iA J)] [some (1,[[.mpt 1 0 0]]),some (2,[[.msl 2 0 (List.length K),.mmp 3]]),some (6,List.map zb K),some (2,List.map (rKV (fun x=>iA x)) (zat c.Name ((List.length n):Int) i))] [6,7,10] [5,4,3,2,1,0] [(78,.agg (zb c)),(77,.msl 2 0 (List.length n)),(76,.mpt 1 0 0),(75,.mpt 1 0 0),(74,.mpt 1 0 0),(73,.mpt 1 0 0)] 3 (by kernel_rfl) (by kernel_rfl) j0 (by kernel_rfl) (dtS ⟨(fun _=>pa j0 j0 j0 j0 (ld zS j0 j0<|j4)),(fun _=>pa j0 j0 j0 j0 (ld zbl j0 j0<|j4)),(fun _=>pa j0 j0 j0 j0 (fa zjh j0 j0 j0<|j4)),(fun _=>pa j0 j0 j0 j0 (nc j0 j0<|j4)),(fun _=>pa j0 j0 j0 j0 (ld zjm j0 j0<|j4)),(fun _=>pa j0 j0 j0 j0 (ld zjm j0 j0<|j4)),j5⟩ (by kernel_rfl) j0 ⟨(fun _ _=>⟨_,j0,j0,bl 5 zbl j0 zS j0 (by decide) (by decide) j0 j0 j0<|⟨(.msl 5 0 1),[],[(79,.msl 5 0 1)],j0,j0,by kernel_rfl,j0,dtS ⟨(fun h=>by cases h),(fun _=>pa j0 j0 j0 j0 (ld zbl j0 j0<|j4)),(fun _=>pa j0 j0 j0 j0 (fa zjh j0 j0 j0<|j4)),(fun _=>pa j0 j0 j0 j0 (nc j0 j0<|j4)),(fun _=>pa j0 j0 j0 j0 (ld zjm j0 j0<|j4)),(fun _=>pa j0 j0 j0 j0 (ld zjm j0 j0<|j4)),j5⟩ (by kernel_rfl) j0 ⟨(fun h=>by cases h),(fun _ _=>⟨_,j0,j0,apM 6 zbl j0 zS j0 j0 (by decide) zbl j0 j0 j0 j0 (roX (f:=zb) (z:=[c]) j0 j0) (fun _=>j0) j0 q20<|⟨(.msl 6 0 (List.length K)),[9,8],[(82,.mpt 1 0 0),(81,.mpt 1 0 0),(80,.msl 6 0 (List.length K))],j0,j0,by kernel_rfl,j0,dtS ⟨(fun _=>pa j0 j0 j0 j0 (fa zjh j0 j0 j0<|j4)),(fun _=>pa j0 j0 j0 j0 (nc j0 j0<|j4)),(fun h=>by cases h),(fun h=>by cases h),(fun _=>pa j0 j0 j0 j0 (fa zjh j0 j0 j0<|j4)),(fun _=>pa j0 j0 j0 j0 (nc j0 j0<|j4)),(fun _=>pa j0 j0 j0 j0 (ld zjm j0 j0<|j4)),(fun _=>pa j0 j0 j0 j0 (ld zjm j0 j0<|j4)),j5⟩ (by kernel_rfl) j0 ⟨(fun h=>by cases h),(fun h=>by cases h),(fun _ _=>⟨_,j0,j0,sto zbl j0 j0 j0<|⟨.any,[],[],j0,j0,by kernel_rfl,j5,dt0 ⟨(fun h=>by cases h),(fun _=>pa j0 j0 j0 j0 (nc j0 j0<|j4)),(fun h=>by cases h),(fun h=>by cases h),(fun h=>by cases h),(fun h=>by cases h),(fun h=>by cases h),(fun h=>by cases h),j5⟩ (by kernel_rfl) j0 ⟨[.old 0,.old 1,.old 6,.old 3],ce j0 j0<|cv j0 (.mpt j0)<|ce j0 j0<|ce j0 j0<|ce j0 j0<|cn,j0,⟨⟨_,j0,zn ⟨.mpt j0,j5⟩⟩,⟨_,j0,zn ⟨.msl j0,.mmp j0,j5⟩⟩,⟨_,j0,zg (fun _=>j0)⟩,⟨_,j0,zg (fun _=>j0)⟩,j5⟩,j0,j1⟩⟩⟩),j5⟩⟩⟩),(fun _ h=>by cases h),j5⟩⟩⟩),(fun _ h=>by cases h),(fun _ h=>by cases h),j5⟩) ?_
      refine rl j0<|u<|add ti3 j0 j0<|u<|mv j0<|zc ?_
      obtain rfl:=sm h
      exact ⟨_,j0,[.old 0,.old 1,.old 2,.old 3],ce j0 j0<|cv j0 (.mpt j0)<|ce j0 j0<|ce j0 j0<|ce j0 j0<|cn,j0,⟨⟨_,j0,zn ⟨.mpt j0,j5⟩⟩,⟨_,j0,zn ⟨.msl j0,.mmp j0,j5⟩⟩,⟨_,j0,zg (fun _=>j0)⟩,⟨_,j0,zg (fun _=>j0)⟩,j5⟩,j0,j1⟩
    ·
     replace h:=bF D h
     refine zB ?_
     obtain rfl:=sm h
     exact ⟨j0,_,j0,[.old 0,.old 1,.old 2,.old 3],ce j0 j0<|cv j0 (.mpt j0)<|cn,j0,⟨⟨_,j0,zn ⟨.mpt j0,j5⟩⟩,⟨_,j0,zn ⟨.msl j0,.mmp j0,j5⟩⟩,⟨_,j0,zg (fun _=>j0)⟩,⟨_,j0,zg (fun _=>j0)⟩,j5⟩,j0,j1⟩
   ·
    rintro ⟨d,m⟩ rfl
    replace h:zgF a d m=some r:=h
    unfold zgF at h
    refine zx ?_
    refine zl ?_
    refine rg j0<|u<|mv j0<|u<|lnI zbl j0 j0<|u<|mv j0<|zc ?_
    obtain ⟨o,ho,h⟩:=bs h
    refine zU (X:=Int) (B:=Unit) (R:=(Option zaZ)×Int) (fun z=>[(0,.isl 6 (List.map zb a)),(4,.mpt 0 0 0),(84,.isl 6 (List.map zb a)),(85,iA (List.length a:Int)),(86,iA z)]) (fun z=>[some (1,[[.mpt 1 0 0]]),some (2,[[.msl 2 0 (List.length d),.mmp 3]]),some (6,List.map zb d),some (2,List.map (rKV (fun x=>iA x)) m)]) (fun b=>[(0,.isl 6 (List.map zb a)),(4,.mpt 0 0 0)]) (fun b=>[some (1,[[.mpt 1 0 0]]),some (2,[[.msl 2 0 (List.length d),.mmp 3]]),some (6,List.map zb d),some (2,List.map (rKV (fun x=>iA x)) m)]) (fun r env st=>zaD Tryz.prog Tryz.f22 0 (.tup [znH 2 zgm r.1,iA r.2]) [] env st) ho ⟨[.old 0,.old 1,.old 2,.old 3],ce j0 j0<|cv j0 (.mpt j0)<|ce j0 j0<|ce j0 j0<|ce j0 j0<|cn,j0,⟨⟨_,j0,zn ⟨.mpt j0,j5⟩⟩,⟨_,j0,zn ⟨.msl j0,.mmp j0,j5⟩⟩,⟨_,j0,zg (fun _=>j0)⟩,⟨_,j0,zg (fun _=>j0)⟩,j5⟩,j0,j1⟩ ?_ ?_ ?_
    ·
     rintro Q r h
     replace h:zdm a d m Q=some r:=h
     unfold zdm at h
     refine rg j0<|u<|lss ti3 j0 j0<|zc ?_
     refine zl ?_
     refine zk j0 (fun F=>?_) (fun F=>?_)
     ·
      replace h:=bT F h
      refine zm ?_
      refine zl ?_
      refine zs ?_
      obtain ⟨v31,S,h⟩:=bs h
      refine rg j0<|u<|ixI zbl j0 zS j0 j0 j0 S<|u<|ldI zS j0 (zo S).2.2 j0<|u<|al 4 zS j0<|u<|sto zS j0 j0 j0<|zc ?_
      obtain ⟨O,q28,h⟩:=bs h
      obtain ⟨v33,q29,h⟩:=bs h
      refine rg j0<|u<|ld zS j0 j0<|u<|sc [] (zgJ v31 q28) j0 j0 j0 j0 ⟨(rnI j0),j5⟩ j5<|zcj (env0:=[(0,.isl 6 (List.map zb a)),(4,.mpt 0 0 0),(84,.isl 6 (List.map zb a)),(85,iA (List.length a:Int)),(86,iA Q),(91,.msl 4 0 (List.length O))]) (st0:=[some (1,[[.mpt 1 0 0]]),some (2,[[.msl 2 0 (List.length d),.mmp 3]]),some (6,List.map zb d),some (2,List.map (rKV (fun x=>iA x)) m),some (1,List.map zz O)]) ⟨[.old 0,.old 1,.old 2,.old 3,.old 5],ce j0 j0<|cv j0 (.mpt j0)<|ce j0 j0<|ce j0 j0<|ce j0 j0<|cv j0 (.msl j0)<|cn,j0,⟨⟨_,j0,zn ⟨.mpt j0,j5⟩⟩,⟨_,j0,zn ⟨.msl j0,.mmp j0,j5⟩⟩,⟨_,j0,zg (fun _=>j0)⟩,⟨_,j0,zg (fun _=>j0)⟩,⟨_,j0,zg (fun _=>j0)⟩,j5⟩,j0,j1⟩<|u<|mf j0 j0<|u<|pcs (zdz O d m q29) j0 j0 (.cons (ziz j0 (fun _=>j0)) (.cons (zif j5 ⟨(zbM j0 ⟨(zbM j0 ⟨(ziz j0 (fun _=>j0)),(zjG j0 (fun _=>j0)),j5⟩),j5⟩),j5⟩) .nil)) zek<|zc ?_
      refine zk j0 (fun G=>?_) (fun G=>?_)
      ·
       replace h:=bT G h
       refine rg j0<|u<|asg j0<|u<|asg j0<|zc ?_
       refine zp ?_
       obtain rfl:=sm h
       exact ⟨_,j0,_,j0,[],zer ⟨(ci j0),(ci j0),j5⟩,j0,j5,j0,j1⟩
      ·
       replace h:=bF G h
       refine zm ?_
       refine rl j0<|u<|add ti3 j0 j0<|u<|mv j0<|zc ?_
       obtain rfl:=sm h
       exact ⟨_,j0,[.old 0,.old 1,.old 2,.old 3],ce j0 j0<|cv j0 (.mpt j0)<|ce j0 j0<|ce j0 j0<|ce j0 j0<|cn,j0,⟨⟨_,j0,zn ⟨.mpt j0,j5⟩⟩,⟨_,j0,zn ⟨.msl j0,.mmp j0,j5⟩⟩,⟨_,j0,zg (fun _=>j0)⟩,⟨_,j0,zg (fun _=>j0)⟩,j5⟩,j0,j1⟩
     ·
      replace h:=bF F h
      refine zB ?_
      obtain rfl:=sm h
      exact ⟨j0,_,j0,[.old 0,.old 1,.old 2,.old 3],ce j0 j0<|cv j0 (.mpt j0)<|cn,j0,⟨⟨_,j0,zn ⟨.mpt j0,j5⟩⟩,⟨_,j0,zn ⟨.msl j0,.mmp j0,j5⟩⟩,⟨_,j0,zg (fun _=>j0)⟩,⟨_,j0,zg (fun _=>j0)⟩,j5⟩,j0,j1⟩
    ·
     rintro ⟨⟩ rfl
     replace h:zgG a d m=some r:=h
     unfold zgG at h
     refine zx ?_
     refine zl ?_
     refine rg j0<|u<|mv j0<|u<|lnI zbl j0 j0<|u<|mv j0<|zc ?_
     obtain ⟨o,ho,h⟩:=bs h
     refine zU (X:=Int) (B:=Unit) (R:=(Option zaZ)×Int) (fun z=>[(4,.mpt 0 0 0),(95,.isl 6 (List.map zb a)),(96,iA (List.length a:Int)),(97,iA z)]) (fun z=>[some (1,[[.mpt 1 0 0]]),some (2,[[.msl 2 0 (List.length d),.mmp 3]]),some (6,List.map zb d),some (2,List.map (rKV (fun x=>iA x)) m)]) (fun b=>[(4,.mpt 0 0 0)]) (fun b=>[some (1,[[.mpt 1 0 0]]),some (2,[[.msl 2 0 (List.length d),.mmp 3]]),some (6,List.map zb d),some (2,List.map (rKV (fun x=>iA x)) m)]) (fun r env st=>zaD Tryz.prog Tryz.f22 0 (.tup [znH 2 zgm r.1,iA r.2]) [] env st) ho ⟨[.old 0,.old 1,.old 2,.old 3],cv j0 (.mpt j0)<|ce j0 j0<|ce j0 j0<|ce j0 j0<|cn,j0,⟨⟨_,j0,zn ⟨.mpt j0,j5⟩⟩,⟨_,j0,zn ⟨.msl j0,.mmp j0,j5⟩⟩,⟨_,j0,zg (fun _=>j0)⟩,⟨_,j0,zg (fun _=>j0)⟩,j5⟩,j0,j1⟩ ?_ ?_ ?_
     ·
      rintro v37 r h
      replace h:zdn a d m v37=some r:=h
      unfold zdn at h
      refine rg j0<|u<|lss ti3 j0 j0<|zc ?_
      refine zl ?_
      refine zk j0 (fun H=>?_) (fun H=>?_)
      ·
       replace h:=bT H h
       refine zm ?_
       refine zl ?_
       refine zs ?_
       obtain ⟨v38,T,h⟩:=bs h
       refine rg j0<|u<|ixI zbl j0 zS j0 j0 j0 T<|u<|ldI zS j0 (zo T).2.2 j0<|u<|al 4 zS j0<|u<|sto zS j0 j0 j0<|zc ?_
       obtain ⟨v39,q37,h⟩:=bs h
       refine rg j0<|u<|ld zjm j0 j0<|u<|ld zS j0 j0<|u<|pcs (zjs d m v38 q37) j0 j0 (.cons (zbM j0 ⟨(ziz j0 (fun _=>j0)),(zjG j0 (fun _=>j0)),j5⟩) (.cons (si j0) .nil)) zek<|u<|nt j0<|zc ?_
       refine zk j0 (fun I=>?_) (fun I=>?_)
       ·
        replace h:=bT I h
        refine rg j0<|u<|asg j0<|u<|asg j0<|zc ?_
        refine zp ?_
        obtain rfl:=sm h
        exact ⟨_,j0,_,j0,[],zer ⟨(ci j0),(ci j0),j5⟩,j0,j5,j0,j1⟩
       ·
        replace h:=bF I h
        refine zm ?_
        refine rl j0<|u<|add ti3 j0 j0<|u<|mv j0<|zc ?_
        obtain rfl:=sm h
        exact ⟨_,j0,[.old 0,.old 1,.old 2,.old 3],cv j0 (.mpt j0)<|ce j0 j0<|ce j0 j0<|ce j0 j0<|cn,j0,⟨⟨_,j0,zn ⟨.mpt j0,j5⟩⟩,⟨_,j0,zn ⟨.msl j0,.mmp j0,j5⟩⟩,⟨_,j0,zg (fun _=>j0)⟩,⟨_,j0,zg (fun _=>j0)⟩,j5⟩,j0,j1⟩
      ·
       replace h:=bF H h
       refine zB ?_
       obtain rfl:=sm h
       exact ⟨j0,_,j0,[.old 0,.old 1,.old 2,.old 3],cv j0 (.mpt j0)<|cn,j0,⟨⟨_,j0,zn ⟨.mpt j0,j5⟩⟩,⟨_,j0,zn ⟨.msl j0,.mmp j0,j5⟩⟩,⟨_,j0,zg (fun _=>j0)⟩,⟨_,j0,zg (fun _=>j0)⟩,j5⟩,j0,j1⟩
     ·
      rintro ⟨⟩ rfl
      replace h:zip d m=some r:=h
      unfold zip at h
      refine zx ?_
      refine rg j0<|u<|ld zjm j0 j0<|u<|asg j0<|u<|asg j0<|zc ?_
      refine zp ?_
      obtain rfl:=sm h
      exact ⟨_,j0,[],zer ⟨(rsP j0 j0 ⟨(zic j0 j0 (fun _=>j0)),(zrC j0 j0 (fun _=>j0)),j5⟩ j0),(ci j0),j5⟩,j0,j5,j0,j1⟩
     ·
      rintro r' rfl env st hp
      obtain rfl:=sm h
      exact hp
    ·
     rintro r' rfl env st hp
     obtain rfl:=sm h
     exact hp
   ·
    rintro r' rfl env st hp
    obtain rfl:=sm h
    exact hp
  ·
   rintro r' rfl env st hp
   obtain rfl:=sm h
   exact hp
end
end Go.Proofs.YthmnlfenkhmmhaaGreat
namespace Go.Proofs.YthmnlfenkhmmhaaGreat
set_option linter.unusedVariables false
set_option maxRecDepth 100000
set_option maxHeartbeats 4000000
def znB (x:zt):Prop:=(wS) x.Name∧(wS) x.Type_∧(wT) x.Static
theorem zpF {n:Nat} {avs:List AV} (h:zjl Tryz.prog (n+2) 42 avs):∃ x:zt,avs=zW x∧znB x:=by
  obtain ⟨parts,rfl,hl,hg⟩:=gdF Tryz.underlying42 h
  match parts,hl with
  | [p0,p1,p2],_ =>
    obtain ⟨x0,rfl,w0⟩:=gdS Tryz.underlying9 (hg 0 _ p0 rfl rfl)
    obtain ⟨x1,rfl,w1⟩:=gdS Tryz.underlying9 (hg 1 _ p1 rfl rfl)
    obtain ⟨x2,rfl,w2⟩:=gdB Tryz.underlying4 (hg 2 _ p2 rfl rfl)
    exact ⟨⟨x0,x1,x2⟩,rfl,w0,w1,w2⟩
def zrV (x:z3):Prop:=(wI .i64) x.Op∧(wI .i64) x.A∧(wS) x.C∧(wS) x.M
theorem zsg {n:Nat} {avs:List AV} (h:zjl Tryz.prog (n+2) 40 avs):∃ x:z3,avs=zau x∧zrV x:=by
  obtain ⟨parts,rfl,hl,hg⟩:=gdF Tryz.underlying40 h
  match parts,hl with
  | [p0,p1,p2,p3],_ =>
    obtain ⟨x0,rfl,w0⟩:=gdI Tryz.underlying3 (hg 0 _ p0 rfl rfl)
    obtain ⟨x1,rfl,w1⟩:=gdI Tryz.underlying3 (hg 1 _ p1 rfl rfl)
    obtain ⟨x2,rfl,w2⟩:=gdS Tryz.underlying9 (hg 2 _ p2 rfl rfl)
    obtain ⟨x3,rfl,w3⟩:=gdS Tryz.underlying9 (hg 3 _ p3 rfl rfl)
    exact ⟨⟨x0,x1,x2,x3⟩,rfl,w0,w1,w2,w3⟩
def zrW (x:zaY):Prop:=(wI .i64) x.At∧(wL (wS)) x.Locals∧(wL (wS)) x.Stack
theorem zsh {n:Nat} {avs:List AV} (h:zjl Tryz.prog (n+3) 80 avs):∃ x:zaY,avs=zaf x∧zrW x:=by
  obtain ⟨parts,rfl,hl,hg⟩:=gdF Tryz.underlying80 h
  match parts,hl with
  | [p0,p1,p2],_ =>
    obtain ⟨x0,rfl,w0⟩:=gdI Tryz.underlying3 (hg 0 _ p0 rfl rfl)
    obtain ⟨x1,rfl,w1⟩:=gdL (k:=1) Tryz.underlying22 (by kernel_rfl) (fun h=>gdS Tryz.underlying9 h) (hg 1 _ p1 rfl rfl)
    obtain ⟨x2,rfl,w2⟩:=gdL (k:=1) Tryz.underlying22 (by kernel_rfl) (fun h=>gdS Tryz.underlying9 h) (hg 2 _ p2 rfl rfl)
    exact ⟨⟨x0,x1,x2⟩,rfl,w0,w1,w2⟩
def zpl (x:zaI):Prop:=(wI .i64) x.From∧(wI .i64) x.To∧(wI .i64) x.At∧(wS) x.C
theorem zqQ {n:Nat} {avs:List AV} (h:zjl Tryz.prog (n+2) 88 avs):∃ x:zaI,avs=zb4 x∧zpl x:=by
  obtain ⟨parts,rfl,hl,hg⟩:=gdF Tryz.underlying88 h
  match parts,hl with
  | [p0,p1,p2,p3],_ =>
    obtain ⟨x0,rfl,w0⟩:=gdI Tryz.underlying3 (hg 0 _ p0 rfl rfl)
    obtain ⟨x1,rfl,w1⟩:=gdI Tryz.underlying3 (hg 1 _ p1 rfl rfl)
    obtain ⟨x2,rfl,w2⟩:=gdI Tryz.underlying3 (hg 2 _ p2 rfl rfl)
    obtain ⟨x3,rfl,w3⟩:=gdS Tryz.underlying9 (hg 3 _ p3 rfl rfl)
    exact ⟨⟨x0,x1,x2,x3⟩,rfl,w0,w1,w2,w3⟩
def zjL (x:zi):Prop:=(wS) x.Name∧(wL (wS)) x.Params∧(wS) x.Ret∧(wT) x.Static∧(wT) x.Abstract∧(wI .i64) x.Locals∧(wI .i64) x.Stack∧(wL (zrV)) x.Code∧(wL (zrW)) x.Maps∧(wL (zpl)) x.Traps
theorem znW {n:Nat} {avs:List AV} (h:zjl Tryz.prog (n+5) 38 avs):∃ x:zi,avs=zq x∧zjL x:=by
  obtain ⟨parts,rfl,hl,hg⟩:=gdF Tryz.underlying38 h
  match parts,hl with
  | [p0,p1,p2,p3,p4,p5,p6,p7,p8,p9],_ =>
    obtain ⟨x0,rfl,w0⟩:=gdS Tryz.underlying9 (hg 0 _ p0 rfl rfl)
    obtain ⟨x1,rfl,w1⟩:=gdL (k:=1) Tryz.underlying22 (by kernel_rfl) (fun h=>gdS Tryz.underlying9 h) (hg 1 _ p1 rfl rfl)
    obtain ⟨x2,rfl,w2⟩:=gdS Tryz.underlying9 (hg 2 _ p2 rfl rfl)
    obtain ⟨x3,rfl,w3⟩:=gdB Tryz.underlying4 (hg 3 _ p3 rfl rfl)
    obtain ⟨x4,rfl,w4⟩:=gdB Tryz.underlying4 (hg 4 _ p4 rfl rfl)
    obtain ⟨x5,rfl,w5⟩:=gdI Tryz.underlying3 (hg 5 _ p5 rfl rfl)
    obtain ⟨x6,rfl,w6⟩:=gdI Tryz.underlying3 (hg 6 _ p6 rfl rfl)
    obtain ⟨x7,rfl,w7⟩:=gdL (k:=4) Tryz.underlying34 (by kernel_rfl) (fun h=>zsg h) (hg 7 _ p7 rfl rfl)
    obtain ⟨x8,rfl,w8⟩:=gdL (k:=3) Tryz.underlying35 (by kernel_rfl) (fun h=>zsh h) (hg 8 _ p8 rfl rfl)
    obtain ⟨x9,rfl,w9⟩:=gdL (k:=4) Tryz.underlying36 (by kernel_rfl) (fun h=>zqQ h) (hg 9 _ p9 rfl rfl)
    exact ⟨⟨x0,x1,x2,x3,x4,x5,x6,x7,x8,x9⟩,rfl,w0,w1,w2,w3,w4,w5,w6,w7,w8,w9⟩
def zfR (x:za):Prop:=(wS) x.Name∧(wS) x.Super∧(wT) x.Interface∧(wL (wS)) x.Impl∧(wL (znB)) x.Fields∧(wL (zjL)) x.Methods
theorem zpE {n:Nat} {avs:List AV} (h:zjl Tryz.prog (n+7) 26 avs):∃ x:za,avs=zb x∧zfR x:=by
  obtain ⟨parts,rfl,hl,hg⟩:=gdF Tryz.underlying26 h
  match parts,hl with
  | [p0,p1,p2,p3,p4,p5],_ =>
    obtain ⟨x0,rfl,w0⟩:=gdS Tryz.underlying9 (hg 0 _ p0 rfl rfl)
    obtain ⟨x1,rfl,w1⟩:=gdS Tryz.underlying9 (hg 1 _ p1 rfl rfl)
    obtain ⟨x2,rfl,w2⟩:=gdB Tryz.underlying4 (hg 2 _ p2 rfl rfl)
    obtain ⟨x3,rfl,w3⟩:=gdL (k:=1) Tryz.underlying22 (by kernel_rfl) (fun h=>gdS Tryz.underlying9 h) (hg 3 _ p3 rfl rfl)
    obtain ⟨x4,rfl,w4⟩:=gdL (k:=3) Tryz.underlying23 (by kernel_rfl) (fun h=>zpF h) (hg 4 _ p4 rfl rfl)
    obtain ⟨x5,rfl,w5⟩:=gdL (k:=10) Tryz.underlying24 (by kernel_rfl) (fun h=>znW h) (hg 5 _ p5 rfl rfl)
    exact ⟨⟨x0,x1,x2,x3,x4,x5⟩,rfl,w0,w1,w2,w3,w4,w5⟩
end Go.Proofs.YthmnlfenkhmmhaaGreat
namespace Go.Proofs.YthmnlfenkhmmhaaGreat
noncomputable section
set_option linter.unusedSimpArgs false
set_option linter.unusedVariables false
set_option maxRecDepth 100000
set_option maxHeartbeats 4000000
structure zE where
  L:List za
def zfG (x:zE):List AV:=[.isl 6 (List.map zb x.L)]
def zg3 (a:List za):Option ((List za)) :=
  some a
def zeD (c:List za) (d:Int) (e:List UInt8) (a:List UInt8):Option (Sum ((List za)×Int) (Sum ((List za)) ((List za)))) :=
  (zhp 112 c ([(za.mk e a false [] [] [])])).bind fun b=>some (.inl (b,(IntKind.i64.wrap (d+1))))
def zeC (b:List za) (a:Int) (c:List UInt8) (d:List UInt8):Option (Sum ((List za)×Int) (Sum ((List za)) ((List za)))) :=
  cond (a == (1:Int)) (zeD b a c [79,98,106,101,99,116]) (zeD b a c d)
def zg4 (b:List za) (a:Int):Option (Sum ((List za)×Int) (Sum ((List za)) ((List za)))) :=
  cond (decide (a < ((List.length (zbF)):Int))) ((idx (zbF) a).bind fun c=>cond (a == (0:Int)) (zeC b a c []) (zeC b a c [84,104,114,111,119,110])) (some (.inr (.inl b)))
def zh2:Option ((List za)) :=
  (zu (fun z=>zg4 z.1 z.2) ([],0)).bind fun o=>zQ o (fun b=>zg3 b) some
theorem zmr {r:(List za)} (h:zh2=some r):SC Tryz.prog 110 [] [] (.msl 0 0 (List.length r)) [.many 6 (List.map zb r)]:=by
 refine ⟨⟨ze9 (sz:=6) (fun _=>j0),j5⟩,za2 Tryz.func110 j0 (by kernel_rfl) j0 ?_⟩
 unfold zh2 at h
 refine rg j0<|u<|asg j0<|zc ?_
 refine rg j0<|u<|sc [] (zmp j0) j0 j0 j0 j0 j5 j5<|zcj (env0:=[(5,.msl 0 0 (List.length (zbF)))]) (st0:=[some (1,List.map zz (zbF))]) ⟨[.old 0],cv j0 (.msl j0)<|cn,j0,⟨⟨_,j0,zg (fun _=>j0)⟩,j5⟩,j0,j1⟩<|u<|asg j0<|zc ?_
 refine rg j0<|u<|asg j0<|zc ?_
 refine zl ?_
 refine rg j0<|u<|asg j0<|zc ?_
 obtain ⟨o,ho,h⟩:=bs h
 refine zU (X:=(List za)×Int) (B:=(List za)) (R:=(List za)) (fun z=>[(1,.msl 0 0 (List.length (zbF))),(2,.msl 1 0 (List.length z.1)),(3,iA z.2)]) (fun z=>[some (1,List.map zz (zbF)),some (6,List.map zb z.1)]) (fun b=>[(2,.msl 0 0 (List.length b))]) (fun b=>[some (6,List.map zb b)]) (fun r env st=>zaD Tryz.prog Tryz.f110 0 (.msl 0 0 (List.length r)) [some (6,List.map zb r)] env st) ho ⟨[.old 0,.fresh 6],cv j0 (.msl j0)<|cv j0 (.nilown j0)<|ce j0 j0<|cn,j0,⟨⟨_,j0,zg (fun _=>j0)⟩,j4,j5⟩,j0,j1⟩ ?_ ?_ ?_
 ·
  rintro ⟨a,c⟩ r h
  replace h:zg4 a c=some r:=h
  unfold zg4 at h
  refine zl ?_
  refine rg j0<|u<|mv j0<|u<|mv j0<|u<|lnM zak j0 j0 j0<|u<|lss ti3 j0 j0<|zc ?_
  refine zk j0 (fun e=>?_) (fun e=>?_)
  ·
   replace h:=bT e h
   refine zm ?_
   refine zl ?_
   refine zs ?_
   obtain ⟨d,m,h⟩:=bs h
   refine rg j0<|u<|mv j0<|u<|mv j0<|u<|ixM zak j0 ti9 j0 j0 j0 j0 m<|u<|ldM ti9 j0 j0 (zo m).2.2 j0<|u<|bd zS j0 j0 j0<|u<|al 2 zS j0<|u<|sto zS j0 j0 j0<|zc ?_
   refine zb3 (X:=(List UInt8)) (fun z=>[(1,.msl 0 0 (List.length (zbF))),(2,.msl 1 0 (List.length a)),(3,iA c),(4,.mpt 2 0 0)]) (fun z=>[some (1,List.map zz (zbF)),some (6,List.map zb a),some (6,[[sA d,sA z,bA false,.lit (.slice none 0 0),.lit (.slice none 0 0),.lit (.slice none 0 0)]])]) (fun z=>zeC a c d z=some r) ?_ ?_
   ·
    refine rg j0<|u<|mv j0<|u<|eql ti3 j0 j0<|zc ?_
    refine zk j0 (fun f=>?_) (fun f=>?_)
    ·
     replace h:=bT f h
     exact rl j0<|u<|fa zS j0 j0 j0<|u<|sto ti9 j0 j0 j0<|zc (⟨[],h,[.old 0,.old 1,.old 2],cv j0 (.msl j0)<|cv j0 (.msl j0)<|ce j0 j0<|cv j0 (.mpt j0)<|cn,j0,⟨⟨_,j0,zg (fun _=>j0)⟩,⟨_,j0,zg (fun _=>j0)⟩,⟨_,j0,zn (ciL j0)⟩,j5⟩,j0,j1⟩)
    ·
     replace h:=bF f h
     refine zm ?_
     exact ⟨[84,104,114,111,119,110],h,[.old 0,.old 1,.old 2],cv j0 (.msl j0)<|cv j0 (.msl j0)<|ce j0 j0<|cv j0 (.mpt j0)<|cn,j0,⟨⟨_,j0,zg (fun _=>j0)⟩,⟨_,j0,zg (fun _=>j0)⟩,⟨_,j0,zn (ciL j0)⟩,j5⟩,j0,j1⟩
   ·
    rintro l h
    replace h:zeC a c d l=some r:=h
    unfold zeC at h
    refine zb3 (X:=(List UInt8)) (fun z=>[(1,.msl 0 0 (List.length (zbF))),(2,.msl 1 0 (List.length a)),(3,iA c),(4,.mpt 2 0 0)]) (fun z=>[some (1,List.map zz (zbF)),some (6,List.map zb a),some (6,[[sA d,sA z,bA false,.lit (.slice none 0 0),.lit (.slice none 0 0),.lit (.slice none 0 0)]])]) (fun z=>zeD a c d z=some r) ?_ ?_
    ·
     refine rg j0<|u<|mv j0<|u<|eql ti3 j0 j0<|zc ?_
     refine zk j0 (fun i=>?_) (fun i=>?_)
     ·
      replace h:=bT i h
      exact rl j0<|u<|fa zS j0 j0 j0<|u<|sto ti9 j0 j0 j0<|zc (⟨[79,98,106,101,99,116],h,[.old 0,.old 1,.old 2],cv j0 (.msl j0)<|cv j0 (.msl j0)<|ce j0 j0<|cv j0 (.mpt j0)<|cn,j0,⟨⟨_,j0,zg (fun _=>j0)⟩,⟨_,j0,zg (fun _=>j0)⟩,⟨_,j0,zn (ciL j0)⟩,j5⟩,j0,j1⟩)
     ·
      replace h:=bF i h
      refine zm ?_
      exact ⟨l,h,[.old 0,.old 1,.old 2],cv j0 (.msl j0)<|cv j0 (.msl j0)<|ce j0 j0<|cv j0 (.mpt j0)<|cn,j0,⟨⟨_,j0,zg (fun _=>j0)⟩,⟨_,j0,zg (fun _=>j0)⟩,⟨_,j0,zn (ciL j0)⟩,j5⟩,j0,j1⟩
    ·
     rintro j h
     replace h:zeD a c d j=some r:=h
     unfold zeD at h
     obtain ⟨q,n,h⟩:=bs h
     refine rl j0<|u<|mv j0<|u<|ld zS j0 j0<|u<|bl 3 zbl j0 zS j0 (by decide) (by decide) j0 j0 j0<|zcj (env0:=[(1,.msl 0 0 (List.length (zbF))),(3,iA c),(23,.msl 1 0 (List.length a)),(25,.msl 2 0 (List.length ([(za.mk d j false [] [] [])])))]) (st0:=[some (1,List.map zz (zbF)),some (6,List.map zb a),some (6,List.map zb ([(za.mk d j false [] [] [])]))]) ⟨[.old 0,.old 1,.old 3],cv j0 (.msl j0)<|ce j0 j0<|cv j0 (.msl j0)<|cv j0 (.msl j0)<|cn,j0,⟨⟨_,j0,zg (fun _=>j0)⟩,⟨_,j0,zg (fun _=>j0)⟩,⟨_,j0,zen ⟨⟨(ci j0),(ci j0),(ci j0),(.nil),(.nil),(.nil),j5⟩,j5⟩⟩,j5⟩,j0,j1⟩<|u<|apM 3 zbl j0 zS j0 j0 (by decide) zbl j0 j0 j0 j0 (roM j0) (fun _=>j0) j0 n<|u<|asg j0<|zc ?_
     refine rl j0<|u<|mv j0<|u<|add ti3 j0 j0<|u<|asg j0<|zc ?_
     obtain rfl:=sm h
     exact ⟨_,j0,[.old 0,.old 3],cv j0 (.msl j0)<|cv j0 (.msl j0)<|ce j0 j0<|cn,j0,⟨⟨_,j0,zg (fun _=>j0)⟩,⟨_,j0,zg (fun _=>j0)⟩,j5⟩,j0,j1⟩
  ·
   replace h:=bF e h
   refine zB ?_
   obtain rfl:=sm h
   exact ⟨j0,_,j0,[.old 1],cv j0 (.msl j0)<|cn,j0,⟨⟨_,j0,zg (fun _=>j0)⟩,j5⟩,j0,j1⟩
 ·
  rintro p rfl
  replace h:zg3 p=some r:=h
  unfold zg3 at h
  refine zx ?_
  refine rg j0<|u<|mv j0<|u<|asg j0<|zc ?_
  refine zp ?_
  obtain rfl:=sm h
  exact ⟨_,j0,[.old 0],.msl j0,j0,⟨⟨_,j0,zg (fun _=>j0)⟩,j5⟩,j0,j1⟩
 ·
  rintro r' rfl env st hp
  obtain rfl:=sm h
  exact hp
def zeB:Option (Int) :=
  some (-1)
def zcA (b:List za) (c:List UInt8) (a:Int):Option (Sum (Int) (Sum (Unit) (Int))) :=
  cond (decide (a < (List.length b:Int))) ((idx b a).bind fun d=>cond (d.Name == c) (some (.inr (.inr a))) (some (.inl (IntKind.i64.wrap (a+1))))) (some (.inr (.inl ())))
def zba (a:List za) (c:List UInt8):Option (Int) :=
  (zu (fun z=>zcA a c z) 0).bind fun o=>zQ o (fun b=>zeB) some
theorem za5 (d:List za) (e:List UInt8) {r:Int} (h:zba d e=some r):zF Tryz.prog 56 [.ipt 1 [[.isl 6 (List.map zb d)]] 0 0,sA e] (iA r):=by
 refine zr Tryz.func56 j0 (by kernel_rfl) j0 j0 ?_
 unfold zba at h
 refine rg j0<|u<|asg j0<|zc ?_
 refine zl ?_
 refine rg j0<|u<|asg j0<|zc ?_
 obtain ⟨o,ho,h⟩:=bs h
 refine zU (X:=Int) (B:=Unit) (R:=Int) (fun z=>[(0,.ipt 1 [[.isl 6 (List.map zb d)]] 0 0),(1,sA e),(5,iA z)]) (fun z=>[]) (fun b=>[]) (fun b=>[]) (fun r env st=>zaD Tryz.prog Tryz.f56 0 (iA r) [] env st) ho ⟨[],ce j0 j0<|ce j0 j0<|ce j0 j0<|cn,j0,j5,j0,j1⟩ ?_ ?_ ?_
 ·
  rintro i r h
  replace h:zcA d e i=some r:=h
  unfold zcA at h
  refine zl ?_
  refine rg j0<|u<|mv j0<|u<|mv j0<|u<|nc j0 j0<|u<|fa zha j0 j0 j0<|u<|ld zbl j0 j0<|u<|lnI zbl j0 j0<|u<|lss ti3 j0 j0<|zc ?_
  refine zk j0 (fun a=>?_) (fun a=>?_)
  ·
   replace h:=bT a h
   refine zm ?_
   refine zl ?_
   refine zs ?_
   obtain ⟨j,f,h⟩:=bs h
   refine rg j0<|u<|mv j0<|u<|nc j0 j0<|u<|fa zha j0 j0 j0<|u<|ld zbl j0 j0<|u<|mv j0<|u<|ixI zbl j0 zS j0 j0 j0 f<|u<|fa zS j0 j0 j0<|u<|ldI ti9 j0 (zo f).2.2 j0<|u<|mv j0<|u<|seq ti9 j0 j0<|zc ?_
   refine zk j0 (fun c=>?_) (fun c=>?_)
   ·
    replace h:=bT c h
    refine rg j0<|u<|mv j0<|u<|asg j0<|zc ?_
    refine zp ?_
    obtain rfl:=sm h
    exact ⟨_,j0,_,j0,[],ci j0,j0,j5,j0,j1⟩
   ·
    replace h:=bF c h
    refine zm ?_
    refine rl j0<|u<|mv j0<|u<|add ti3 j0 j0<|u<|asg j0<|zc ?_
    obtain rfl:=sm h
    exact ⟨_,j0,[],ce j0 j0<|ce j0 j0<|ce j0 j0<|cn,j0,j5,j0,j1⟩
  ·
   replace h:=bF a h
   refine zB ?_
   obtain rfl:=sm h
   exact ⟨j0,_,j0,[],cn,j0,j5,j0,j1⟩
 ·
  rintro ⟨⟩ rfl
  replace h:zeB=some r:=h
  unfold zeB at h
  refine zx ?_
  refine rg j0<|u<|asg j0<|zc ?_
  refine zp ?_
  obtain rfl:=sm h
  exact ⟨_,j0,[],ci j0,j0,j5,j0,j1⟩
 ·
  rintro r' rfl env st hp
  obtain rfl:=sm h
  exact hp
def zd9 (c:Int) (a:List Bool):Option (Bool) :=
  (idx a c).bind fun b=>some b
def zcK (a:List Bool) (b:Bool):Option (Sum ((List Bool)×Bool×Bool) (Sum ((List Bool)) (Bool))) :=
  some (.inl (a,b,false))
def zbt (a:Int) (b:List Bool) (c:Bool):Option (Sum ((List Bool)×Bool×Int) (Sum ((List Bool)×Bool) (Bool))) :=
  some (.inl (b,c,(IntKind.i64.wrap (a+1))))
def zcJ (a:Int) (b:List Bool) (c:Bool):Option (Sum ((List Bool)×Bool×Int) (Sum ((List Bool)×Bool) (Bool))) :=
  zbt a b c
def zbs (a:Int) (b:List Bool) (c:Bool):Option (Sum ((List Bool)×Bool×Int) (Sum ((List Bool)×Bool) (Bool))) :=
  some (.inl (b,c,(IntKind.i64.wrap (a+1))))
def zaT (l:List za) (d:List (List UInt8)) (a:List Bool) (e:Bool) (b:Int):Option (Sum ((List Bool)×Bool×Int) (Sum ((List Bool)×Bool) (Bool))) :=
  cond (decide (b < ((List.length d):Int))) ((idx d b).bind fun f=>(zba l f).bind fun c=>(cond (decide (0≤c)) ((idx a c).bind fun i=>some (!i)) (some false)).bind fun j=>cond j ((idx a c).bind fun m=>zbs b (List.set a (Int.toNat c) true) true) (zbs b a e)) (some (.inr (.inl (a,e))))
def zaF (e:List za) (n:Int) (m:Bool) (c:List Bool) (d:Bool) (a:Int):Option (Sum ((List Bool)×Bool×Int) (Sum ((List Bool)×Bool) (Bool))) :=
  cond (decide (a < (List.length e:Int))) ((idx c a).bind fun f=>cond ((!f)&&(!(m&&(a == n)))) (zbt a c d) ((idx e a).bind fun i=>(idx e a).bind fun j=>(zhp 16 [i.Super] j.Impl).bind fun l=>(zu (fun z=>zaT e l z.1 z.2.1 z.2.2) (c,d,0)).bind fun o=>zQ o (fun b=>zcJ a b.1 b.2) (fun r=>some (.inr (.inr r))))) (some (.inr (.inl (c,d))))
def zaG (e:List za) (f:Int) (a:List Bool) (c:Bool) (d:Bool):Option (Sum ((List Bool)×Bool×Bool) (Sum ((List Bool)) (Bool))) :=
  cond c ((zu (fun z=>zaF e f d z.1 z.2.1 z.2.2) (a,false,0)).bind fun o=>zQ o (fun b=>zcK b.1 b.2) (fun r=>some (.inr (.inr r)))) (some (.inr (.inl a)))
def zdu (a:List za) (c:Int):Option (Bool) :=
  (mkP 1 (List.length a:Int)).bind fun d=>(zu (fun z=>zaG a c z.1 z.2.1 z.2.2) ((List.replicate d false),true,true)).bind fun o=>zQ o (fun b=>zd9 c b) some
theorem zi7 (c:List za) (e:Int) {r:Bool} (h:zdu c e=some r):zF Tryz.prog 112 [.ipt 1 [[.isl 6 (List.map zb c)]] 0 0,iA e] (bA r):=by
 refine zr Tryz.func112 j0 (by kernel_rfl) j0 j0 ?_
 unfold zdu at h
 refine rg j0<|u<|asg j0<|zc ?_
 obtain ⟨v3,q1,h⟩:=bs h
 refine rg j0<|u<|mv j0<|u<|nc j0 j0<|u<|fa zha j0 j0 j0<|u<|ld zbl j0 j0<|u<|lnI zbl j0 j0<|u<|mks (f:=rB) (z:=false) 0 zrL j0 ti4 j0 j0 j0 j0 j0 j0 q1<|u<|asg j0<|zc ?_
 refine zl ?_
 refine rg j0<|u<|asg j0<|u<|asg j0<|zc ?_
 obtain ⟨o,ho,h⟩:=bs h
 refine zU (X:=(List Bool)×Bool×Bool) (B:=(List Bool)) (R:=Bool) (fun z=>[(0,.ipt 1 [[.isl 6 (List.map zb c)]] 0 0),(1,iA e),(5,.msl 0 0 (List.length z.1)),(6,bA z.2.1),(7,bA z.2.2)]) (fun z=>[some (1,List.map rB z.1)]) (fun b=>[(1,iA e),(5,.msl 0 0 (List.length b))]) (fun b=>[some (1,List.map rB b)]) (fun r env st=>zaD Tryz.prog Tryz.f112 0 (bA r) [] env st) ho ⟨[.old 0],ce j0 j0<|ce j0 j0<|cv j0 (.msl j0)<|ce j0 j0<|ce j0 j0<|cn,j0,⟨⟨_,j0,zg (fun _=>j0)⟩,j5⟩,j0,j1⟩ ?_ ?_ ?_
 ·
  rintro ⟨v71,v72,m⟩ r h
  replace h:zaG c e v71 v72 m=some r:=h
  unfold zaG at h
  refine zl ?_
  refine rg j0<|u<|mv j0<|zc ?_
  refine zk j0 (fun D=>?_) (fun D=>?_)
  ·
   replace h:=bT D h
   refine zm ?_
   refine zl ?_
   refine zs ?_
   refine rg j0<|u<|asg j0<|zc ?_
   refine rg j0<|u<|asg j0<|zc ?_
   obtain ⟨o,ho,h⟩:=bs h
   refine zU (X:=(List Bool)×Bool×Int) (B:=(List Bool)×Bool) (R:=Bool) (fun z=>[(0,.ipt 1 [[.isl 6 (List.map zb c)]] 0 0),(1,iA e),(5,.msl 0 0 (List.length z.1)),(6,bA z.2.1),(7,bA m),(8,iA z.2.2)]) (fun z=>[some (1,List.map rB z.1)]) (fun b=>[(0,.ipt 1 [[.isl 6 (List.map zb c)]] 0 0),(1,iA e),(5,.msl 0 0 (List.length b.1)),(6,bA b.2)]) (fun b=>[some (1,List.map rB b.1)]) (fun r env st=>zaD Tryz.prog Tryz.f112 0 (bA r) [] env st) ho ⟨[.old 0],ce j0 j0<|ce j0 j0<|cv j0 (.msl j0)<|ce j0 j0<|ce j0 j0<|ce j0 j0<|cn,j0,⟨⟨_,j0,zg (fun _=>j0)⟩,j5⟩,j0,j1⟩ ?_ ?_ ?_
   ·
    rintro ⟨q,E,a⟩ r h
    replace h:zaF c e m q E a=some r:=h
    unfold zaF at h
    refine zl ?_
    refine rg j0<|u<|mv j0<|u<|mv j0<|u<|nc j0 j0<|u<|fa zha j0 j0 j0<|u<|ld zbl j0 j0<|u<|lnI zbl j0 j0<|u<|lss ti3 j0 j0<|zc ?_
    refine zk j0 (fun F=>?_) (fun F=>?_)
    ·
     replace h:=bT F h
     refine zm ?_
     refine zb3 (X:=(List Bool)×Bool) (fun z=>[(0,.ipt 1 [[.isl 6 (List.map zb c)]] 0 0),(1,iA e),(5,.msl 0 0 (List.length z.1)),(6,bA z.2),(7,bA m),(8,iA a)]) (fun z=>[some (1,List.map rB z.1)]) (fun z=>zbt a z.1 z.2=some r) ?_ ?_
     ·
      refine zs ?_
      refine zl ?_
      obtain ⟨v108,P,h⟩:=bs h
      refine rg j0<|u<|mv j0<|u<|mv j0<|u<|ixM zrL j0 ti4 j0 j0 j0 j0 P<|u<|ldM ti4 j0 j0 (zo P).2.2 j0<|u<|nt j0<|u<|mv j0<|z2 (j:=5) 7 j0 j0 j0 j0 j0 gpn (fun n=>g j0 n<|mv j0<|g j0 n<|mv j0<|z2 (j:=7) 3 j0 j0 j0 j0 j0 (gps j0 j0 n) (fun s=>g j0 s<|mv j0<|g j0 s<|mv j0<|g j0 s<|eql ti3 j0 j0<|zc (egA [36,37,38] 3 s j0 j0 j0 j0)) zdb<|g j0 n<|nt j0<|zc (egA [34,35,36,37,38,39,40] 4 n j0 j0 j0 j0)) zdb<|zc ?_
      refine zk j0 (fun G=>?_) (fun G=>?_)
      ·
       replace h:=bT G h
       refine zB ?_
       exact ⟨⟨q,E⟩,h,[.old 0],ce j0 j0<|ce j0 j0<|cv j0 (.msl j0)<|ce j0 j0<|ce j0 j0<|ce j0 j0<|cn,j0,⟨⟨_,j0,zg (fun _=>j0)⟩,j5⟩,j0,j1⟩
      ·
       replace h:=bF G h
       refine zm ?_
       obtain ⟨L,K,h⟩:=bs h
       obtain ⟨V,C,h⟩:=bs h
       obtain ⟨d,q80,h⟩:=bs h
       refine rd [(0,.ipt 1 [[.isl 6 (List.map zb c)]] 0 0),(1,iA e),(5,.msl 0 0 (List.length q)),(6,bA E),(7,bA m),(8,iA a),(9,.msl 1 0 (List.length d))] [some (1,List.map rB q),some (1,List.map zz d)] [8,17] [16,15,14,13,12,11,10,9,7,6,5,4,3,2,1,0] [(58,.isl 1 (List.map zz V.Impl)),(57,.ipt 6 (List.map zb c) (Int.toNat a) 3),(56,.ipt 6 (List.map zb c) (Int.toNat a) 0),(55,iA a),(54,.isl 6 (List.map zb c)),(53,.ipt 1 [[.isl 6 (List.map zb c)]] 0 0),(52,.ipt 1 [[.isl 6 (List.map zb c)]] 0 0),(51,.ipt 1 [[.isl 6 (List.map zb c)]] 0 0),(49,sA L.Super),(48,.ipt 6 (List.map zb c) (Int.toNat a) 1),(47,.ipt 6 (List.map zb c) (Int.toNat a) 0),(46,iA a),(45,.isl 6 (List.map zb c)),(44,.ipt 1 [[.isl 6 (List.map zb c)]] 0 0),(43,.ipt 1 [[.isl 6 (List.map zb c)]] 0 0),(42,.ipt 1 [[.isl 6 (List.map zb c)]] 0 0)] 2 (by kernel_rfl) (by kernel_rfl) j0 (by kernel_rfl) (dtS ⟨(fun _=>pa j0 j0 j0 j0 (ldI zak j0 (zo C).2.2 j0<|j4)),(fun _=>pa j0 j0 j0 j0 (fa zS j0 j0 j0<|j4)),(fun _=>pa j0 j0 j0 j0 (ixI zbl j0 zS j0 j0 j0 C<|j4)),(fun _=>pa j0 j0 j0 j0 (mv j0<|j4)),(fun _=>pa j0 j0 j0 j0 (ld zbl j0 j0<|j4)),(fun _=>pa j0 j0 j0 j0 (fa zha j0 j0 j0<|j4)),(fun _=>pa j0 j0 j0 j0 (nc j0 j0<|j4)),(fun _=>pa j0 j0 j0 j0 (mv j0<|j4)),(fun _=>pa j0 j0 j0 j0 (ldI ti9 j0 (zo K).2.2 j0<|j4)),(fun _=>pa j0 j0 j0 j0 (fa zS j0 j0 j0<|j4)),(fun _=>pa j0 j0 j0 j0 (ixI zbl j0 zS j0 j0 j0 K<|j4)),(fun _=>pa j0 j0 j0 j0 (mv j0<|j4)),(fun _=>pa j0 j0 j0 j0 (ld zbl j0 j0<|j4)),(fun _=>pa j0 j0 j0 j0 (fa zha j0 j0 j0<|j4)),(fun _=>pa j0 j0 j0 j0 (nc j0 j0<|j4)),(fun _=>pa j0 j0 j0 j0 (mv j0<|j4)),j5⟩ (by kernel_rfl) j0 ⟨(fun _ _=>⟨_,j0,j0,bl 1 zak j0 ti9 j0 (by decide) (by decide) j0 j0 j0<|⟨(.msl 1 0 1),[],[(50,.msl 1 0 1)],j0,j0,by kernel_rfl,j0,dtS ⟨(fun _=>pa j0 j0 j0 j0 (ldI zak j0 (zo C).2.2 j0<|j4)),(fun _=>pa j0 j0 j0 j0 (fa zS j0 j0 j0<|j4)),(fun _=>pa j0 j0 j0 j0 (ixI zbl j0 zS j0 j0 j0 C<|j4)),(fun _=>pa j0 j0 j0 j0 (mv j0<|j4)),(fun _=>pa j0 j0 j0 j0 (ld zbl j0 j0<|j4)),(fun _=>pa j0 j0 j0 j0 (fa zha j0 j0 j0<|j4)),(fun _=>pa j0 j0 j0 j0 (nc j0 j0<|j4)),(fun _=>pa j0 j0 j0 j0 (mv j0<|j4)),(fun h=>by cases h),(fun _=>pa j0 j0 j0 j0 (fa zS j0 j0 j0<|j4)),(fun _=>pa j0 j0 j0 j0 (ixI zbl j0 zS j0 j0 j0 K<|j4)),(fun _=>pa j0 j0 j0 j0 (mv j0<|j4)),(fun _=>pa j0 j0 j0 j0 (ld zbl j0 j0<|j4)),(fun _=>pa j0 j0 j0 j0 (fa zha j0 j0 j0<|j4)),(fun _=>pa j0 j0 j0 j0 (nc j0 j0<|j4)),(fun _=>pa j0 j0 j0 j0 (mv j0<|j4)),j5⟩ (by kernel_rfl) j0 ⟨(fun h=>by cases h),(fun _ _=>⟨_,j0,j0,apM (l:=[L.Super]) (f:=zz) 2 zak j0 ti9 j0 j0 (by decide) zak j0 j0 j0 j0 roI (fun _=>j0) j0 q80<|⟨(.msl 2 0 (List.length d)),[18],[(9,.msl 2 0 (List.length d)),(59,.msl 2 0 (List.length d))],j0,j0,by kernel_rfl,j0,dt0 ⟨(fun _=>pa j0 j0 j0 j0 (asg j0<|j4)),(fun h=>by cases h),(fun _=>pa j0 j0 j0 j0 (fa zS j0 j0 j0<|j4)),(fun _=>pa j0 j0 j0 j0 (ixI zbl j0 zS j0 j0 j0 C<|j4)),(fun _=>pa j0 j0 j0 j0 (mv j0<|j4)),(fun _=>pa j0 j0 j0 j0 (ld zbl j0 j0<|j4)),(fun _=>pa j0 j0 j0 j0 (fa zha j0 j0 j0<|j4)),(fun _=>pa j0 j0 j0 j0 (nc j0 j0<|j4)),(fun _=>pa j0 j0 j0 j0 (mv j0<|j4)),(fun h=>by cases h),(fun _=>pa j0 j0 j0 j0 (fa zS j0 j0 j0<|j4)),(fun _=>pa j0 j0 j0 j0 (ixI zbl j0 zS j0 j0 j0 K<|j4)),(fun _=>pa j0 j0 j0 j0 (mv j0<|j4)),(fun _=>pa j0 j0 j0 j0 (ld zbl j0 j0<|j4)),(fun _=>pa j0 j0 j0 j0 (fa zha j0 j0 j0<|j4)),(fun _=>pa j0 j0 j0 j0 (nc j0 j0<|j4)),(fun _=>pa j0 j0 j0 j0 (mv j0<|j4)),j5⟩ (by kernel_rfl) j0 ⟨[.old 0,.old 2],ce j0 j0<|ce j0 j0<|cv j0 (.msl j0)<|ce j0 j0<|ce j0 j0<|ce j0 j0<|cv j0 (.msl j0)<|cn,j0,⟨⟨_,j0,zg (fun _=>j0)⟩,⟨_,j0,zg (fun _=>j0)⟩,j5⟩,j0,j1⟩⟩⟩),j5⟩⟩⟩),(fun _ h=>by cases h),j5⟩) ?_
       refine rg j0<|u<|asg j0<|zc ?_
       obtain ⟨o,ho,h⟩:=bs h
       refine zU (X:=(List Bool)×Bool×Int) (B:=(List Bool)×Bool) (R:=Bool) (fun z=>[(0,.ipt 1 [[.isl 6 (List.map zb c)]] 0 0),(1,iA e),(5,.msl 0 0 (List.length z.1)),(6,bA z.2.1),(7,bA m),(8,iA a),(9,.msl 1 0 (List.length d)),(10,iA z.2.2)]) (fun z=>[some (1,List.map rB z.1),some (1,List.map zz d)]) (fun b=>[(0,.ipt 1 [[.isl 6 (List.map zb c)]] 0 0),(1,iA e),(5,.msl 0 0 (List.length b.1)),(6,bA b.2),(7,bA m),(8,iA a)]) (fun b=>[some (1,List.map rB b.1)]) (fun r env st=>zaD Tryz.prog Tryz.f112 0 (bA r) [] env st) ho ⟨[.old 0,.old 1],ce j0 j0<|ce j0 j0<|cv j0 (.msl j0)<|ce j0 j0<|ce j0 j0<|ce j0 j0<|cv j0 (.msl j0)<|ce j0 j0<|cn,j0,⟨⟨_,j0,zg (fun _=>j0)⟩,⟨_,j0,zg (fun _=>j0)⟩,j5⟩,j0,j1⟩ ?_ ?_ ?_
       ·
        rintro ⟨H,M,v⟩ r h
        replace h:zaT c d H M v=some r:=h
        unfold zaT at h
        refine zl ?_
        refine rg j0<|u<|mv j0<|u<|mv j0<|u<|lnM zak j0 j0 j0<|u<|lss ti3 j0 j0<|zc ?_
        refine zk j0 (fun I=>?_) (fun I=>?_)
        ·
         replace h:=bT I h
         refine zm ?_
         refine zb3 (X:=(List Bool)×Bool) (fun z=>[(0,.ipt 1 [[.isl 6 (List.map zb c)]] 0 0),(1,iA e),(5,.msl 0 0 (List.length z.1)),(6,bA z.2),(7,bA m),(8,iA a),(9,.msl 1 0 (List.length d)),(10,iA v)]) (fun z=>[some (1,List.map rB z.1),some (1,List.map zz d)]) (fun z=>zbs v z.1 z.2=some r) ?_ ?_
         ·
          refine zs ?_
          obtain ⟨W,Q,h⟩:=bs h
          obtain ⟨Y,q91,h⟩:=bs h
          refine rg j0<|u<|mv j0<|u<|mv j0<|u<|mv j0<|u<|ixM zak j0 ti9 j0 j0 j0 j0 Q<|u<|ldM ti9 j0 j0 (zo Q).2.2 j0<|u<|pc (za5 c W q91) j0 j0 j0<|u<|asg j0<|zc ?_
          obtain ⟨Z,p,h⟩:=bs h
          refine rg j0<|u<|mv j0<|u<|geq ti3 j0 j0<|u<|mv j0<|z2 (x:=Z) (j:=2) 5 j0 j0 j0 j0 j0 gpn (fun i=>by replace p:=bT i p; obtain ⟨v127,S,p⟩:=bs p; obtain rfl:=sm p; exact g j0 i<|mv j0<|g j0 i<|mv j0<|g j0 i<|ixM zrL j0 ti4 j0 j0 j0 j0 S<|g j0 i<|ldM ti4 j0 j0 (zo S).2.2 j0<|g j0 i<|nt j0<|zc (eg [75,76,77,78,79] 5 j0 j0 j0 j0)) (fun hb=>(sm (bF hb p)).symm)<|zc ?_
          refine zk j0 (fun J=>?_) (fun J=>?_)
          ·
           replace h:=bT J h
           obtain ⟨v129,T,h⟩:=bs h
           exact rl j0<|u<|mv j0<|u<|mv j0<|u<|ixM zrL j0 ti4 j0 j0 j0 j0 T<|u<|zut (c':=true) ti4 j0 j0 (zo T).2.2 j0 j0 j0 j0 j0<|u<|asg j0<|zc (⟨⟨(List.set H (Int.toNat Y) true),true⟩,h,[.old 0,.old 1],ce j0 j0<|ce j0 j0<|cv j0 (zqd (by simp) j0)<|ce j0 j0<|ce j0 j0<|ce j0 j0<|cv j0 (.msl j0)<|ce j0 j0<|cn,j0,⟨⟨_,j0,zg (fun _=>j0)⟩,⟨_,j0,zg (fun _=>j0)⟩,j5⟩,j0,j1⟩)
          ·
           replace h:=bF J h
           refine zm ?_
           exact ⟨⟨H,M⟩,h,[.old 0,.old 1],ce j0 j0<|ce j0 j0<|cv j0 (.msl j0)<|ce j0 j0<|ce j0 j0<|ce j0 j0<|cv j0 (.msl j0)<|ce j0 j0<|cn,j0,⟨⟨_,j0,zg (fun _=>j0)⟩,⟨_,j0,zg (fun _=>j0)⟩,j5⟩,j0,j1⟩
         ·
          rintro ⟨v130,v131⟩ h
          replace h:zbs v v130 v131=some r:=h
          unfold zbs at h
          refine rl j0<|u<|mv j0<|u<|add ti3 j0 j0<|u<|asg j0<|zc ?_
          obtain rfl:=sm h
          exact ⟨_,j0,[.old 0,.old 1],ce j0 j0<|ce j0 j0<|cv j0 (.msl j0)<|ce j0 j0<|ce j0 j0<|ce j0 j0<|cv j0 (.msl j0)<|ce j0 j0<|cn,j0,⟨⟨_,j0,zg (fun _=>j0)⟩,⟨_,j0,zg (fun _=>j0)⟩,j5⟩,j0,j1⟩
        ·
         replace h:=bF I h
         refine zB ?_
         obtain rfl:=sm h
         exact ⟨j0,_,j0,[.old 0],ce j0 j0<|ce j0 j0<|cv j0 (.msl j0)<|ce j0 j0<|ce j0 j0<|ce j0 j0<|cn,j0,⟨⟨_,j0,zg (fun _=>j0)⟩,j5⟩,j0,j1⟩
       ·
        rintro ⟨N,O⟩ rfl
        replace h:zcJ a N O=some r:=h
        unfold zcJ at h
        refine zx ?_
        exact ⟨⟨N,O⟩,h,[.old 0],ce j0 j0<|ce j0 j0<|cv j0 (.msl j0)<|ce j0 j0<|ce j0 j0<|ce j0 j0<|cn,j0,⟨⟨_,j0,zg (fun _=>j0)⟩,j5⟩,j0,j1⟩
       ·
        rintro r' rfl env st hp
        obtain rfl:=sm h
        exact ⟨_,j0,hp⟩
     ·
      rintro ⟨v134,v135⟩ h
      replace h:zbt a v134 v135=some r:=h
      unfold zbt at h
      refine rl j0<|u<|mv j0<|u<|add ti3 j0 j0<|u<|asg j0<|zc ?_
      obtain rfl:=sm h
      exact ⟨_,j0,[.old 0],ce j0 j0<|ce j0 j0<|cv j0 (.msl j0)<|ce j0 j0<|ce j0 j0<|ce j0 j0<|cn,j0,⟨⟨_,j0,zg (fun _=>j0)⟩,j5⟩,j0,j1⟩
    ·
     replace h:=bF F h
     refine zB ?_
     obtain rfl:=sm h
     exact ⟨j0,_,j0,[.old 0],ce j0 j0<|ce j0 j0<|cv j0 (.msl j0)<|ce j0 j0<|cn,j0,⟨⟨_,j0,zg (fun _=>j0)⟩,j5⟩,j0,j1⟩
   ·
    rintro ⟨v136,v137⟩ rfl
    replace h:zcK v136 v137=some r:=h
    unfold zcK at h
    refine zx ?_
    refine rl j0<|u<|asg j0<|zc ?_
    obtain rfl:=sm h
    exact ⟨_,j0,[.old 0],ce j0 j0<|ce j0 j0<|cv j0 (.msl j0)<|ce j0 j0<|ce j0 j0<|cn,j0,⟨⟨_,j0,zg (fun _=>j0)⟩,j5⟩,j0,j1⟩
   ·
    rintro r' rfl env st hp
    obtain rfl:=sm h
    exact ⟨_,j0,hp⟩
  ·
   replace h:=bF D h
   refine zB ?_
   obtain rfl:=sm h
   exact ⟨j0,_,j0,[.old 0],ce j0 j0<|cv j0 (.msl j0)<|cn,j0,⟨⟨_,j0,zg (fun _=>j0)⟩,j5⟩,j0,j1⟩
 ·
  rintro v138 rfl
  replace h:zd9 e v138=some r:=h
  unfold zd9 at h
  refine zx ?_
  obtain ⟨v139,U,h⟩:=bs h
  refine rg j0<|u<|mv j0<|u<|mv j0<|u<|ixM zrL j0 ti4 j0 j0 j0 j0 U<|u<|ldM ti4 j0 j0 (zo U).2.2 j0<|u<|asg j0<|zc ?_
  refine zp ?_
  obtain rfl:=sm h
  exact ⟨_,j0,[],ci j0,j0,j5,j0,j1⟩
 ·
  rintro r' rfl env st hp
  obtain rfl:=sm h
  exact hp
def zhM (a:List za):Option ((Option zE)×Int) :=
  some ((some (zE.mk a)),0)
def zfZ (a:Int) (b:Bool):Option (Sum (Int) (Sum (Unit) ((Option zE)×Int))) :=
  cond b (some (.inr (.inr (none,1)))) (some (.inl (IntKind.i64.wrap (a+1))))
def zbC (b:List za) (c:za) (d:Bool) (a:Int):Option (Sum (Bool×Int) (Sum (Bool) ((Option zE)×Int))) :=
  cond (decide (a < (List.length c.Impl:Int))) (cond d (some (.inl (true,(IntKind.i64.wrap (a+1))))) ((idx c.Impl a).bind fun e=>(zba b e).bind fun f=>(idx b f).bind fun i=>some (.inl ((!i.Interface),(IntKind.i64.wrap (a+1)))))) (some (.inr (.inl d)))
def zem (a:List za) (c:Int) (d:za) (e:Bool):Option (Sum (Int) (Sum (Unit) ((Option zE)×Int))) :=
  (zu (fun z=>zbC a d z.1 z.2) (e,0)).bind fun o=>zQ o (fun b=>zfZ c b) (fun r=>some (.inr (.inr r)))
def zcF (a:List za) (b:Int):Option (Sum (Int) (Sum (Unit) ((Option zE)×Int))) :=
  cond (decide (b < ((List.length a):Int))) ((idx a b).bind fun c=>(zba a c.Super).bind fun d=>(idx a d).bind fun e=>cond e.Interface (zem a b c true) ((zdu a b).bind fun f=>zem a b c f)) (some (.inr (.inl ())))
def zg2 (a:List za):Option ((Option zE)×Int) :=
  (zu (fun z=>zcF a z) 1).bind fun o=>zQ o (fun b=>zhM a) some
def zg1 (a:Int):Option (Sum (Int) (Sum (Unit) ((Option zE)×Int))) :=
  some (.inl (IntKind.i64.wrap (a+1)))
def zdv (c:List za) (b:za) (a:Int):Option (Sum (Int) (Sum (Unit) ((Option zE)×Int))) :=
  cond (decide (a < (List.length b.Impl:Int))) ((idx b.Impl a).bind fun d=>(zba c d).bind fun e=>cond (decide (e < 0)) (some (.inr (.inr (none,4)))) (some (.inl (IntKind.i64.wrap (a+1))))) (some (.inr (.inl ())))
def zdw (a:List za) (c:Int):Option (Sum (Int) (Sum (Unit) ((Option zE)×Int))) :=
  cond (decide (c < ((List.length a):Int))) ((idx a c).bind fun d=>(zba a d.Super).bind fun e=>cond (decide (e < 0)) (some (.inr (.inr (none,4)))) ((zu (fun z=>zdv a d z) 0).bind fun o=>zQ o (fun b=>zg1 c) (fun r=>some (.inr (.inr r))))) (some (.inr (.inl ())))
def zg0 (a:List za):Option ((Option zE)×Int) :=
  (zu (fun z=>zdw a z) 1).bind fun o=>zQ o (fun b=>zg2 a) some
def zbZ (c:List za) (b:List za) (a:Int):Option (Sum ((List za)×Int) (Sum ((List za)) ((Option zE)×Int))) :=
  cond (decide (a < (List.length c:Int))) ((idx c a).bind fun d=>(zeA d).bind fun e=>(cond (!e) (some true) ((idx c a).bind fun f=>(zba b f.Name).bind fun i=>some (decide (0≤i)))).bind fun j=>cond j (some (.inr (.inr (none,1)))) ((idx c a).bind fun l=>(zhp 112 b [l]).bind fun m=>some (.inl (m,(IntKind.i64.wrap (a+1)))))) (some (.inr (.inl b)))
def zi8 (a:List za):Option ((Option zE)×Int) :=
  cond (decide (16 < (List.length a:Int))) (some (none,3)) ((zh2).bind fun c=>(zu (fun z=>zbZ a z.1 z.2) (c,0)).bind fun o=>zQ o (fun b=>zg0 b) some)
theorem zop (s:List za) {r:(Option zE)×Int} (h:zi8 s=some r):zF Tryz.prog 27 [.isl 6 (List.map zb s)] (.tup [znH 1 zfG r.1,iA r.2]):=by
 refine zr Tryz.func27 j0 (by kernel_rfl) j0 (ztd (zwp (zuR (fun _=>j0)) (j0))) ?_
 unfold zi8 at h
 refine rg j0<|u<|asg j0<|u<|asg j0<|zc ?_
 refine zl ?_
 refine rg j0<|u<|mv j0<|u<|lnI zbl j0 j0<|u<|gtr ti3 j0 j0<|zc ?_
 refine zk j0 (fun T=>?_) (fun T=>?_)
 ·
  replace h:=bT T h
  refine rg j0<|u<|asg j0<|u<|asg j0<|zc ?_
  refine zp ?_
  obtain rfl:=sm h
  exact ⟨_,j0,[],zer ⟨(ci j0),(ci j0),j5⟩,j0,j5,j0,j1⟩
 ·
  replace h:=bF T h
  refine zm ?_
  obtain ⟨v2,q2,h⟩:=bs h
  refine rg j0<|u<|sc [] (zmr q2) j0 j0 j0 j0 j5 j5<|zcj (env0:=[(0,.isl 6 (List.map zb s)),(16,.msl 0 0 (List.length v2))]) (st0:=[some (6,List.map zb v2)]) ⟨[.old 0],ce j0 j0<|cv j0 (.msl j0)<|cn,j0,⟨⟨_,j0,zg (fun _=>j0)⟩,j5⟩,j0,j1⟩<|u<|bd zha j0 j0 j0<|u<|bx 1 1 j0 j0 j0 j0<|u<|asg j0<|zc ?_
  refine zl ?_
  refine rg j0<|u<|asg j0<|zc ?_
  obtain ⟨o,ho,h⟩:=bs h
  refine zU (X:=(List za)×Int) (B:=(List za)) (R:=(Option zE)×Int) (fun z=>[(0,.isl 6 (List.map zb s)),(4,.mpt 0 0 0),(5,iA z.2)]) (fun z=>[some (1,[[.msl 1 0 (List.length z.1)]]),some (6,List.map zb z.1)]) (fun b=>[(4,.mpt 0 0 0)]) (fun b=>[some (1,[[.msl 1 0 (List.length b)]]),some (6,List.map zb b)]) (fun r env st=>zaD Tryz.prog Tryz.f27 0 (.tup [znH 1 zfG r.1,iA r.2]) [] env st) ho ⟨[.old 1,.old 0],ce j0 j0<|cv j0 (.mpt j0)<|ce j0 j0<|cn,j0,⟨⟨_,j0,zn ⟨.msl j0,j5⟩⟩,⟨_,j0,zg (fun _=>j0)⟩,j5⟩,j0,j1⟩ ?_ ?_ ?_
  ·
   rintro ⟨U,M⟩ r h
   replace h:zbZ s U M=some r:=h
   unfold zbZ at h
   refine zl ?_
   refine rg j0<|u<|mv j0<|u<|mv j0<|u<|lnI zbl j0 j0<|u<|lss ti3 j0 j0<|zc ?_
   refine zk j0 (fun D=>?_) (fun D=>?_)
   ·
    replace h:=bT D h
    refine zm ?_
    refine zl ?_
    refine zs ?_
    refine zl ?_
    obtain ⟨v14,Y,h⟩:=bs h
    obtain ⟨v15,q15,h⟩:=bs h
    obtain ⟨v18,p,h⟩:=bs h
    refine rg j0<|u<|mv j0<|u<|mv j0<|u<|ixI zbl j0 zS j0 j0 j0 Y<|u<|ldI zS j0 (zo Y).2.2 j0<|u<|pc (zj1 v14 q15) j0 j0 j0<|u<|nt j0<|u<|mv j0<|zdf (x:=v18) (j:=6) 8 j0 j0 j0 j0 j0 gpn (fun l=>by replace p:=bF l p; obtain ⟨v16,Z,p⟩:=bs p; obtain ⟨v17,q18,p⟩:=bs p; obtain rfl:=sm p; exact g j0 l<|mv j0<|g j0 l<|mv j0<|g j0 l<|mv j0<|g j0 l<|ixI zbl j0 zS j0 j0 j0 Z<|g j0 l<|fa zS j0 j0 j0<|g j0 l<|ldI ti9 j0 (zo Z).2.2 j0<|g j0 l<|pcs (za5 U v16.Name q18) j0 j0 (.cons (zbM j0 ⟨(ziz j0 (fun _=>j0)),j5⟩) (.cons (si j0) .nil)) zek<|g j0 l<|geq ti3 j0 j0<|zc (eg [32,33,34,35,36,37,38,39] 8 j0 j0 j0 j0)) (fun hb=>(sm (bT hb p)).symm)<|zc ?_
    refine zk j0 (fun E=>?_) (fun E=>?_)
    ·
     replace h:=bT E h
     refine rg j0<|u<|asg j0<|u<|asg j0<|zc ?_
     refine zp ?_
     obtain rfl:=sm h
     exact ⟨_,j0,_,j0,[],zer ⟨(ci j0),(ci j0),j5⟩,j0,j5,j0,j1⟩
    ·
     replace h:=bF E h
     refine zm ?_
     obtain ⟨v19,N,h⟩:=bs h
     obtain ⟨O,q22,h⟩:=bs h
     refine rdL [(0,.isl 6 (List.map zb s)),(4,.mpt 0 0 0),(5,iA M)] [some (1,[[.msl 1 0 (List.length O)]]),some (6,List.map zb O)] [9,10,13] [8,7,6,5,4,3,2,1,0] [(49,.agg (zb v19)),(48,.ipt 6 (List.map zb s) (Int.toNat M) 0),(47,iA M),(46,.isl 6 (List.map zb s)),(45,.msl 1 0 (List.length U)),(44,.mpt 0 0 0),(43,.mpt 0 0 0),(42,.mpt 0 0 0),(41,.mpt 0 0 0)] 3 (by kernel_rfl) (by kernel_rfl) j0 (by kernel_rfl) (dtS ⟨(fun _=>pa j0 j0 j0 j0 (ldI zS j0 (zo N).2.2 j0<|j4)),(fun _=>pa j0 j0 j0 j0 (ixI zbl j0 zS j0 j0 j0 N<|j4)),(fun _=>pa j0 j0 j0 j0 (mv j0<|j4)),(fun _=>pa j0 j0 j0 j0 (mv j0<|j4)),(fun _=>pa j0 j0 j0 j0 (ld zbl j0 j0<|j4)),(fun _=>pa j0 j0 j0 j0 (fa zha j0 j0 j0<|j4)),(fun _=>pa j0 j0 j0 j0 (nc j0 j0<|j4)),(fun _=>pa j0 j0 j0 j0 (mv j0<|j4)),(fun _=>pa j0 j0 j0 j0 (mv j0<|j4)),j5⟩ (by kernel_rfl) j0 ⟨(fun _ _=>⟨_,j0,j0,bl 2 zbl j0 zS j0 (by decide) (by decide) j0 j0 j0<|⟨(.msl 2 0 1),[],[(50,.msl 2 0 1)],j0,j0,by kernel_rfl,j0,dtS ⟨(fun h=>by cases h),(fun _=>pa j0 j0 j0 j0 (ixI zbl j0 zS j0 j0 j0 N<|j4)),(fun _=>pa j0 j0 j0 j0 (mv j0<|j4)),(fun _=>pa j0 j0 j0 j0 (mv j0<|j4)),(fun _=>pa j0 j0 j0 j0 (ld zbl j0 j0<|j4)),(fun _=>pa j0 j0 j0 j0 (fa zha j0 j0 j0<|j4)),(fun _=>pa j0 j0 j0 j0 (nc j0 j0<|j4)),(fun _=>pa j0 j0 j0 j0 (mv j0<|j4)),(fun _=>pa j0 j0 j0 j0 (mv j0<|j4)),j5⟩ (by kernel_rfl) j0 ⟨(fun h=>by cases h),(fun _ _=>⟨_,j0,j0,apM 3 zbl j0 zS j0 j0 (by decide) zbl j0 j0 j0 j0 (roX (f:=zb) (z:=[v19]) j0 j0) (fun _=>j0) j0 q22<|⟨(.msl 3 0 (List.length O)),[12,11],[(53,.mpt 0 0 0),(52,.mpt 0 0 0),(51,.msl 3 0 (List.length O))],j0,j0,by kernel_rfl,j0,dtS ⟨(fun _=>pa j0 j0 j0 j0 (fa zha j0 j0 j0<|j4)),(fun _=>pa j0 j0 j0 j0 (nc j0 j0<|j4)),(fun h=>by cases h),(fun _=>pa j0 j0 j0 j0 (ixI zbl j0 zS j0 j0 j0 N<|j4)),(fun _=>pa j0 j0 j0 j0 (mv j0<|j4)),(fun _=>pa j0 j0 j0 j0 (mv j0<|j4)),(fun h=>by cases h),(fun _=>pa j0 j0 j0 j0 (fa zha j0 j0 j0<|j4)),(fun _=>pa j0 j0 j0 j0 (nc j0 j0<|j4)),(fun _=>pa j0 j0 j0 j0 (mv j0<|j4)),(fun _=>pa j0 j0 j0 j0 (mv j0<|j4)),j5⟩ (by kernel_rfl) j0 ⟨(fun h=>by cases h),(fun h=>by cases h),(fun _ _=>⟨_,j0,j0,sto zbl j0 j0 j0<|⟨.any,[],[],j0,j0,by kernel_rfl,j5,dt0 ⟨(fun h=>by cases h),(fun _=>pa j0 j0 j0 j0 (nc j0 j0<|j4)),(fun h=>by cases h),(fun h=>by cases h),(fun h=>by cases h),(fun h=>by cases h),(fun h=>by cases h),(fun h=>by cases h),(fun h=>by cases h),(fun h=>by cases h),(fun h=>by cases h),j5⟩ (by kernel_rfl) j0 ⟨[.old 0,.old 3],ce j0 j0<|cv j0 (.mpt j0)<|ce j0 j0<|cn,j0,⟨⟨_,j0,zn ⟨.msl j0,j5⟩⟩,⟨_,j0,zg (fun _=>j0)⟩,j5⟩,j0,j1⟩⟩⟩),j5⟩⟩⟩),(fun _ h=>by cases h),j5⟩⟩⟩),(fun _ h=>by cases h),(fun _ h=>by cases h),j5⟩) ?_
     refine rl j0<|u<|mv j0<|u<|add ti3 j0 j0<|u<|asg j0<|zc ?_
     obtain rfl:=sm h
     exact ⟨_,j0,[.old 0,.old 1],ce j0 j0<|cv j0 (.mpt j0)<|ce j0 j0<|cn,j0,⟨⟨_,j0,zn ⟨.msl j0,j5⟩⟩,⟨_,j0,zg (fun _=>j0)⟩,j5⟩,j0,j1⟩
   ·
    replace h:=bF D h
    refine zB ?_
    obtain rfl:=sm h
    exact ⟨j0,_,j0,[.old 0,.old 1],cv j0 (.mpt j0)<|cn,j0,⟨⟨_,j0,zn ⟨.msl j0,j5⟩⟩,⟨_,j0,zg (fun _=>j0)⟩,j5⟩,j0,j1⟩
  ·
   rintro c rfl
   replace h:zg0 c=some r:=h
   unfold zg0 at h
   refine zx ?_
   refine zl ?_
   refine rg j0<|u<|asg j0<|zc ?_
   obtain ⟨o,ho,h⟩:=bs h
   refine zU (X:=Int) (B:=Unit) (R:=(Option zE)×Int) (fun z=>[(4,.mpt 0 0 0),(6,iA z)]) (fun z=>[some (1,[[.msl 1 0 (List.length c)]]),some (6,List.map zb c)]) (fun b=>[(4,.mpt 0 0 0)]) (fun b=>[some (1,[[.msl 1 0 (List.length c)]]),some (6,List.map zb c)]) (fun r env st=>zaD Tryz.prog Tryz.f27 0 (.tup [znH 1 zfG r.1,iA r.2]) [] env st) ho ⟨[.old 0,.old 1],cv j0 (.mpt j0)<|ce j0 j0<|cn,j0,⟨⟨_,j0,zn ⟨.msl j0,j5⟩⟩,⟨_,j0,zg (fun _=>j0)⟩,j5⟩,j0,j1⟩ ?_ ?_ ?_
   ·
    rintro P r h
    replace h:zdw c P=some r:=h
    unfold zdw at h
    refine zl ?_
    refine rg j0<|u<|mv j0<|u<|mv j0<|u<|nc j0 j0<|u<|fa zha j0 j0 j0<|u<|ld zbl j0 j0<|u<|lnM zbl j0 j0 j0<|u<|lss ti3 j0 j0<|zc ?_
    refine zk j0 (fun F=>?_) (fun F=>?_)
    ·
     replace h:=bT F h
     refine zm ?_
     refine zl ?_
     refine zs ?_
     obtain ⟨V,q36,h⟩:=bs h
     refine rg j0<|u<|mv j0<|u<|nc j0 j0<|u<|fa zha j0 j0 j0<|u<|ld zbl j0 j0<|u<|mv j0<|u<|ixM zbl j0 zS j0 j0 j0 j0 q36<|u<|ldM zS j0 j0 (zo q36).2.2 j0<|u<|al 2 zS j0<|u<|sto zS j0 j0 j0<|zc ?_
     refine zl ?_
     obtain ⟨v33,q37,h⟩:=bs h
     refine rg j0<|u<|mv j0<|u<|fa zS j0 j0 j0<|u<|ld ti9 j0 j0<|u<|pcs (za5 c V.Super q37) j0 j0 (.cons (zbM j0 ⟨(ziz j0 (fun _=>j0)),j5⟩) (.cons (si j0) .nil)) zek<|u<|lss ti3 j0 j0<|zc ?_
     refine zk j0 (fun G=>?_) (fun G=>?_)
     ·
      replace h:=bT G h
      refine rg j0<|u<|asg j0<|u<|asg j0<|zc ?_
      refine zp ?_
      obtain rfl:=sm h
      exact ⟨_,j0,_,j0,[],zer ⟨(ci j0),(ci j0),j5⟩,j0,j5,j0,j1⟩
     ·
      replace h:=bF G h
      refine zm ?_
      refine rg j0<|u<|asg j0<|zc ?_
      obtain ⟨o,ho,h⟩:=bs h
      refine zU (X:=Int) (B:=Unit) (R:=(Option zE)×Int) (fun z=>[(4,.mpt 0 0 0),(6,iA P),(7,.mpt 2 0 0),(8,iA z)]) (fun z=>[some (1,[[.msl 1 0 (List.length c)]]),some (6,List.map zb c),some (6,[(zb V)])]) (fun b=>[(4,.mpt 0 0 0),(6,iA P)]) (fun b=>[some (1,[[.msl 1 0 (List.length c)]]),some (6,List.map zb c)]) (fun r env st=>zaD Tryz.prog Tryz.f27 0 (.tup [znH 1 zfG r.1,iA r.2]) [] env st) ho ⟨[.old 0,.old 1,.old 2],cv j0 (.mpt j0)<|ce j0 j0<|cv j0 (.mpt j0)<|ce j0 j0<|cn,j0,⟨⟨_,j0,zn ⟨.msl j0,j5⟩⟩,⟨_,j0,zg (fun _=>j0)⟩,⟨_,j0,zn (ciL j0)⟩,j5⟩,j0,j1⟩ ?_ ?_ ?_
      ·
       rintro v37 r h
       replace h:zdv c V v37=some r:=h
       unfold zdv at h
       refine zl ?_
       refine rg j0<|u<|mv j0<|u<|fa zS j0 j0 j0<|u<|ld zak j0 j0<|u<|lnI zak j0 j0<|u<|lss ti3 j0 j0<|zc ?_
       refine zk j0 (fun H=>?_) (fun H=>?_)
       ·
        replace h:=bT H h
        refine zm ?_
        refine zl ?_
        refine zs ?_
        obtain ⟨v38,q44,h⟩:=bs h
        obtain ⟨v39,q45,h⟩:=bs h
        refine rg j0<|u<|mv j0<|u<|fa zS j0 j0 j0<|u<|ld zak j0 j0<|u<|mv j0<|u<|ixI zak j0 ti9 j0 j0 j0 q44<|u<|ldI ti9 j0 (zo q44).2.2 j0<|u<|pcs (za5 c v38 q45) j0 j0 (.cons (zbM j0 ⟨(ziz j0 (fun _=>j0)),j5⟩) (.cons (si j0) .nil)) zek<|u<|lss ti3 j0 j0<|zc ?_
        refine zk j0 (fun I=>?_) (fun I=>?_)
        ·
         replace h:=bT I h
         refine rg j0<|u<|asg j0<|u<|asg j0<|zc ?_
         refine zp ?_
         obtain rfl:=sm h
         exact ⟨_,j0,_,j0,[],zer ⟨(ci j0),(ci j0),j5⟩,j0,j5,j0,j1⟩
        ·
         replace h:=bF I h
         refine zm ?_
         refine rl j0<|u<|mv j0<|u<|add ti3 j0 j0<|u<|asg j0<|zc ?_
         obtain rfl:=sm h
         exact ⟨_,j0,[.old 0,.old 1,.old 2],cv j0 (.mpt j0)<|ce j0 j0<|cv j0 (.mpt j0)<|ce j0 j0<|cn,j0,⟨⟨_,j0,zn ⟨.msl j0,j5⟩⟩,⟨_,j0,zg (fun _=>j0)⟩,⟨_,j0,zn (ciL j0)⟩,j5⟩,j0,j1⟩
       ·
        replace h:=bF H h
        refine zB ?_
        obtain rfl:=sm h
        exact ⟨j0,_,j0,[.old 0,.old 1],cv j0 (.mpt j0)<|ce j0 j0<|cn,j0,⟨⟨_,j0,zn ⟨.msl j0,j5⟩⟩,⟨_,j0,zg (fun _=>j0)⟩,j5⟩,j0,j1⟩
      ·
       rintro ⟨⟩ rfl
       replace h:zg1 P=some r:=h
       unfold zg1 at h
       refine zx ?_
       refine rl j0<|u<|mv j0<|u<|add ti3 j0 j0<|u<|asg j0<|zc ?_
       obtain rfl:=sm h
       exact ⟨_,j0,[.old 0,.old 1],cv j0 (.mpt j0)<|ce j0 j0<|cn,j0,⟨⟨_,j0,zn ⟨.msl j0,j5⟩⟩,⟨_,j0,zg (fun _=>j0)⟩,j5⟩,j0,j1⟩
      ·
       rintro r' rfl env st hp
       obtain rfl:=sm h
       exact ⟨_,j0,hp⟩
    ·
     replace h:=bF F h
     refine zB ?_
     obtain rfl:=sm h
     exact ⟨j0,_,j0,[.old 0,.old 1],cv j0 (.mpt j0)<|cn,j0,⟨⟨_,j0,zn ⟨.msl j0,j5⟩⟩,⟨_,j0,zg (fun _=>j0)⟩,j5⟩,j0,j1⟩
   ·
    rintro ⟨⟩ rfl
    replace h:zg2 c=some r:=h
    unfold zg2 at h
    refine zx ?_
    refine zl ?_
    refine rg j0<|u<|asg j0<|zc ?_
    obtain ⟨o,ho,h⟩:=bs h
    refine zU (X:=Int) (B:=Unit) (R:=(Option zE)×Int) (fun z=>[(4,.mpt 0 0 0),(9,iA z)]) (fun z=>[some (1,[[.msl 1 0 (List.length c)]]),some (6,List.map zb c)]) (fun b=>[(4,.mpt 0 0 0)]) (fun b=>[some (1,[[.msl 1 0 (List.length c)]]),some (6,List.map zb c)]) (fun r env st=>zaD Tryz.prog Tryz.f27 0 (.tup [znH 1 zfG r.1,iA r.2]) [] env st) ho ⟨[.old 0,.old 1],cv j0 (.mpt j0)<|ce j0 j0<|cn,j0,⟨⟨_,j0,zn ⟨.msl j0,j5⟩⟩,⟨_,j0,zg (fun _=>j0)⟩,j5⟩,j0,j1⟩ ?_ ?_ ?_
    ·
     rintro m r h
     replace h:zcF c m=some r:=h
     unfold zcF at h
     refine zl ?_
     refine rg j0<|u<|mv j0<|u<|mv j0<|u<|nc j0 j0<|u<|fa zha j0 j0 j0<|u<|ld zbl j0 j0<|u<|lnM zbl j0 j0 j0<|u<|lss ti3 j0 j0<|zc ?_
     refine zk j0 (fun J=>?_) (fun J=>?_)
     ·
      replace h:=bT J h
      refine zm ?_
      refine zl ?_
      refine zs ?_
      obtain ⟨i,q65,h⟩:=bs h
      refine rg j0<|u<|mv j0<|u<|nc j0 j0<|u<|fa zha j0 j0 j0<|u<|ld zbl j0 j0<|u<|mv j0<|u<|ixM zbl j0 zS j0 j0 j0 j0 q65<|u<|ldM zS j0 j0 (zo q65).2.2 j0<|u<|al 2 zS j0<|u<|sto zS j0 j0 j0<|zc ?_
      refine zb3 (X:=Bool) (fun z=>[(4,.mpt 0 0 0),(9,iA m),(10,.mpt 2 0 0),(11,bA z)]) (fun z=>[some (1,[[.msl 1 0 (List.length c)]]),some (6,List.map zb c),some (6,[(zb i)])]) (fun z=>zem c m i z=some r) ?_ ?_
      ·
       obtain ⟨q,q66,h⟩:=bs h
       obtain ⟨n,Q,h⟩:=bs h
       rcases bb n.Interface with e | e
       ·
        replace h:=bT e h
        exact zI [] [16,15,14,13,12,11,10,9,8,7,6,5,4,3,2,1,0] [(11,bA true),(121,bA true),(120,.lit undef),(119,.lit undef),(118,.lit undef),(117,bA n.Interface),(116,bA n.Interface),(115,.mpt 1 (Int.toNat q) 2),(114,.mpt 1 (Int.toNat q) 0),(113,iA q),(112,sA i.Super),(111,.mpt 2 0 1),(110,.mpt 0 0 0),(109,.msl 1 0 (List.length c)),(108,.mpt 0 0 0),(107,.mpt 0 0 0),(106,.mpt 0 0 0)] 0 (by kernel_rfl) (by kernel_rfl) j0 (by kernel_rfl) (dt0 ⟨(fun _=>pa j0 j0 j0 j0 (asg j0<|j4)),(fun _=>pa j0 j0 j0 j0 (pkb j0 e j0<|j4)),(fun _=>pas (b:=n.Interface) j0 j0 j0 j0 e j0),(fun _=>pas (b:=n.Interface) j0 j0 j0 j0 e j0),(fun _=>pas (b:=n.Interface) j0 j0 j0 j0 e j0),(fun _=>pa j0 j0 j0 j0 (mv j0<|j4)),(fun _=>pa j0 j0 j0 j0 (ldM ti4 j0 j0 (zo Q).2.2 j0<|j4)),(fun _=>pa j0 j0 j0 j0 (fa zS j0 j0 j0<|j4)),(fun _=>pa j0 j0 j0 j0 (ixM zbl j0 zS j0 j0 j0 j0 Q<|j4)),(fun _=>pa j0 j0 j0 j0 (pcs (za5 c i.Super q66) j0 j0 (.cons (zbM j0 ⟨(ziz j0 (fun _=>j0)),j5⟩) (.cons (si j0) .nil)) zek<|j4)),(fun _=>pa j0 j0 j0 j0 (ld ti9 j0 j0<|j4)),(fun _=>pa j0 j0 j0 j0 (fa zS j0 j0 j0<|j4)),(fun _=>pa j0 j0 j0 j0 (mv j0<|j4)),(fun _=>pa j0 j0 j0 j0 (ld zbl j0 j0<|j4)),(fun _=>pa j0 j0 j0 j0 (fa zha j0 j0 j0<|j4)),(fun _=>pa j0 j0 j0 j0 (nc j0 j0<|j4)),(fun _=>pa j0 j0 j0 j0 (mv j0<|j4)),j5⟩ (by kernel_rfl) j0 ⟨true,h,[.old 0,.old 1,.old 2],cv j0 (.mpt j0)<|ce j0 j0<|cv j0 (.mpt j0)<|ce j0 j0<|cn,j0,⟨⟨_,j0,zn ⟨.msl j0,j5⟩⟩,⟨_,j0,zg (fun _=>j0)⟩,⟨_,j0,zn (ciL j0)⟩,j5⟩,j0,j1⟩)
       ·
        replace h:=bF e h
        obtain ⟨S,q69,h⟩:=bs h
        exact zI [] [16,15,14,13,12,11,10,9,8,7,6,5,4,3,2,1,0] [(11,bA S),(121,bA S),(120,bA S),(119,iA m),(118,.mpt 0 0 0),(117,bA n.Interface),(116,bA n.Interface),(115,.mpt 1 (Int.toNat q) 2),(114,.mpt 1 (Int.toNat q) 0),(113,iA q),(112,sA i.Super),(111,.mpt 2 0 1),(110,.mpt 0 0 0),(109,.msl 1 0 (List.length c)),(108,.mpt 0 0 0),(107,.mpt 0 0 0),(106,.mpt 0 0 0)] 0 (by kernel_rfl) (by kernel_rfl) j0 (by kernel_rfl) (dt0 ⟨(fun _=>pa j0 j0 j0 j0 (asg j0<|j4)),(fun _=>pa j0 j0 j0 j0 (pkb j0 e j0<|j4)),(fun _=>pag (b:=n.Interface) j0 j0 j0 j0 e j0 (pcs (zi7 c m q69) j0 j0 (.cons (zbM j0 ⟨(ziz j0 (fun _=>j0)),j5⟩) (.cons (si j0) .nil)) zek<|j4)),(fun _=>pag (b:=n.Interface) j0 j0 j0 j0 e j0 (mv j0<|j4)),(fun _=>pag (b:=n.Interface) j0 j0 j0 j0 e j0 (mv j0<|j4)),(fun _=>pa j0 j0 j0 j0 (mv j0<|j4)),(fun _=>pa j0 j0 j0 j0 (ldM ti4 j0 j0 (zo Q).2.2 j0<|j4)),(fun _=>pa j0 j0 j0 j0 (fa zS j0 j0 j0<|j4)),(fun _=>pa j0 j0 j0 j0 (ixM zbl j0 zS j0 j0 j0 j0 Q<|j4)),(fun _=>pa j0 j0 j0 j0 (pcs (za5 c i.Super q66) j0 j0 (.cons (zbM j0 ⟨(ziz j0 (fun _=>j0)),j5⟩) (.cons (si j0) .nil)) zek<|j4)),(fun _=>pa j0 j0 j0 j0 (ld ti9 j0 j0<|j4)),(fun _=>pa j0 j0 j0 j0 (fa zS j0 j0 j0<|j4)),(fun _=>pa j0 j0 j0 j0 (mv j0<|j4)),(fun _=>pa j0 j0 j0 j0 (ld zbl j0 j0<|j4)),(fun _=>pa j0 j0 j0 j0 (fa zha j0 j0 j0<|j4)),(fun _=>pa j0 j0 j0 j0 (nc j0 j0<|j4)),(fun _=>pa j0 j0 j0 j0 (mv j0<|j4)),j5⟩ (by kernel_rfl) j0 ⟨S,h,[.old 0,.old 1,.old 2],cv j0 (.mpt j0)<|ce j0 j0<|cv j0 (.mpt j0)<|ce j0 j0<|cn,j0,⟨⟨_,j0,zn ⟨.msl j0,j5⟩⟩,⟨_,j0,zg (fun _=>j0)⟩,⟨_,j0,zn (ciL j0)⟩,j5⟩,j0,j1⟩)
      ·
       rintro v62 h
       replace h:zem c m i v62=some r:=h
       unfold zem at h
       refine zl ?_
       refine rg j0<|u<|asg j0<|zc ?_
       obtain ⟨o,ho,h⟩:=bs h
       refine zU (X:=Bool×Int) (B:=Bool) (R:=(Option zE)×Int) (fun z=>[(4,.mpt 0 0 0),(9,iA m),(10,.mpt 2 0 0),(11,bA z.1),(12,iA z.2)]) (fun z=>[some (1,[[.msl 1 0 (List.length c)]]),some (6,List.map zb c),some (6,[(zb i)])]) (fun b=>[(4,.mpt 0 0 0),(9,iA m),(11,bA b)]) (fun b=>[some (1,[[.msl 1 0 (List.length c)]]),some (6,List.map zb c)]) (fun r env st=>zaD Tryz.prog Tryz.f27 0 (.tup [znH 1 zfG r.1,iA r.2]) [] env st) ho ⟨[.old 0,.old 1,.old 2],cv j0 (.mpt j0)<|ce j0 j0<|cv j0 (.mpt j0)<|ce j0 j0<|ce j0 j0<|cn,j0,⟨⟨_,j0,zn ⟨.msl j0,j5⟩⟩,⟨_,j0,zg (fun _=>j0)⟩,⟨_,j0,zn (ciL j0)⟩,j5⟩,j0,j1⟩ ?_ ?_ ?_
       ·
        rintro ⟨d,v⟩ r h
        replace h:zbC c i d v=some r:=h
        unfold zbC at h
        refine zl ?_
        refine rg j0<|u<|mv j0<|u<|fa zS j0 j0 j0<|u<|ld zak j0 j0<|u<|lnI zak j0 j0<|u<|lss ti3 j0 j0<|zc ?_
        refine zk j0 (fun K=>?_) (fun K=>?_)
        ·
         replace h:=bT K h
         refine zm ?_
         refine zl ?_
         refine zs ?_
         rcases bb d with a | a
         ·
          replace h:=bT a h
          refine rdL [(4,.mpt 0 0 0),(9,iA m),(10,.mpt 2 0 0),(11,bA true),(12,iA v)] [some (1,[[.msl 1 0 (List.length c)]]),some (6,List.map zb c),some (6,[(zb i)])] [] [18,17,16,15,14,13,12,11,10,9,8,7,6,5,4,3,2,1,0] [(11,bA true),(146,bA true),(145,.lit undef),(144,.lit undef),(143,.lit undef),(142,.lit undef),(141,.lit undef),(140,.lit undef),(139,.lit undef),(138,.lit undef),(137,.lit undef),(136,.lit undef),(135,.lit undef),(134,.lit undef),(133,.lit undef),(132,.lit undef),(131,.lit undef),(130,bA d),(129,bA d)] 0 (by kernel_rfl) (by kernel_rfl) j0 (by kernel_rfl) (dt0 ⟨(fun _=>pa j0 j0 j0 j0 (asg j0<|j4)),(fun _=>pa j0 j0 j0 j0 (pkb j0 a j0<|j4)),(fun _=>pas (b:=d) j0 j0 j0 j0 a j0),(fun _=>pas (b:=d) j0 j0 j0 j0 a j0),(fun _=>pas (b:=d) j0 j0 j0 j0 a j0),(fun _=>pas (b:=d) j0 j0 j0 j0 a j0),(fun _=>pas (b:=d) j0 j0 j0 j0 a j0),(fun _=>pas (b:=d) j0 j0 j0 j0 a j0),(fun _=>pas (b:=d) j0 j0 j0 j0 a j0),(fun _=>pas (b:=d) j0 j0 j0 j0 a j0),(fun _=>pas (b:=d) j0 j0 j0 j0 a j0),(fun _=>pas (b:=d) j0 j0 j0 j0 a j0),(fun _=>pas (b:=d) j0 j0 j0 j0 a j0),(fun _=>pas (b:=d) j0 j0 j0 j0 a j0),(fun _=>pas (b:=d) j0 j0 j0 j0 a j0),(fun _=>pas (b:=d) j0 j0 j0 j0 a j0),(fun _=>pas (b:=d) j0 j0 j0 j0 a j0),(fun _=>pa j0 j0 j0 j0 (mv j0<|j4)),(fun _=>pa j0 j0 j0 j0 (mv j0<|j4)),j5⟩ (by kernel_rfl) j0 ⟨[.old 0,.old 1,.old 2],cv j0 (.mpt j0)<|ce j0 j0<|cv j0 (.mpt j0)<|ce j0 j0<|ce j0 j0<|cn,j0,⟨⟨_,j0,zn ⟨.msl j0,j5⟩⟩,⟨_,j0,zg (fun _=>j0)⟩,⟨_,j0,zn (ciL j0)⟩,j5⟩,j0,j1⟩) ?_
          refine rl j0<|u<|mv j0<|u<|add ti3 j0 j0<|u<|asg j0<|zc ?_
          obtain rfl:=sm h
          exact ⟨_,j0,[.old 0,.old 1,.old 2],cv j0 (.mpt j0)<|ce j0 j0<|cv j0 (.mpt j0)<|ce j0 j0<|ce j0 j0<|cn,j0,⟨⟨_,j0,zn ⟨.msl j0,j5⟩⟩,⟨_,j0,zg (fun _=>j0)⟩,⟨_,j0,zn (ciL j0)⟩,j5⟩,j0,j1⟩
         ·
          replace h:=bF a h
          obtain ⟨v70,q77,h⟩:=bs h
          obtain ⟨W,q78,h⟩:=bs h
          obtain ⟨C,q79,h⟩:=bs h
          refine rdL [(4,.mpt 0 0 0),(9,iA m),(10,.mpt 2 0 0),(11,bA (!C.Interface)),(12,iA v)] [some (1,[[.msl 1 0 (List.length c)]]),some (6,List.map zb c),some (6,[(zb i)])] [] [18,17,16,15,14,13,12,11,10,9,8,7,6,5,4,3,2,1,0] [(11,bA (!C.Interface)),(146,bA (!C.Interface)),(145,bA (!C.Interface)),(144,bA C.Interface),(143,.mpt 1 (Int.toNat W) 2),(142,.mpt 1 (Int.toNat W) 0),(141,iA W),(140,sA v70),(139,.ipt 1 (List.map zz i.Impl) (Int.toNat v) 0),(138,iA v),(137,.isl 1 (List.map zz i.Impl)),(136,.mpt 2 0 3),(135,.mpt 0 0 0),(134,.msl 1 0 (List.length c)),(133,.mpt 0 0 0),(132,.mpt 0 0 0),(131,.mpt 0 0 0),(130,bA d),(129,bA d)] 0 (by kernel_rfl) (by kernel_rfl) j0 (by kernel_rfl) (dt0 ⟨(fun _=>pa j0 j0 j0 j0 (asg j0<|j4)),(fun _=>pa j0 j0 j0 j0 (pkb j0 a j0<|j4)),(fun _=>pag (b:=d) j0 j0 j0 j0 a j0 (nt j0<|j4)),(fun _=>pag (b:=d) j0 j0 j0 j0 a j0 (ldM ti4 j0 j0 (zo q79).2.2 j0<|j4)),(fun _=>pag (b:=d) j0 j0 j0 j0 a j0 (fa zS j0 j0 j0<|j4)),(fun _=>pag (b:=d) j0 j0 j0 j0 a j0 (ixM zbl j0 zS j0 j0 j0 j0 q79<|j4)),(fun _=>pag (b:=d) j0 j0 j0 j0 a j0 (pcs (za5 c v70 q78) j0 j0 (.cons (zbM j0 ⟨(ziz j0 (fun _=>j0)),j5⟩) (.cons (si j0) .nil)) zek<|j4)),(fun _=>pag (b:=d) j0 j0 j0 j0 a j0 (ldI ti9 j0 (zo q77).2.2 j0<|j4)),(fun _=>pag (b:=d) j0 j0 j0 j0 a j0 (ixI zak j0 ti9 j0 j0 j0 q77<|j4)),(fun _=>pag (b:=d) j0 j0 j0 j0 a j0 (mv j0<|j4)),(fun _=>pag (b:=d) j0 j0 j0 j0 a j0 (ld zak j0 j0<|j4)),(fun _=>pag (b:=d) j0 j0 j0 j0 a j0 (fa zS j0 j0 j0<|j4)),(fun _=>pag (b:=d) j0 j0 j0 j0 a j0 (mv j0<|j4)),(fun _=>pag (b:=d) j0 j0 j0 j0 a j0 (ld zbl j0 j0<|j4)),(fun _=>pag (b:=d) j0 j0 j0 j0 a j0 (fa zha j0 j0 j0<|j4)),(fun _=>pag (b:=d) j0 j0 j0 j0 a j0 (nc j0 j0<|j4)),(fun _=>pag (b:=d) j0 j0 j0 j0 a j0 (mv j0<|j4)),(fun _=>pa j0 j0 j0 j0 (mv j0<|j4)),(fun _=>pa j0 j0 j0 j0 (mv j0<|j4)),j5⟩ (by kernel_rfl) j0 ⟨[.old 0,.old 1,.old 2],cv j0 (.mpt j0)<|ce j0 j0<|cv j0 (.mpt j0)<|ce j0 j0<|ce j0 j0<|cn,j0,⟨⟨_,j0,zn ⟨.msl j0,j5⟩⟩,⟨_,j0,zg (fun _=>j0)⟩,⟨_,j0,zn (ciL j0)⟩,j5⟩,j0,j1⟩) ?_
          refine rl j0<|u<|mv j0<|u<|add ti3 j0 j0<|u<|asg j0<|zc ?_
          obtain rfl:=sm h
          exact ⟨_,j0,[.old 0,.old 1,.old 2],cv j0 (.mpt j0)<|ce j0 j0<|cv j0 (.mpt j0)<|ce j0 j0<|ce j0 j0<|cn,j0,⟨⟨_,j0,zn ⟨.msl j0,j5⟩⟩,⟨_,j0,zg (fun _=>j0)⟩,⟨_,j0,zn (ciL j0)⟩,j5⟩,j0,j1⟩
        ·
         replace h:=bF K h
         refine zB ?_
         obtain rfl:=sm h
         exact ⟨j0,_,j0,[.old 0,.old 1],cv j0 (.mpt j0)<|ce j0 j0<|ce j0 j0<|cn,j0,⟨⟨_,j0,zn ⟨.msl j0,j5⟩⟩,⟨_,j0,zg (fun _=>j0)⟩,j5⟩,j0,j1⟩
       ·
        rintro v73 rfl
        replace h:zfZ m v73=some r:=h
        unfold zfZ at h
        refine zx ?_
        refine rg j0<|u<|mv j0<|zc ?_
        refine zk j0 (fun L=>?_) (fun L=>?_)
        ·
         replace h:=bT L h
         refine rg j0<|u<|asg j0<|u<|asg j0<|zc ?_
         refine zp ?_
         obtain rfl:=sm h
         exact ⟨_,j0,_,j0,[],zer ⟨(ci j0),(ci j0),j5⟩,j0,j5,j0,j1⟩
        ·
         replace h:=bF L h
         refine zm ?_
         refine rl j0<|u<|mv j0<|u<|add ti3 j0 j0<|u<|asg j0<|zc ?_
         obtain rfl:=sm h
         exact ⟨_,j0,[.old 0,.old 1],cv j0 (.mpt j0)<|ce j0 j0<|cn,j0,⟨⟨_,j0,zn ⟨.msl j0,j5⟩⟩,⟨_,j0,zg (fun _=>j0)⟩,j5⟩,j0,j1⟩
       ·
        rintro r' rfl env st hp
        obtain rfl:=sm h
        exact ⟨_,j0,hp⟩
     ·
      replace h:=bF J h
      refine zB ?_
      obtain rfl:=sm h
      exact ⟨j0,_,j0,[.old 0,.old 1],cv j0 (.mpt j0)<|cn,j0,⟨⟨_,j0,zn ⟨.msl j0,j5⟩⟩,⟨_,j0,zg (fun _=>j0)⟩,j5⟩,j0,j1⟩
    ·
     rintro ⟨⟩ rfl
     replace h:zhM c=some r:=h
     unfold zhM at h
     refine zx ?_
     refine rg j0<|u<|mv j0<|u<|asg j0<|u<|asg j0<|zc ?_
     refine zp ?_
     obtain rfl:=sm h
     exact ⟨_,j0,[],zer ⟨(rsP j0 j0 ⟨(zic j0 j0 (fun _=>j0)),j5⟩ j0),(ci j0),j5⟩,j0,j5,j0,j1⟩
    ·
     rintro r' rfl env st hp
     obtain rfl:=sm h
     exact hp
   ·
    rintro r' rfl env st hp
    obtain rfl:=sm h
    exact hp
  ·
   rintro r' rfl env st hp
   obtain rfl:=sm h
   exact hp
end
end Go.Proofs.YthmnlfenkhmmhaaGreat
namespace Go.Proofs.YthmnlfenkhmmhaaGreat
noncomputable section
set_option linter.unusedSimpArgs false
set_option linter.unusedVariables false
set_option maxRecDepth 100000
set_option maxHeartbeats 4000000
def zoO (a:List UInt8):Unit :=
  ()
theorem zn9 (a:List UInt8) {r:Unit} (h:zoO a=r):SC Tryz.prog 21 [sA a] [] (.agg [sA a,sA [79,98,106,101,99,116],bA false,.lit (.slice none 0 0),.msl 0 0 1,.msl 1 0 1]) [.xs 3 [[sA [120],sA [73],bA false]],.xs 10 [[sA [109,97,105,110],.lit (.slice none 0 0),sA [86],bA true,bA false,iA 0,iA 0,.msl 2 0 1,.lit (.slice none 0 0),.lit (.slice none 0 0)]],.xs 4 [[iA 46,iA 0,sA [],sA []]]]:=by
 refine ⟨⟨j5,j5,j5,j5⟩,za2 Tryz.func21 j0 (by kernel_rfl) j0 ?_⟩
 unfold zoO at h
 refine rg j0<|u<|al 0 zS j0<|zc ?_
 refine rg j0<|u<|mv j0<|u<|bd zcG j0 j0 j0<|u<|bl 1 zes j0 zcG j0 (by decide) (by decide) j0 j0 j0<|u<|bd zeU j0 j0 j0<|u<|bl 2 zeT j0 zeU j0 (by decide) (by decide) j0 j0 j0<|u<|bd zad j0 j0 j0<|u<|bl 3 zh3 j0 zad j0 (by decide) (by decide) j0 j0 j0<|u<|bd zS j0 j0 j0<|u<|sto zS j0 j0 j0<|zc ?_
 refine zp ?_
 obtain rfl:=h
 exact ⟨_,j0,[.old 1,.old 3,.old 2],zp5 ⟨ci j0,ci j0,ci j0,ci j0,(.msl j0),(.msl j0),j5⟩,j0,⟨⟨_,j0,zen ⟨⟨(ci j0),(ci j0),(ci j0),j5⟩,j5⟩⟩,⟨_,j0,zen ⟨⟨(ci j0),(ci j0),(ci j0),(ci j0),(ci j0),(ci j0),(ci j0),(.msl j0),(ci j0),(ci j0),j5⟩,j5⟩⟩,⟨_,j0,zen ⟨⟨(ci j0),(ci j0),(ci j0),(ci j0),j5⟩,j5⟩⟩,j5⟩,j0,j1⟩
def zoP:Unit :=
  ()
theorem zoa {r:Unit} (h:zoP=r):SC Tryz.prog 93 [] [] (.msl 0 0 3) [.xs 6 [[sA [70,97,99,101],sA [79,98,106,101,99,116],bA true,.lit (.slice none 0 0),.lit (.slice none 0 0),.msl 1 0 1],[sA [65,97],sA [79,98,106,101,99,116],bA false,.msl 2 0 1,.msl 3 0 2,.msl 4 0 1],[sA [66,98],sA [65,97],bA false,.lit (.slice none 0 0),.msl 6 0 1,.msl 7 0 1]],.xs 10 [[sA [102],.lit (.slice none 0 0),sA [73],bA false,bA true,iA 0,iA 0,.lit (.slice none 0 0),.lit (.slice none 0 0),.lit (.slice none 0 0)]],.xs 1 [[sA [70,97,99,101]]],.xs 3 [[sA [120],sA [73],bA false],[sA [115],sA [73],bA true]],.xs 10 [[sA [102],.lit (.slice none 0 0),sA [73],bA false,bA false,iA 1,iA 1,.msl 5 0 2,.lit (.slice none 0 0),.lit (.slice none 0 0)]],.xs 4 [[iA 1,iA 5,sA [],sA []],[iA 47,iA 0,sA [],sA []]],.xs 3 [[sA [121],sA [91,65,97],bA false]],.xs 10 [[sA [109,97,105,110],.lit (.slice none 0 0),sA [86],bA true,bA false,iA 0,iA 0,.msl 8 0 1,.lit (.slice none 0 0),.lit (.slice none 0 0)]],.xs 4 [[iA 46,iA 0,sA [],sA []]]]:=by
 refine ⟨⟨j5,j5,j5,j5,j5,j5,j5,j5,j5,j5⟩,za2 Tryz.func93 j0 (by kernel_rfl) j0 ?_⟩
 unfold zoP at h
 refine rg j0<|u<|asg j0<|zc ?_
 refine rg j0<|u<|bd zad j0 j0 j0<|u<|bl 0 zh3 j0 zad j0 (by decide) (by decide) j0 j0 j0<|u<|bd zS j0 j0 j0<|u<|al 1 zS j0<|u<|sto zS j0 j0 j0<|zc ?_
 refine rg j0<|u<|bl 2 zak j0 ti9 j0 (by decide) (by decide) j0 j0 j0<|u<|bd zcG j0 j0 j0<|u<|bd zcG j0 j0 j0<|u<|bl 3 zes j0 zcG j0 (by decide) (by decide) j0 j0 j0<|u<|bd zeU j0 j0 j0<|u<|bd zeU j0 j0 j0<|u<|bl 4 zeT j0 zeU j0 (by decide) (by decide) j0 j0 j0<|u<|bd (parts:=[(0,sA [102]),(2,sA [73]),(5,iA 1),(6,iA 1),(7,.msl 4 0 2)]) (cs:=[sA [102],.lit (.slice none 0 0),sA [73],bA false,bA false,iA 1,iA 1,.msl 4 0 2,.lit (.slice none 0 0),.lit (.slice none 0 0)]) zad j0 j0 (by kernel_rfl)<|u<|bl 5 zh3 j0 zad j0 (by decide) (by decide) j0 j0 j0<|u<|bd (parts:=[(0,sA [65,97]),(1,sA [79,98,106,101,99,116]),(3,.msl 2 0 1),(4,.msl 3 0 2),(5,.msl 5 0 1)]) (cs:=[sA [65,97],sA [79,98,106,101,99,116],bA false,.msl 2 0 1,.msl 3 0 2,.msl 5 0 1]) zS j0 j0 (by kernel_rfl)<|u<|al 6 zS j0<|u<|sto zS j0 j0 j0<|zc ?_
 refine rg j0<|u<|sc [] (zn9 [66,98] j0) j0 j0 j0 j0 ⟨(rnI j0),j5⟩ j5<|u<|al 10 zS j0<|u<|sto zS j0 j0 j0<|zc ?_
 refine rg j0<|u<|fa zS j0 j0 j0<|u<|sto ti9 j0 j0 j0<|zc ?_
 refine rg j0<|u<|bd zcG j0 j0 j0<|u<|bl 11 zes j0 zcG j0 (by decide) (by decide) j0 j0 j0<|u<|fa zS j0 j0 j0<|u<|sto zes j0 j0 j0<|zc ?_
 refine rg j0<|u<|ld zS j0 j0<|u<|ld zS j0 j0<|u<|ld zS j0 j0<|u<|bl 12 zbl j0 zS j0 (by decide) (by decide) j0 j0 j0<|u<|asg j0<|zc ?_
 refine zp ?_
 obtain rfl:=h
 exact ⟨_,j0,[.old 12,.old 0,.old 2,.old 3,.old 5,.old 4,.old 11,.old 8,.old 9],.msl j0,j0,⟨⟨_,j0,zen ⟨⟨(ci j0),(ci j0),(ci j0),(ci j0),(ci j0),(.msl j0),j5⟩,⟨(ci j0),(ci j0),(ci j0),(.msl j0),(.msl j0),(.msl j0),j5⟩,⟨(ci j0),(ci j0),(ci j0),(ci j0),(.msl j0),(.msl j0),j5⟩,j5⟩⟩,⟨_,j0,zen ⟨⟨(ci j0),(ci j0),(ci j0),(ci j0),(ci j0),(ci j0),(ci j0),(ci j0),(ci j0),(ci j0),j5⟩,j5⟩⟩,⟨_,j0,zen ⟨⟨(ci j0),j5⟩,j5⟩⟩,⟨_,j0,zen ⟨⟨(ci j0),(ci j0),(ci j0),j5⟩,⟨(ci j0),(ci j0),(ci j0),j5⟩,j5⟩⟩,⟨_,j0,zen ⟨⟨(ci j0),(ci j0),(ci j0),(ci j0),(ci j0),(ci j0),(ci j0),(.msl j0),(ci j0),(ci j0),j5⟩,j5⟩⟩,⟨_,j0,zen ⟨⟨(ci j0),(ci j0),(ci j0),(ci j0),j5⟩,⟨(ci j0),(ci j0),(ci j0),(ci j0),j5⟩,j5⟩⟩,⟨_,j0,zen ⟨⟨(ci j0),(ci j0),(ci j0),j5⟩,j5⟩⟩,⟨_,j0,zen ⟨⟨(ci j0),(ci j0),(ci j0),(ci j0),(ci j0),(ci j0),(ci j0),(.msl j0),(ci j0),(ci j0),j5⟩,j5⟩⟩,⟨_,j0,zen ⟨⟨(ci j0),(ci j0),(ci j0),(ci j0),j5⟩,j5⟩⟩,j5⟩,j0,j1⟩
def zdl (a:List (List UInt8)):Option ((List (List UInt8))) :=
  some a
def zah (b:List za) (c:List (List UInt8)) (a:Int):Option (Sum ((List (List UInt8))×Int) (Sum ((List (List UInt8))) ((List (List UInt8))))) :=
  cond (decide (a < (List.length b:Int))) ((idx b a).bind fun e=>(zhp 16 c [e.Name]).bind fun d=>some (.inl (d,(IntKind.i64.wrap (a+1))))) (some (.inr (.inl c)))
def zcf (a:List za) (c:List (List UInt8×Int)):Option ((List (List UInt8))) :=
  (zu (fun z=>zah a z.1 z.2) ([],0)).bind fun o=>zQ o (fun b=>zdl b) some
theorem zhy (a:List za) (d:List (List UInt8×Int)) {r:(List (List UInt8))} (h:zcf a d=some r):SC Tryz.prog 104 [.ipt 2 [[.isl 6 (List.map zb a),.imp (List.map (rKV (fun x=>iA x)) d)]] 0 0] [] (.msl 0 0 (List.length r)) [.many 1 (List.map zz r)]:=by
 refine ⟨⟨ze9 (sz:=1) (fun _=>j0),j5⟩,za2 Tryz.func104 j0 (by kernel_rfl) j0 ?_⟩
 unfold zcf at h
 refine rg j0<|u<|asg j0<|zc ?_
 refine zl ?_
 refine rg j0<|u<|mv j0<|u<|eqp zjm j0 j0 j0 j0 j0 j0<|zc ?_
 refine zk j0 (fun hx=>by cases hx) (fun _=>?_)
 refine zm ?_
 refine rg j0<|u<|asg j0<|zc ?_
 refine zl ?_
 refine rg j0<|u<|mv j0<|u<|nc j0 j0<|u<|fa zjh j0 j0 j0<|u<|ld zbl j0 j0<|u<|lnI zbl j0 j0<|u<|mv j0<|zc ?_
 obtain ⟨o,ho,h⟩:=bs h
 refine zU (X:=(List (List UInt8))×Int) (B:=(List (List UInt8))) (R:=(List (List UInt8))) (fun z=>[(3,.msl 0 0 (List.length z.1)),(11,.isl 6 (List.map zb a)),(12,iA (List.length a:Int)),(13,iA z.2)]) (fun z=>[some (1,List.map zz z.1)]) (fun b=>[(3,.msl 0 0 (List.length b))]) (fun b=>[some (1,List.map zz b)]) (fun r env st=>zaD Tryz.prog Tryz.f104 0 (.msl 0 0 (List.length r)) [some (1,List.map zz r)] env st) ho ⟨[.fresh 1],cv j0 (.nilown j0)<|ce j0 j0<|ce j0 j0<|ce j0 j0<|cn,j0,⟨j4,j5⟩,j0,j1⟩ ?_ ?_ ?_
 ·
  rintro ⟨j,l⟩ r h
  replace h:zah a j l=some r:=h
  unfold zah at h
  refine rg j0<|u<|lss ti3 j0 j0<|zc ?_
  refine zl ?_
  refine zk j0 (fun c=>?_) (fun c=>?_)
  ·
   replace h:=bT c h
   refine zm ?_
   refine zl ?_
   refine zs ?_
   obtain ⟨m,e,h⟩:=bs h
   refine rg j0<|u<|ixI zbl j0 zS j0 j0 j0 e<|u<|ldI zS j0 (zo e).2.2 j0<|u<|al 1 zS j0<|u<|sto zS j0 j0 j0<|zc ?_
   obtain ⟨p,n,h⟩:=bs h
   refine rl j0<|u<|mv j0<|u<|fa zS j0 j0 j0<|u<|ld ti9 j0 j0<|u<|bl 2 zak j0 ti9 j0 (by decide) (by decide) j0 j0 j0<|u<|apM 3 zak j0 ti9 j0 j0 (by decide) zak j0 j0 j0 j0 (roX (f:=zz) (z:=[m.Name]) j0 j0) (fun _=>j0) j0 n<|u<|asg j0<|zc ?_
   refine rl j0<|u<|add ti3 j0 j0<|u<|mv j0<|zc ?_
   obtain rfl:=sm h
   exact ⟨_,j0,[.old 3],cv j0 (.msl j0)<|ce j0 j0<|ce j0 j0<|ce j0 j0<|cn,j0,⟨⟨_,j0,zg (fun _=>j0)⟩,j5⟩,j0,j1⟩
  ·
   replace h:=bF c h
   refine zB ?_
   obtain rfl:=sm h
   exact ⟨j0,_,j0,[.old 0],cv j0 (.msl j0)<|cn,j0,⟨⟨_,j0,zg (fun _=>j0)⟩,j5⟩,j0,j1⟩
 ·
  rintro i rfl
  replace h:zdl i=some r:=h
  unfold zdl at h
  refine zx ?_
  refine rg j0<|u<|mv j0<|u<|asg j0<|zc ?_
  refine zp ?_
  obtain rfl:=sm h
  exact ⟨_,j0,[.old 0],.msl j0,j0,⟨⟨_,j0,zg (fun _=>j0)⟩,j5⟩,j0,j1⟩
 ·
  rintro r' rfl env st hp
  obtain rfl:=sm h
  exact hp
def zce (a:List za) (b:List (List UInt8×Int)) (c:List UInt8):Option (za×Bool) :=
  cond (!(zbw a b c)) (some ((za.mk [] [] false [] [] []),false)) ((zbv a b c).bind fun d=>some (d,true))
theorem zhx (b:List za) (c:List (List UInt8×Int)) (d:List UInt8) {r:za×Bool} (h:zce b c d=some r):zF Tryz.prog 106 [.ipt 2 [[.isl 6 (List.map zb b),.imp (List.map (rKV (fun x=>iA x)) c)]] 0 0,sA d] (.tup [.agg (zb r.1),bA r.2]):=by
 refine zr Tryz.func106 j0 (by kernel_rfl) j0 j0 ?_
 unfold zce at h
 refine rg j0<|u<|al 0 zS j0<|u<|asg j0<|zc ?_
 refine zl ?_
 refine rg j0<|u<|mv j0<|u<|mv j0<|u<|pc (zfb b c d j0) j0 j0 j0<|u<|nt j0<|zc ?_
 refine zk j0 (fun a=>?_) (fun a=>?_)
 ·
  replace h:=bT a h
  refine rg j0<|u<|bd zS j0 j0 j0<|u<|sto zS j0 j0 j0<|u<|asg j0<|zc ?_
  refine zp ?_
  obtain rfl:=sm h
  exact ⟨_,j0,[],zer ⟨(zp5 ⟨ci j0,ci j0,ci j0,(.nil),(.nil),(.nil),j5⟩),(ci j0),j5⟩,j0,j5,j0,j1⟩
 ·
  replace h:=bF a h
  refine zm ?_
  obtain ⟨f,e,h⟩:=bs h
  refine rg j0<|u<|mv j0<|u<|mv j0<|u<|pc (zcN b c d e) j0 j0 j0<|u<|sto zS j0 j0 j0<|u<|asg j0<|zc ?_
  refine zp ?_
  obtain rfl:=sm h
  exact ⟨_,j0,[],zer ⟨(ci j0),(ci j0),j5⟩,j0,j5,j0,j1⟩
def zc3 (a:List (List UInt8)):Option ((List (List UInt8))) :=
  some a
def zaa (b:List za) (c:List (List UInt8×Int)) (a:List UInt8) (d:List (List UInt8)):Option (Sum ((List UInt8)×(List (List UInt8))) (Sum ((List (List UInt8))) ((List (List UInt8))))) :=
  cond (zbw b c a) ((zhp 16 d [a]).bind fun e=>(zbv b c a).bind fun f=>some (.inl (f.Super,e))) (some (.inr (.inl d)))
def zbp (a:List za) (c:List (List UInt8×Int)) (d:List UInt8):Option ((List (List UInt8))) :=
  (zu (fun z=>zaa a c z.1 z.2) (d,[])).bind fun o=>zQ o (fun b=>zc3 b) some
theorem zeH (a:List za) (c:List (List UInt8×Int)) (i:List UInt8) {r:(List (List UInt8))} (h:zbp a c i=some r):SC Tryz.prog 109 [.ipt 2 [[.isl 6 (List.map zb a),.imp (List.map (rKV (fun x=>iA x)) c)]] 0 0,sA i] [] (.msl 0 0 (List.length r)) [.many 1 (List.map zz r)]:=by
 refine ⟨⟨ze9 (sz:=1) (fun _=>j0),j5⟩,za2 Tryz.func109 j0 (by kernel_rfl) j0 ?_⟩
 unfold zbp at h
 refine rg j0<|u<|asg j0<|zc ?_
 refine rg j0<|u<|asg j0<|zc ?_
 obtain ⟨o,ho,h⟩:=bs h
 refine zwf (X:=(List UInt8)×(List (List UInt8))) (B:=(List (List UInt8))) (R:=(List (List UInt8))) (fun z=>[(0,.ipt 2 [[.isl 6 (List.map zb a),.imp (List.map (rKV (fun x=>iA x)) c)]] 0 0),(1,sA z.1),(5,.msl 0 0 (List.length z.2))]) (fun z=>[some (1,List.map zz z.2)]) (fun b=>[(5,.msl 0 0 (List.length b))]) (fun b=>[some (1,List.map zz b)]) (fun r env st=>zaD Tryz.prog Tryz.f109 0 (.msl 0 0 (List.length r)) [some (1,List.map zz r)] env st) ho ⟨[.fresh 1],ce j0 j0<|ce j0 j0<|cv j0 (.nilown j0)<|cn,j0,⟨j4,j5⟩,j0,j1⟩ ?_ ?_ ?_
 ·
  rintro ⟨e,l⟩ r h
  replace h:zaa a c e l=some r:=h
  unfold zaa at h
  refine zl ?_
  refine rg j0<|u<|mv j0<|u<|mv j0<|u<|pc (zfb a c e j0) j0 j0 j0<|zc ?_
  refine zk j0 (fun d=>?_) (fun d=>?_)
  ·
   replace h:=bT d h
   refine zm ?_
   refine zs ?_
   obtain ⟨p,m,h⟩:=bs h
   refine rg j0<|u<|mv j0<|u<|mv j0<|u<|bl 1 zak j0 ti9 j0 (by decide) (by decide) j0 j0 j0<|u<|apM 2 zak j0 ti9 j0 j0 (by decide) zak j0 j0 j0 j0 (roX (f:=zz) (z:=[e]) j0 j0) (fun _=>j0) j0 m<|u<|asg j0<|zc ?_
   obtain ⟨q,n,h⟩:=bs h
   refine rl j0<|u<|mv j0<|u<|mv j0<|u<|pc (zcN a c e n) j0 j0 j0<|u<|fdV j0 j0<|u<|asg j0<|zc ?_
   obtain rfl:=sm h
   exact ⟨_,j0,[.old 2],ce j0 j0<|ce j0 j0<|cv j0 (.msl j0)<|cn,j0,⟨⟨_,j0,zg (fun _=>j0)⟩,j5⟩,j0,j1⟩
  ·
   replace h:=bF d h
   refine zB ?_
   obtain rfl:=sm h
   exact ⟨j0,_,j0,[.old 0],cv j0 (.msl j0)<|cn,j0,⟨⟨_,j0,zg (fun _=>j0)⟩,j5⟩,j0,j1⟩
 ·
  rintro j rfl
  replace h:zc3 j=some r:=h
  unfold zc3 at h
  refine rg j0<|u<|mv j0<|u<|asg j0<|zc ?_
  refine zp ?_
  obtain rfl:=sm h
  exact ⟨_,j0,[.old 0],.msl j0,j0,⟨⟨_,j0,zg (fun _=>j0)⟩,j5⟩,j0,j1⟩
 ·
  rintro r' rfl env st hp
  obtain rfl:=sm h
  exact hp
end
end Go.Proofs.YthmnlfenkhmmhaaGreat
namespace Go.Proofs.YthmnlfenkhmmhaaGreat
noncomputable section
set_option linter.unusedSimpArgs false
set_option linter.unusedVariables false
set_option maxRecDepth 100000
set_option maxHeartbeats 4000000
def zc5 (a:List (List UInt8)):Option ((List (List UInt8))) :=
  some a
def zab (c:List za) (b:List (List UInt8)) (a:Int):Option (Sum ((List (List UInt8))×Int) (Sum ((List (List UInt8))) ((List (List UInt8))))) :=
  cond (decide (0≤a)) ((idx c a).bind fun d=>(zhp 16 b [d.Name]).bind fun e=>(idx c a).bind fun f=>(zba c f.Super).bind fun i=>some (.inl (e,i))) (some (.inr (.inl b)))
def zbY (a:List za) (c:List UInt8):Option ((List (List UInt8))) :=
  (zba a c).bind fun d=>(zu (fun z=>zab a z.1 z.2) ([],d)).bind fun o=>zQ o (fun b=>zc5 b) some
theorem zhk (a:List za) (e:List UInt8) {r:(List (List UInt8))} (h:zbY a e=some r):SC Tryz.prog 142 [.ipt 1 [[.isl 6 (List.map zb a)]] 0 0,sA e] [] (.msl 0 0 (List.length r)) [.many 1 (List.map zz r)]:=by
 refine ⟨⟨ze9 (sz:=1) (fun _=>j0),j5⟩,za2 Tryz.func142 j0 (by kernel_rfl) j0 ?_⟩
 unfold zbY at h
 refine rg j0<|u<|asg j0<|zc ?_
 refine rg j0<|u<|asg j0<|zc ?_
 refine zl ?_
 obtain ⟨D,s,h⟩:=bs h
 refine rg j0<|u<|mv j0<|u<|mv j0<|u<|pc (za5 a e s) j0 j0 j0<|u<|asg j0<|zc ?_
 obtain ⟨o,ho,h⟩:=bs h
 refine zU (X:=(List (List UInt8))×Int) (B:=(List (List UInt8))) (R:=(List (List UInt8))) (fun z=>[(0,.ipt 1 [[.isl 6 (List.map zb a)]] 0 0),(5,.msl 0 0 (List.length z.1)),(6,iA z.2)]) (fun z=>[some (1,List.map zz z.1)]) (fun b=>[(5,.msl 0 0 (List.length b))]) (fun b=>[some (1,List.map zz b)]) (fun r env st=>zaD Tryz.prog Tryz.f142 0 (.msl 0 0 (List.length r)) [some (1,List.map zz r)] env st) ho ⟨[.fresh 1],ce j0 j0<|cv j0 (.nilown j0)<|ce j0 j0<|cn,j0,⟨j4,j5⟩,j0,j1⟩ ?_ ?_ ?_
 ·
  rintro ⟨i,j⟩ r h
  replace h:zab a i j=some r:=h
  unfold zab at h
  refine zl ?_
  refine rg j0<|u<|mv j0<|u<|geq ti3 j0 j0<|zc ?_
  refine zk j0 (fun c=>?_) (fun c=>?_)
  ·
   replace h:=bT c h
   refine zm ?_
   refine zl ?_
   refine zs ?_
   obtain ⟨l,m,h⟩:=bs h
   obtain ⟨x,v,h⟩:=bs h
   refine rl j0<|u<|mv j0<|u<|mv j0<|u<|nc j0 j0<|u<|fa zha j0 j0 j0<|u<|ld zbl j0 j0<|u<|mv j0<|u<|ixI zbl j0 zS j0 j0 j0 m<|u<|fa zS j0 j0 j0<|u<|ldI ti9 j0 (zo m).2.2 j0<|u<|bl 1 zak j0 ti9 j0 (by decide) (by decide) j0 j0 j0<|u<|apM 2 zak j0 ti9 j0 j0 (by decide) zak j0 j0 j0 j0 (roX (f:=zz) (z:=[l.Name]) j0 j0) (fun _=>j0) j0 v<|u<|asg j0<|zc ?_
   obtain ⟨n,d,h⟩:=bs h
   obtain ⟨C,p,h⟩:=bs h
   refine rl j0<|u<|mv j0<|u<|mv j0<|u<|nc j0 j0<|u<|fa zha j0 j0 j0<|u<|ld zbl j0 j0<|u<|mv j0<|u<|ixI zbl j0 zS j0 j0 j0 d<|u<|fa zS j0 j0 j0<|u<|ldI ti9 j0 (zo d).2.2 j0<|u<|pc (za5 a n.Super p) j0 j0 j0<|u<|asg j0<|zc ?_
   obtain rfl:=sm h
   exact ⟨_,j0,[.old 2],ce j0 j0<|cv j0 (.msl j0)<|ce j0 j0<|cn,j0,⟨⟨_,j0,zg (fun _=>j0)⟩,j5⟩,j0,j1⟩
  ·
   replace h:=bF c h
   refine zB ?_
   obtain rfl:=sm h
   exact ⟨j0,_,j0,[.old 0],cv j0 (.msl j0)<|cn,j0,⟨⟨_,j0,zg (fun _=>j0)⟩,j5⟩,j0,j1⟩
 ·
  rintro q rfl
  replace h:zc5 q=some r:=h
  unfold zc5 at h
  refine zx ?_
  refine rg j0<|u<|mv j0<|u<|asg j0<|zc ?_
  refine zp ?_
  obtain rfl:=sm h
  exact ⟨_,j0,[.old 0],.msl j0,j0,⟨⟨_,j0,zg (fun _=>j0)⟩,j5⟩,j0,j1⟩
 ·
  rintro r' rfl env st hp
  obtain rfl:=sm h
  exact hp
end
end Go.Proofs.YthmnlfenkhmmhaaGreat
namespace Go.Proofs.YthmnlfenkhmmhaaGreat
set_option linter.unusedSimpArgs false
set_option linter.unusedVariables false
open Go.Shelf
theorem R.cloneM {A:Nat→Prop} {m:BM} {w:World} {st:St} (hR:R A m w st) {l:Nat} {els:List (List AV)} (hl:st[l]?=some (some (2,els))) {b:Blk} (hb:m l=some b) (hh:b.has=true) (hm:b.mp=true) :
    ∃ es clock,w.heap[b.B]?=some (.map es clock)∧R A (m.put st.length (some ⟨true,w.heap.size,0,2,0,true⟩)) (w.alloc (.map es clock)) (st++[some (2,els)]) ∧
      zbR A m st.length w A (m.put st.length (some ⟨true,w.heap.size,0,2,0,true⟩)) (st.length+1) (w.alloc (.map es clock)):=by
  obtain ⟨hbk,hok,_⟩:=hR.at hb hl
  replace hok:=hok hh
  obtain ⟨_,es,clock,h1,h2,h3⟩:=hok.mval hm
  refine ⟨es,clock,h1,?_⟩
  have hg:=zhS.alloc w (.map es clock)
  have h:=hR.swapG (w':=w.alloc (.map es clock)) st.length ⟨true,w.heap.size,0,2,0,true⟩ els hg.size hg.os hg.tape hg.output (fun B hB _=>hg.heap B hB) (fun _=>.inl (Nat.le_refl _)) (fun _=>by simp) (fun h=>by cases h)
    (fun _ h=>by cases h) (fun _ h=>by cases h) (fun _ h=>by cases h) (fun i hi=>by rw [hok.wide i hi,hbk]) (fun _ h=>by cases h)
    (fun _ _=>⟨rfl,es,clock,by show (w.heap.push _)[w.heap.size]?=_; simp,h2,h3⟩)
  have e1:(m.put st.length none).put st.length (some ⟨true,w.heap.size,0,2,0,true⟩)=m.put st.length (some ⟨true,w.heap.size,0,2,0,true⟩):=by funext x; simp only [BM.put]; split <;> rfl
  have e2:st.set st.length none=st:=List.set_eq_of_length_le (Nat.le_refl _)
  rw [e1,e2] at h
  exact h
def zuZ:Go.Shelf.Ren:=⟨fun | 5=>115 | 7=>190 | n=>n,fun | 4=>4 | 20=>20 | 23=>154 | 25=>9 | 3=>3 | n=>n,fun n=>n⟩
theorem zuX:SlLaysW.n5 Tryz.prog zuZ:={
 mixed:=by kernel_rfl
 f5 := ⟨"maps.Clone[map[string]int,string,int]", by kernel_rfl, Tryz.func115.trans (congrArg some (by kernel_rfl))⟩
 f7:=Tryz.func190.trans (congrArg some (by kernel_rfl))
 t4:=Tryz.underlying4
 a4:=Tryz.isAgg4
 z4:=Tryz.sizeOf4
 v4:=Tryz.zeroValue4
 t20:=Tryz.underlying20
 a20:=Tryz.isAgg20
 z20:=Tryz.sizeOf20
 v20:=Tryz.zeroValue20
 t23:=Tryz.underlying154
 a23:=Tryz.isAgg154
 z23:=Tryz.sizeOf154
 v23:=Tryz.zeroValue154
}
theorem zwF (els:List (List AV)):zhr Tryz.prog 115 [.mmp 0] [some (2,els)] (fun a s=>a=.mmp 1∧s=[some (2,els),some (2,els)]):=by
  refine ⟨⟨_,Tryz.func115,by kernel_rfl,by kernel_rfl⟩,fun A m w vals hR hv=>?_⟩
  have h0:V A m 1 w (.mmp 0) (vals.getD 0 undef):=hv.2 0 (by simp)
  obtain ⟨_,r,hval,hb⟩:=h0.mmp_inv
  obtain ⟨b,h1,h2,h3,h4⟩:=hR.blk 0 2 els rfl
  obtain ⟨hh,hm,rfl⟩:=hb b h1
  have hvals:vals=#[.map (some b.B)]:=by
    have h5:vals.size=1:=hv.1
    obtain ⟨u,rfl⟩:=Array.size_eq_one_iff.1 h5
    have:u=.map (some b.B):=hval
    rw [this]
  subst hvals
  obtain ⟨es,clock,h6,h7,h8⟩:=hR.cloneM rfl h1 hh hm
  refine (AnyW.maps_Clone zuX b.B es clock w h6).mono fun e w' ⟨he,hw'⟩=>?_
  subst hw'
  refine ⟨_,A,_,[some (2,els),some (2,els)],.mmp 1,he,h7,h8,?_,rfl,rfl⟩
  refine .mmp _ _ (Nat.lt_succ_self _) fun b' hb'=>?_
  simp [BM.put] at hb'
  subst hb'
  exact ⟨rfl,rfl,rfl⟩
def zu0:Go.Shelf.Ren:=⟨fun | 5=>116 | 7=>190 | n=>n,fun | 4=>4 | 20=>20 | 23=>161 | 25=>9 | 3=>67 | n=>n,fun n=>n⟩
theorem zuY:SlLaysW.n5 Tryz.prog zu0:={
 mixed:=by kernel_rfl
 f5 := ⟨"maps.Clone[map[string]daguerre/frame.Val,string,daguerre/frame.Val]", by kernel_rfl, Tryz.func116.trans (congrArg some (by kernel_rfl))⟩
 f7:=Tryz.func190.trans (congrArg some (by kernel_rfl))
 t4:=Tryz.underlying4
 a4:=Tryz.isAgg4
 z4:=Tryz.sizeOf4
 v4:=Tryz.zeroValue4
 t20:=Tryz.underlying20
 a20:=Tryz.isAgg20
 z20:=Tryz.sizeOf20
 v20:=Tryz.zeroValue20
 t23:=Tryz.underlying161
 a23:=Tryz.isAgg161
 z23:=Tryz.sizeOf161
 v23:=Tryz.zeroValue161
}
theorem zwG (els:List (List AV)):zhr Tryz.prog 116 [.mmp 0] [some (2,els)] (fun a s=>a=.mmp 1∧s=[some (2,els),some (2,els)]):=by
  refine ⟨⟨_,Tryz.func116,by kernel_rfl,by kernel_rfl⟩,fun A m w vals hR hv=>?_⟩
  have h0:V A m 1 w (.mmp 0) (vals.getD 0 undef):=hv.2 0 (by simp)
  obtain ⟨_,r,hval,hb⟩:=h0.mmp_inv
  obtain ⟨b,h1,h2,h3,h4⟩:=hR.blk 0 2 els rfl
  obtain ⟨hh,hm,rfl⟩:=hb b h1
  have hvals:vals=#[.map (some b.B)]:=by
    have h5:vals.size=1:=hv.1
    obtain ⟨u,rfl⟩:=Array.size_eq_one_iff.1 h5
    have:u=.map (some b.B):=hval
    rw [this]
  subst hvals
  obtain ⟨es,clock,h6,h7,h8⟩:=hR.cloneM rfl h1 hh hm
  refine (AnyW.maps_Clone zuY b.B es clock w h6).mono fun e w' ⟨he,hw'⟩=>?_
  subst hw'
  refine ⟨_,A,_,[some (2,els),some (2,els)],.mmp 1,he,h7,h8,?_,rfl,rfl⟩
  refine .mmp _ _ (Nat.lt_succ_self _) fun b' hb'=>?_
  simp [BM.put] at hb'
  subst hb'
  exact ⟨rfl,rfl,rfl⟩
end Go.Proofs.YthmnlfenkhmmhaaGreat
namespace Go.Proofs.YthmnlfenkhmmhaaGreat
theorem zkx:zF Tryz.prog 180 [] (.lit (.bool true)):=zf0 [] 90 (by kernel_rfl) (fun g h=>by cases h) (by kernel_rfl)
theorem zk2 {r:Bool} (_:true=r):zF Tryz.prog 180 [] (bA true):=zkx
end Go.Proofs.YthmnlfenkhmmhaaGreat
