/- LayoutOver: for every input the law returns true, and each argument reads as it read before. No further condition. Part 5 of 8. -/
import Derived.Test.YthmnlfenkhmmhaaGreatSv4
namespace Go.Proofs.YthmnlfenkhmmhaaGreat
noncomputable section
set_option linter.unusedSimpArgs false
set_option linter.unusedVariables false
set_option maxRecDepth 100000
set_option maxHeartbeats 4000000
structure zj8 where
  C:List UInt8
  M:List UInt8
def zry (x:zj8):List AV:=[sA x.C,sA x.M]
def vK (h0:List zc) (h1:List (List UInt8×Int)) (c:List UInt8) (m:ze) (x0:AV) (x1:AV) (x2:AV):List AV:=[.ipt 2 [[.isl 6 (List.map zb h0),.imp (List.map (rKV (fun x=>iA x)) h1)]] 0 0,sA c,sA m.Name,.isl 1 (List.map zi m.Params),sA m.Ret,bA m.Static,bA m.Abstract,iA m.Locals,iA m.Stack,.isl 4 (List.map zw m.Code),.isl 3 (List.map zac m.Maps),.isl 4 (List.map zW m.Traps),x0,x1,x2]
def zeg (a:List (List UInt8)):Option ((List (List UInt8))) :=
  some a
def zeh (b:List zc) (c:List (List UInt8)) (a:Int):Option (Sum ((List (List UInt8))×Int) (Sum ((List (List UInt8))) ((List (List UInt8))))) :=
  cond (decide (a < (List.length b:Int))) ((idx b a).bind fun e=>(zjq 16 c [e.Name]).bind fun d=>some (.inl (d,(IntKind.i64.wrap (a+1))))) (some (.inr (.inl c)))
def zcu (a:List zc) (c:List (List UInt8×Int)):Option ((List (List UInt8))) :=
  (zab (fun z=>zeh a z.1 z.2) ([],0)).bind fun o=>zaJ o (fun b=>zeg b) some
theorem zcY (a:List zc) (d:List (List UInt8×Int)) {r:(List (List UInt8))} (h:zcu a d=some r):SC Tryz.prog 104 [.ipt 2 [[.isl 6 (List.map zb a),.imp (List.map (rKV (fun x=>iA x)) d)]] 0 0] [] (.msl 0 0 (List.length r)) [.many 1 (List.map zi r)]:=by
 refine ⟨⟨zeU (sz:=1) (fun _=>j0),j5⟩,zad Tryz.func104 j0 (by kernel_rfl) j0 ?_⟩
 unfold zcu at h
 refine rg j0<|u<|asg j0<|za ?_
 refine zl ?_
 refine rg j0<|u<|mv j0<|u<|eqp zez j0 j0 j0 j0 j0 j0<|za ?_
 refine zh j0 (fun hx=>by cases hx) (fun _=>?_)
 refine zk ?_
 refine rg j0<|u<|asg j0<|za ?_
 refine zl ?_
 refine rg j0<|u<|mv j0<|u<|nc j0 j0<|u<|fa zkA j0 j0 j0<|u<|ld zjl j0 j0<|u<|lnI zjl j0 j0<|u<|mv j0<|za ?_
 obtain ⟨o,ho,h⟩:=bs h
 refine zT (X:=(List (List UInt8))×Int) (B:=(List (List UInt8))) (R:=(List (List UInt8))) (fun z=>[(3,.msl 0 0 (List.length z.1)),(11,.isl 6 (List.map zb a)),(12,iA (List.length a:Int)),(13,iA z.2)]) (fun z=>[some (1,List.map zi z.1)]) (fun b=>[(3,.msl 0 0 (List.length b))]) (fun b=>[some (1,List.map zi b)]) (fun r env st=>zaC Tryz.prog Tryz.f104 0 (.msl 0 0 (List.length r)) [some (1,List.map zi r)] env st) ho ⟨[.fresh 1],cv j0 (.nilown j0)<|ce j0 j0<|ce j0 j0<|ce j0 j0<|cn,j0,⟨j4,j5⟩,j0,j1⟩ ?_ ?_ ?_
 ·
  rintro ⟨j,l⟩ r h
  replace h:zeh a j l=some r:=h
  unfold zeh at h
  refine rg j0<|u<|lss ti3 j0 j0<|za ?_
  refine zl ?_
  refine zh j0 (fun c=>?_) (fun c=>?_)
  ·
   replace h:=bT c h
   refine zk ?_
   refine zl ?_
   refine zq ?_
   obtain ⟨m,e,h⟩:=bs h
   refine rg j0<|u<|ixI zjl j0 zaf j0 j0 j0 e<|u<|ldI zaf j0 (zp e).2.2 j0<|u<|al 1 zaf j0<|u<|sto zaf j0 j0 j0<|za ?_
   obtain ⟨p,n,h⟩:=bs h
   refine rl j0<|u<|mv j0<|u<|fa zaf j0 j0 j0<|u<|ld ti9 j0 j0<|u<|bl 2 zM j0 ti9 j0 (by decide) (by decide) j0 j0 j0<|u<|apM 3 zM j0 ti9 j0 j0 (by decide) zM j0 j0 j0 j0 (roX (f:=zi) (z:=[m.Name]) j0 j0) (fun _=>j0) j0 n<|u<|asg j0<|za ?_
   refine rl j0<|u<|add ti3 j0 j0<|u<|mv j0<|za ?_
   obtain rfl:=sm h
   exact ⟨_,j0,[.old 3],cv j0 (.msl j0)<|ce j0 j0<|ce j0 j0<|ce j0 j0<|cn,j0,⟨⟨_,j0,zd (fun _=>j0)⟩,j5⟩,j0,j1⟩
  ·
   replace h:=bF c h
   refine zz ?_
   obtain rfl:=sm h
   exact ⟨j0,_,j0,[.old 0],cv j0 (.msl j0)<|cn,j0,⟨⟨_,j0,zd (fun _=>j0)⟩,j5⟩,j0,j1⟩
 ·
  rintro i rfl
  replace h:zeg i=some r:=h
  unfold zeg at h
  refine zv ?_
  refine rg j0<|u<|mv j0<|u<|asg j0<|za ?_
  refine zj ?_
  obtain rfl:=sm h
  exact ⟨_,j0,[.old 0],.msl j0,j0,⟨⟨_,j0,zd (fun _=>j0)⟩,j5⟩,j0,j1⟩
 ·
  rintro r' rfl env st hp
  obtain rfl:=sm h
  exact hp
def zE (a:List zc) (b:List (List UInt8×Int)) (c:List UInt8):Option (zc×Bool) :=
  cond (!(zdt a b c)) (some ((zc.mk [] [] false [] [] []),false)) ((zcZ a b c).bind fun d=>some (d,true))
theorem zy (b:List zc) (c:List (List UInt8×Int)) (d:List UInt8) {r:zc×Bool} (h:zE b c d=some r):zu Tryz.prog 106 [.ipt 2 [[.isl 6 (List.map zb b),.imp (List.map (rKV (fun x=>iA x)) c)]] 0 0,sA d] (.tup [.agg (zb r.1),bA r.2]):=by
 refine zn Tryz.func106 j0 (by kernel_rfl) j0 j0 ?_
 unfold zE at h
 refine rg j0<|u<|al 0 zaf j0<|u<|asg j0<|za ?_
 refine zl ?_
 refine rg j0<|u<|mv j0<|u<|mv j0<|u<|pc (zdA b c d j0) j0 j0 j0<|u<|nt j0<|za ?_
 refine zh j0 (fun a=>?_) (fun a=>?_)
 ·
  replace h:=bT a h
  refine rg j0<|u<|bd zaf j0 j0 j0<|u<|sto zaf j0 j0 j0<|u<|asg j0<|za ?_
  refine zj ?_
  obtain rfl:=sm h
  exact ⟨_,j0,[],z8 ⟨(zoA ⟨ci j0,ci j0,ci j0,(.nil),(.nil),(.nil),j5⟩),(ci j0),j5⟩,j0,j5,j0,j1⟩
 ·
  replace h:=bF a h
  refine zk ?_
  obtain ⟨f,e,h⟩:=bs h
  refine rg j0<|u<|mv j0<|u<|mv j0<|u<|pc (zcV b c d e) j0 j0 j0<|u<|sto zaf j0 j0 j0<|u<|asg j0<|za ?_
  refine zj ?_
  obtain rfl:=sm h
  exact ⟨_,j0,[],z8 ⟨(ci j0),(ci j0),j5⟩,j0,j5,j0,j1⟩
def zei (b:List zc) (c:List (List UInt8×Int)) (a:List UInt8):Option (Bool) :=
  some ((a == [73])||(zdt b c a))
def zej (d:List UInt8) (a:List UInt8) (c:Bool):Option (Sum ((List UInt8)×(List UInt8)×Bool) (Sum ((List UInt8)) (Bool))) :=
  cond c ((zeW a).bind fun b=>some (.inl (a,b.1,b.2))) (some (.inr (.inl d)))
def zd6 (d:List zc) (e:List (List UInt8×Int)) (a:List UInt8):Option (Bool) :=
  (zeW a).bind fun c=>(zab (fun z=>zej z.1 z.2.1 z.2.2) (a,c.1,c.2)).bind fun o=>zaJ o (fun b=>zei d e b) some
theorem zgb (c:List zc) (d:List (List UInt8×Int)) (l:List UInt8) {r:Bool} (h:zd6 c d l=some r):zu Tryz.prog 275 [.ipt 2 [[.isl 6 (List.map zb c),.imp (List.map (rKV (fun x=>iA x)) d)]] 0 0,sA l] (bA r):=by
 refine zn Tryz.func275 j0 (by kernel_rfl) j0 j0 ?_
 unfold zd6 at h
 refine rg j0<|u<|asg j0<|za ?_
 refine zl ?_
 obtain ⟨v,n,h⟩:=bs h
 refine rg j0<|u<|mv j0<|u<|pc (zdo l n) j0 j0 j0<|u<|mv j0<|u<|ex j0 j0<|u<|ex j0 j0<|u<|asg j0<|u<|asg j0<|za ?_
 obtain ⟨o,ho,h⟩:=bs h
 refine zT (X:=(List UInt8)×(List UInt8)×Bool) (B:=(List UInt8)) (R:=Bool) (fun z=>[(0,.ipt 2 [[.isl 6 (List.map zb c),.imp (List.map (rKV (fun x=>iA x)) d)]] 0 0),(1,sA z.1),(5,sA z.2.1),(6,bA z.2.2)]) (fun z=>[]) (fun b=>[(0,.ipt 2 [[.isl 6 (List.map zb c),.imp (List.map (rKV (fun x=>iA x)) d)]] 0 0),(1,sA b)]) (fun b=>[]) (fun r env st=>zaC Tryz.prog Tryz.f275 0 (bA r) [] env st) ho ⟨[],ce j0 j0<|ce j0 j0<|ce j0 j0<|ce j0 j0<|cn,j0,j5,j0,j1⟩ ?_ ?_ ?_
 ·
  rintro ⟨p,f,m⟩ r h
  replace h:zej p f m=some r:=h
  unfold zej at h
  refine zl ?_
  refine rg j0<|u<|mv j0<|za ?_
  refine zh j0 (fun e=>?_) (fun e=>?_)
  ·
   replace h:=bT e h
   refine zk ?_
   refine zl ?_
   refine zq ?_
   refine rl j0<|u<|mv j0<|u<|asg j0<|za ?_
   obtain ⟨s,q,h⟩:=bs h
   refine rl j0<|u<|mv j0<|u<|pc (zdo f q) j0 j0 j0<|u<|mv j0<|u<|ex j0 j0<|u<|ex j0 j0<|u<|asg j0<|u<|asg j0<|za ?_
   obtain rfl:=sm h
   exact ⟨_,j0,[],ce j0 j0<|ce j0 j0<|ce j0 j0<|ce j0 j0<|cn,j0,j5,j0,j1⟩
  ·
   replace h:=bF e h
   refine zz ?_
   obtain rfl:=sm h
   exact ⟨j0,_,j0,[],ce j0 j0<|ce j0 j0<|cn,j0,j5,j0,j1⟩
 ·
  rintro i rfl
  replace h:zei c d i=some r:=h
  unfold zei at h
  refine zv ?_
  refine rg j0<|u<|mv j0<|u<|nep zez j0 j0 j0 j0 j0 j0<|u<|mv j0<|g j0 j0<|mv j0<|g j0 j0<|seq ti9 j0 j0<|g j0 j0<|mv j0<|zfo (j:=5) 3 j0 j0 j0 j0 j0 (gps j0 j0 j0) (fun a=>g j0 a<|mv j0<|g j0 a<|mv j0<|g j0 a<|pc (zdA c d i j0) j0 j0 j0<|za (egO [25,26,27] 3 a j0 j0 j0 j0)) orT<|u<|pk (b:=true) j0 j0<|u<|asg j0<|za ?_
  refine zj ?_
  obtain rfl:=sm h
  exact ⟨_,j0,[],ci j0,j0,j5,j0,j1⟩
 ·
  rintro r' rfl env st hp
  obtain rfl:=sm h
  exact hp
def zdQ (a:List (List UInt8)):Option ((List (List UInt8))) :=
  some a
def zdR (b:List zc) (c:List (List UInt8×Int)) (a:List UInt8) (d:List (List UInt8)):Option (Sum ((List UInt8)×(List (List UInt8))) (Sum ((List (List UInt8))) ((List (List UInt8))))) :=
  cond (zdt b c a) ((zjq 16 d [a]).bind fun e=>(zcZ b c a).bind fun f=>some (.inl (f.Super,e))) (some (.inr (.inl d)))
def z6 (a:List zc) (c:List (List UInt8×Int)) (d:List UInt8):Option ((List (List UInt8))) :=
  (zab (fun z=>zdR a c z.1 z.2) (d,[])).bind fun o=>zaJ o (fun b=>zdQ b) some
theorem z7 (a:List zc) (c:List (List UInt8×Int)) (i:List UInt8) {r:(List (List UInt8))} (h:z6 a c i=some r):SC Tryz.prog 109 [.ipt 2 [[.isl 6 (List.map zb a),.imp (List.map (rKV (fun x=>iA x)) c)]] 0 0,sA i] [] (.msl 0 0 (List.length r)) [.many 1 (List.map zi r)]:=by
 refine ⟨⟨zeU (sz:=1) (fun _=>j0),j5⟩,zad Tryz.func109 j0 (by kernel_rfl) j0 ?_⟩
 unfold z6 at h
 refine rg j0<|u<|asg j0<|za ?_
 refine rg j0<|u<|asg j0<|za ?_
 obtain ⟨o,ho,h⟩:=bs h
 refine zue (X:=(List UInt8)×(List (List UInt8))) (B:=(List (List UInt8))) (R:=(List (List UInt8))) (fun z=>[(0,.ipt 2 [[.isl 6 (List.map zb a),.imp (List.map (rKV (fun x=>iA x)) c)]] 0 0),(1,sA z.1),(5,.msl 0 0 (List.length z.2))]) (fun z=>[some (1,List.map zi z.2)]) (fun b=>[(5,.msl 0 0 (List.length b))]) (fun b=>[some (1,List.map zi b)]) (fun r env st=>zaC Tryz.prog Tryz.f109 0 (.msl 0 0 (List.length r)) [some (1,List.map zi r)] env st) ho ⟨[.fresh 1],ce j0 j0<|ce j0 j0<|cv j0 (.nilown j0)<|cn,j0,⟨j4,j5⟩,j0,j1⟩ ?_ ?_ ?_
 ·
  rintro ⟨e,l⟩ r h
  replace h:zdR a c e l=some r:=h
  unfold zdR at h
  refine zl ?_
  refine rg j0<|u<|mv j0<|u<|mv j0<|u<|pc (zdA a c e j0) j0 j0 j0<|za ?_
  refine zh j0 (fun d=>?_) (fun d=>?_)
  ·
   replace h:=bT d h
   refine zk ?_
   refine zq ?_
   obtain ⟨p,m,h⟩:=bs h
   refine rg j0<|u<|mv j0<|u<|mv j0<|u<|bl 1 zM j0 ti9 j0 (by decide) (by decide) j0 j0 j0<|u<|apM 2 zM j0 ti9 j0 j0 (by decide) zM j0 j0 j0 j0 (roX (f:=zi) (z:=[e]) j0 j0) (fun _=>j0) j0 m<|u<|asg j0<|za ?_
   obtain ⟨q,n,h⟩:=bs h
   refine rl j0<|u<|mv j0<|u<|mv j0<|u<|pc (zcV a c e n) j0 j0 j0<|u<|fdV j0 j0<|u<|asg j0<|za ?_
   obtain rfl:=sm h
   exact ⟨_,j0,[.old 2],ce j0 j0<|ce j0 j0<|cv j0 (.msl j0)<|cn,j0,⟨⟨_,j0,zd (fun _=>j0)⟩,j5⟩,j0,j1⟩
  ·
   replace h:=bF d h
   refine zz ?_
   obtain rfl:=sm h
   exact ⟨j0,_,j0,[.old 0],cv j0 (.msl j0)<|cn,j0,⟨⟨_,j0,zd (fun _=>j0)⟩,j5⟩,j0,j1⟩
 ·
  rintro j rfl
  replace h:zdQ j=some r:=h
  unfold zdQ at h
  refine rg j0<|u<|mv j0<|u<|asg j0<|za ?_
  refine zj ?_
  obtain rfl:=sm h
  exact ⟨_,j0,[.old 0],.msl j0,j0,⟨⟨_,j0,zd (fun _=>j0)⟩,j5⟩,j0,j1⟩
 ·
  rintro r' rfl env st hp
  obtain rfl:=sm h
  exact hp
def zdO (a:List (List UInt8)):Option ((List (List UInt8))) :=
  (zrI a).bind fun b=>some b
def zdN (a:Int) (b:List (List UInt8)) (c:List (List UInt8)):Option (Sum ((List (List UInt8))×(List (List UInt8))×Int) (Sum ((List (List UInt8))) ((List (List UInt8))))) :=
  some (.inl (b,c,(IntKind.i64.wrap (a+1))))
def zcl (a:Int) (b:List (List UInt8)):Option (Sum ((List (List UInt8))×Int) (Sum ((List (List UInt8))) ((List (List UInt8))))) :=
  some (.inl (b,(IntKind.i64.wrap (a+1))))
def zee (c:zc) (a:List (List UInt8)) (b:Int):Option (Sum ((List (List UInt8))×Int) (Sum ((List (List UInt8))) ((List (List UInt8))))) :=
  cond (decide (b < (List.length c.Impl:Int))) ((idx c.Impl b).bind fun d=>(zC a d).bind fun e=>cond (!e) ((zjq 16 a [d]).bind fun f=>zcl b f) (zcl b a)) (some (.inr (.inl a)))
def zck (a:List (List UInt8)) (c:Int) (d:zc) (e:List (List UInt8)):Option (Sum ((List (List UInt8))×(List (List UInt8))×Int) (Sum ((List (List UInt8))) ((List (List UInt8))))) :=
  (zab (fun z=>zee d z.1 z.2) (a,0)).bind fun o=>zaJ o (fun b=>zdN c e b) (fun r=>some (.inr (.inr r)))
def zdP (i:List zc) (j:List (List UInt8×Int)) (d:List (List UInt8)) (a:List (List UInt8)) (b:Int):Option (Sum ((List (List UInt8))×(List (List UInt8))×Int) (Sum ((List (List UInt8))) ((List (List UInt8))))) :=
  cond (decide (b < ((List.length a):Int))) ((idx a b).bind fun e=>(zcZ i j e).bind fun c=>cond c.Interface ((zjq 16 d [c.Name]).bind fun f=>zck a b c f) (zck a b c d)) (some (.inr (.inl d)))
def zcX (a:List zc) (c:List (List UInt8×Int)) (d:List UInt8):Option ((List (List UInt8))) :=
  cond (!(zdt a c d)) (some []) ((z6 a c d).bind fun e=>(zab (fun z=>zdP a c z.1 z.2.1 z.2.2) ([],e,0)).bind fun o=>zaJ o (fun b=>zdO b) some)
theorem zef (e:List zc) (i:List (List UInt8×Int)) (C:List UInt8) {r:(List (List UInt8))} (h:zcX e i C=some r):SC Tryz.prog 276 [.ipt 2 [[.isl 6 (List.map zb e),.imp (List.map (rKV (fun x=>iA x)) i)]] 0 0,sA C] [] (.msl 0 0 (List.length r)) [.many 1 (List.map zi r)]:=by
 refine ⟨⟨zeU (sz:=1) (fun _=>j0),j5⟩,zad Tryz.func276 j0 (by kernel_rfl) j0 ?_⟩
 unfold zcX at h
 refine rg j0<|u<|asg j0<|za ?_
 refine zl ?_
 refine rg j0<|u<|mv j0<|u<|mv j0<|u<|pc (zdA e i C j0) j0 j0 j0<|u<|nt j0<|za ?_
 refine zh j0 (fun s=>?_) (fun s=>?_)
 ·
  replace h:=bT s h
  refine rg j0<|u<|asg j0<|za ?_
  refine zj ?_
  obtain rfl:=sm h
  exact ⟨_,j0,[.fresh 1],.nilown j0,j0,⟨j4,j5⟩,j0,j1⟩
 ·
  replace h:=bF s h
  refine zk ?_
  refine rg j0<|u<|asg j0<|za ?_
  obtain ⟨K,V,h⟩:=bs h
  refine rg j0<|u<|mv j0<|u<|mv j0<|u<|sc [] (z7 e i C V) j0 j0 j0 j0 ⟨(rnI j0),(rnI j0),j5⟩ j5<|zB (env0:=[(0,.ipt 2 [[.isl 6 (List.map zb e),.imp (List.map (rKV (fun x=>iA x)) i)]] 0 0),(5,.lit (.slice none 0 0)),(17,.msl 0 0 (List.length K))]) (st0:=[some (1,List.map zi K)]) ⟨[.old 0],ce j0 j0<|ce j0 j0<|cv j0 (.msl j0)<|cn,j0,⟨⟨_,j0,zd (fun _=>j0)⟩,j5⟩,j0,j1⟩<|u<|asg j0<|za ?_
  refine zl ?_
  refine rg j0<|u<|asg j0<|za ?_
  obtain ⟨o,ho,h⟩:=bs h
  refine zT (X:=(List (List UInt8))×(List (List UInt8))×Int) (B:=(List (List UInt8))) (R:=(List (List UInt8))) (fun z=>[(0,.ipt 2 [[.isl 6 (List.map zb e),.imp (List.map (rKV (fun x=>iA x)) i)]] 0 0),(5,.msl 0 0 (List.length z.1)),(6,.msl 1 0 (List.length z.2.1)),(7,iA z.2.2)]) (fun z=>[some (1,List.map zi z.1),some (1,List.map zi z.2.1)]) (fun b=>[(5,.msl 0 0 (List.length b))]) (fun b=>[some (1,List.map zi b)]) (fun r env st=>zaC Tryz.prog Tryz.f276 0 (.msl 0 0 (List.length r)) [some (1,List.map zi r)] env st) ho ⟨[.fresh 1,.old 0],ce j0 j0<|cv j0 (.nilown j0)<|cv j0 (.msl j0)<|ce j0 j0<|cn,j0,⟨j4,⟨_,j0,zd (fun _=>j0)⟩,j5⟩,j0,j1⟩ ?_ ?_ ?_
  ·
   rintro ⟨D,j,c⟩ r h
   replace h:zdP e i D j c=some r:=h
   unfold zdP at h
   refine zl ?_
   refine rg j0<|u<|mv j0<|u<|mv j0<|u<|lnM zM j0 j0 j0<|u<|lss ti3 j0 j0<|za ?_
   refine zh j0 (fun l=>?_) (fun l=>?_)
   ·
    replace h:=bT l h
    refine zk ?_
    refine zl ?_
    refine zq ?_
    obtain ⟨L,E,h⟩:=bs h
    obtain ⟨a,M,h⟩:=bs h
    refine rg j0<|u<|mv j0<|u<|mv j0<|u<|mv j0<|u<|ixM zM j0 ti9 j0 j0 j0 j0 E<|u<|ldM ti9 j0 j0 (zp E).2.2 j0<|u<|pc (zcV e i L M) j0 j0 j0<|u<|al 2 zaf j0<|u<|sto zaf j0 j0 j0<|za ?_
    refine zcD (X:=(List (List UInt8))) (fun z=>[(0,.ipt 2 [[.isl 6 (List.map zb e),.imp (List.map (rKV (fun x=>iA x)) i)]] 0 0),(5,.msl 0 0 (List.length z)),(6,.msl 1 0 (List.length j)),(7,iA c),(8,.mpt 2 0 0)]) (fun z=>[some (1,List.map zi z),some (1,List.map zi j),some (6,[(zb a)])]) (fun z=>zck j c a z=some r) ?_ ?_
    ·
     refine rg j0<|u<|fa zaf j0 j0 j0<|u<|ld ti4 j0 j0<|za ?_
     refine zh j0 (fun m=>?_) (fun m=>?_)
     ·
      replace h:=bT m h
      obtain ⟨N,O,h⟩:=bs h
      exact rl j0<|u<|mv j0<|u<|fa zaf j0 j0 j0<|u<|ld ti9 j0 j0<|u<|bl 3 zM j0 ti9 j0 (by decide) (by decide) j0 j0 j0<|u<|apM 4 zM j0 ti9 j0 j0 (by decide) zM j0 j0 j0 j0 (roX (f:=zi) (z:=[a.Name]) j0 j0) (fun _=>j0) j0 O<|u<|asg j0<|za (⟨N,h,[.old 4,.old 1,.old 2],ce j0 j0<|cv j0 (.msl j0)<|cv j0 (.msl j0)<|ce j0 j0<|cv j0 (.mpt j0)<|cn,j0,⟨⟨_,j0,zd (fun _=>j0)⟩,⟨_,j0,zd (fun _=>j0)⟩,⟨_,j0,zg (ciL j0)⟩,j5⟩,j0,j1⟩)
     ·
      replace h:=bF m h
      refine zk ?_
      exact ⟨D,h,[.old 0,.old 1,.old 2],ce j0 j0<|cv j0 (.msl j0)<|cv j0 (.msl j0)<|ce j0 j0<|cv j0 (.mpt j0)<|cn,j0,⟨⟨_,j0,zd (fun _=>j0)⟩,⟨_,j0,zd (fun _=>j0)⟩,⟨_,j0,zg (ciL j0)⟩,j5⟩,j0,j1⟩
    ·
     rintro d h
     replace h:zck j c a d=some r:=h
     unfold zck at h
     refine rg j0<|u<|fa zaf j0 j0 j0<|u<|ld zM j0 j0<|u<|lnI zM j0 j0<|u<|mv j0<|za ?_
     obtain ⟨o,ho,h⟩:=bs h
     refine zT (X:=(List (List UInt8))×Int) (B:=(List (List UInt8))) (R:=(List (List UInt8))) (fun z=>[(0,.ipt 2 [[.isl 6 (List.map zb e),.imp (List.map (rKV (fun x=>iA x)) i)]] 0 0),(5,.msl 0 0 (List.length d)),(6,.msl 1 0 (List.length z.1)),(7,iA c),(38,.isl 1 (List.map zi a.Impl)),(39,iA (List.length a.Impl:Int)),(40,iA z.2)]) (fun z=>[some (1,List.map zi d),some (1,List.map zi z.1)]) (fun b=>[(0,.ipt 2 [[.isl 6 (List.map zb e),.imp (List.map (rKV (fun x=>iA x)) i)]] 0 0),(5,.msl 0 0 (List.length d)),(6,.msl 1 0 (List.length b)),(7,iA c)]) (fun b=>[some (1,List.map zi d),some (1,List.map zi b)]) (fun r env st=>zaC Tryz.prog Tryz.f276 0 (.msl 0 0 (List.length r)) [some (1,List.map zi r)] env st) ho ⟨[.old 0,.old 1],ce j0 j0<|cv j0 (.msl j0)<|cv j0 (.msl j0)<|ce j0 j0<|ce j0 j0<|ce j0 j0<|ce j0 j0<|cn,j0,⟨⟨_,j0,zd (fun _=>j0)⟩,⟨_,j0,zd (fun _=>j0)⟩,j5⟩,j0,j1⟩ ?_ ?_ ?_
     ·
      rintro ⟨v,q⟩ r h
      replace h:zee a v q=some r:=h
      unfold zee at h
      refine rg j0<|u<|lss ti3 j0 j0<|za ?_
      refine zl ?_
      refine zh j0 (fun n=>?_) (fun n=>?_)
      ·
       replace h:=bT n h
       refine zk ?_
       refine zcD (X:=(List (List UInt8))) (fun z=>[(0,.ipt 2 [[.isl 6 (List.map zb e),.imp (List.map (rKV (fun x=>iA x)) i)]] 0 0),(5,.msl 0 0 (List.length d)),(6,.msl 1 0 (List.length z)),(7,iA c),(38,.isl 1 (List.map zi a.Impl)),(39,iA (List.length a.Impl:Int)),(40,iA q)]) (fun z=>[some (1,List.map zi d),some (1,List.map zi z)]) (fun z=>zcl q z=some r) ?_ ?_
       ·
        refine zq ?_
        obtain ⟨F,G,h⟩:=bs h
        refine rg j0<|u<|ixI zM j0 ti9 j0 j0 j0 G<|u<|ldI ti9 j0 (zp G).2.2 j0<|u<|asg j0<|za ?_
        obtain ⟨W,P,h⟩:=bs h
        refine rg j0<|u<|mv j0<|u<|mv j0<|u<|pcs (zI v F P) j0 j0 (.cons (zi5 j0 (fun _=>j0)) (.cons (si j0) .nil)) zcq<|u<|nt j0<|za ?_
        refine zh j0 (fun p=>?_) (fun p=>?_)
        ·
         replace h:=bT p h
         obtain ⟨Q,S,h⟩:=bs h
         exact rl j0<|u<|mv j0<|u<|mv j0<|u<|bl 2 zM j0 ti9 j0 (by decide) (by decide) j0 j0 j0<|u<|apM 3 zM j0 ti9 j0 j0 (by decide) zM j0 j0 j0 j0 (roX (f:=zi) (z:=[F]) j0 j0) (fun _=>j0) j0 S<|u<|asg j0<|za (⟨Q,h,[.old 0,.old 3],ce j0 j0<|cv j0 (.msl j0)<|cv j0 (.msl j0)<|ce j0 j0<|ce j0 j0<|ce j0 j0<|ce j0 j0<|cn,j0,⟨⟨_,j0,zd (fun _=>j0)⟩,⟨_,j0,zd (fun _=>j0)⟩,j5⟩,j0,j1⟩)
        ·
         replace h:=bF p h
         refine zk ?_
         exact ⟨v,h,[.old 0,.old 1],ce j0 j0<|cv j0 (.msl j0)<|cv j0 (.msl j0)<|ce j0 j0<|ce j0 j0<|ce j0 j0<|ce j0 j0<|cn,j0,⟨⟨_,j0,zd (fun _=>j0)⟩,⟨_,j0,zd (fun _=>j0)⟩,j5⟩,j0,j1⟩
       ·
        rintro T h
        replace h:zcl q T=some r:=h
        unfold zcl at h
        refine rl j0<|u<|add ti3 j0 j0<|u<|mv j0<|za ?_
        obtain rfl:=sm h
        exact ⟨_,j0,[.old 0,.old 1],ce j0 j0<|cv j0 (.msl j0)<|cv j0 (.msl j0)<|ce j0 j0<|ce j0 j0<|ce j0 j0<|ce j0 j0<|cn,j0,⟨⟨_,j0,zd (fun _=>j0)⟩,⟨_,j0,zd (fun _=>j0)⟩,j5⟩,j0,j1⟩
      ·
       replace h:=bF n h
       refine zz ?_
       obtain rfl:=sm h
       exact ⟨j0,_,j0,[.old 0,.old 1],ce j0 j0<|cv j0 (.msl j0)<|cv j0 (.msl j0)<|ce j0 j0<|cn,j0,⟨⟨_,j0,zd (fun _=>j0)⟩,⟨_,j0,zd (fun _=>j0)⟩,j5⟩,j0,j1⟩
     ·
      rintro U rfl
      replace h:zdN c d U=some r:=h
      unfold zdN at h
      refine zv ?_
      refine rl j0<|u<|mv j0<|u<|add ti3 j0 j0<|u<|asg j0<|za ?_
      obtain rfl:=sm h
      exact ⟨_,j0,[.old 0,.old 1],ce j0 j0<|cv j0 (.msl j0)<|cv j0 (.msl j0)<|ce j0 j0<|cn,j0,⟨⟨_,j0,zd (fun _=>j0)⟩,⟨_,j0,zd (fun _=>j0)⟩,j5⟩,j0,j1⟩
     ·
      rintro r' rfl env st hp
      obtain rfl:=sm h
      exact ⟨_,j0,hp⟩
   ·
    replace h:=bF l h
    refine zz ?_
    obtain rfl:=sm h
    exact ⟨j0,_,j0,[.old 0],cv j0 (.msl j0)<|cn,j0,⟨⟨_,j0,zd (fun _=>j0)⟩,j5⟩,j0,j1⟩
  ·
   rintro H rfl
   replace h:zdO H=some r:=h
   unfold zdO at h
   refine zv ?_
   obtain ⟨I,J,h⟩:=bs h
   refine rg j0<|u<|mv j0<|u<|sc [0] (zsF H J) j0 j0 j0 j0 ⟨(.msl j0),j5⟩ ⟨⟨j0,mkI (fun _=>j0)⟩,j5⟩<|zB (env0:=[(5,.msl 0 0 (List.length I))]) (st0:=[some (1,List.map zi I)]) ⟨[.old 0],cv j0 (zvo (zrJ J) j0)<|cn,j0,⟨⟨_,j0,zd (fun _=>j0)⟩,j5⟩,j0,j1⟩<|za ?_
   refine rg j0<|u<|mv j0<|u<|asg j0<|za ?_
   refine zj ?_
   obtain rfl:=sm h
   exact ⟨_,j0,[.old 0],.msl j0,j0,⟨⟨_,j0,zd (fun _=>j0)⟩,j5⟩,j0,j1⟩
  ·
   rintro r' rfl env st hp
   obtain rfl:=sm h
   exact hp
def zd5 (q:((List zc)×(List (List UInt8×Int))×(List UInt8)×(List UInt8)→Option Bool)) (b:List zc) (c:List (List UInt8×Int)) (d:List UInt8) (a:List UInt8):Option (Bool) :=
  (zd6 b c d).bind fun s=>(cond (!s) (some true) ((zd6 b c a).bind fun v=>some (!v))).bind fun x=>cond x (some false) ((zeW d).bind fun e=>(zeW a).bind fun f=>cond (d == a) (some true) (cond (e.2&&f.2) ((cond ((!(e.1 == [73]))&&(!(f.1 == [73]))) ((q (b,c,e.1,f.1)).bind fun i=>some i) (some false)).bind fun j=>some j) (cond e.2 (some (a == [79,98,106,101,99,116])) ((z6 b c d).bind fun l=>(zC l a).bind fun m=>(cond m (some true) ((zcX b c d).bind fun n=>(zC n a).bind fun o=>some o)).bind fun p=>some p))))
theorem ziQ (D:((List zc)×(List (List UInt8×Int))×(List UInt8)×(List UInt8)→Option Bool)) (hrec:∀ z r,D z=some r→zu Tryz.prog 196 [.ipt 2 [[.isl 6 (List.map zb z.1),.imp (List.map (rKV (fun x=>iA x)) z.2.1)]] 0 0,sA z.2.2.1,sA z.2.2.2] (bA r)) (e:List zc) (f:List (List UInt8×Int)) (l:List UInt8) (m:List UInt8) {r:Bool} (h:zd5 D e f l m=some r):zu Tryz.prog 196 [.ipt 2 [[.isl 6 (List.map zb e),.imp (List.map (rKV (fun x=>iA x)) f)]] 0 0,sA l,sA m] (bA r):=by
 refine zn Tryz.func196 j0 (by kernel_rfl) j0 j0 ?_
 unfold zd5 at h
 refine rg j0<|u<|asg j0<|za ?_
 refine zl ?_
 obtain ⟨W,M,h⟩:=bs h
 obtain ⟨N,q,h⟩:=bs h
 refine rg j0<|u<|mv j0<|u<|mv j0<|u<|pc (zgb e f l M) j0 j0 j0<|u<|nt j0<|u<|mv j0<|zfo (x:=N) (j:=4) 4 j0 j0 j0 j0 j0 gpn (fun i=>by replace q:=bF i q; obtain ⟨X,O,q⟩:=bs q; obtain rfl:=sm q; exact g j0 i<|mv j0<|g j0 i<|mv j0<|g j0 i<|pc (zgb e f m O) j0 j0 j0<|g j0 i<|nt j0<|za (eg [16,17,18,19] 4 j0 j0 j0 j0)) (fun hb=>(sm (bT hb q)).symm)<|za ?_
 refine zh j0 (fun s=>?_) (fun s=>?_)
 ·
  replace h:=bT s h
  refine rg j0<|u<|asg j0<|za ?_
  refine zj ?_
  obtain rfl:=sm h
  exact ⟨_,j0,[],ci j0,j0,j5,j0,j1⟩
 ·
  replace h:=bF s h
  refine zk ?_
  obtain ⟨P,Q,h⟩:=bs h
  refine rg j0<|u<|mv j0<|u<|pc (zdo l Q) j0 j0 j0<|u<|mv j0<|u<|ex j0 j0<|u<|ex j0 j0<|u<|asg j0<|u<|asg j0<|za ?_
  obtain ⟨R,S,h⟩:=bs h
  refine rg j0<|u<|mv j0<|u<|pc (zdo m S) j0 j0 j0<|u<|mv j0<|u<|ex j0 j0<|u<|ex j0 j0<|u<|asg j0<|u<|asg j0<|za ?_
  refine zl ?_
  refine zq ?_
  refine rg j0<|u<|mv j0<|u<|mv j0<|u<|seq ti9 j0 j0<|u<|asg j0<|za ?_
  refine zh j0 (fun v=>?_) (fun v=>?_)
  ·
   replace h:=bT v h
   refine rg j0<|u<|asg j0<|za ?_
   refine zj ?_
   obtain rfl:=sm h
   exact ⟨_,j0,[],ci j0,j0,j5,j0,j1⟩
  ·
   replace h:=bF v h
   refine rg j0<|u<|mv j0<|u<|mv j0<|za7 (j:=1) 1 j0 j0 j0 j0 j0 gpn (fun C=>g j0 C<|mv j0<|za (egA [38] 1 C j0 j0 j0 j0)) ziy<|u<|asg j0<|za ?_
   refine zh j0 (fun n=>?_) (fun n=>?_)
   ·
    replace h:=bT n h
    obtain ⟨E,d,h⟩:=bs h
    refine rg j0<|u<|mv j0<|u<|sne ti9 j0 j0<|u<|mv j0<|za7 (j:=2) 2 j0 j0 j0 j0 j0 gpn (fun o=>g j0 o<|mv j0<|g j0 o<|sne ti9 j0 j0<|za (egA [43,44] 2 o j0 j0 j0 j0)) ziy<|u<|mv j0<|za7 (x:=E) (j:=6) 4 j0 j0 j0 j0 j0 gpn (fun c=>by replace d:=bT c d; obtain ⟨T,F,d⟩:=bs d; obtain rfl:=sm d; exact g j0 c<|mv j0<|g j0 c<|mv j0<|g j0 c<|mv j0<|g j0 c<|pc (hrec (e,f,P.1,R.1) _ F) j0 j0 j0<|za (eg [47,48,49,50] 4 j0 j0 j0 j0)) (fun hb=>(sm (bF hb d)).symm)<|u<|asg j0<|za ?_
    refine zj ?_
    obtain rfl:=sm h
    exact ⟨_,j0,[],ci j0,j0,j5,j0,j1⟩
   ·
    replace h:=bF n h
    refine rg j0<|u<|mv j0<|u<|asg j0<|za ?_
    refine zh j0 (fun p=>?_) (fun p=>?_)
    ·
     replace h:=bT p h
     refine rg j0<|u<|mv j0<|u<|seq ti9 j0 j0<|u<|asg j0<|za ?_
     refine zj ?_
     obtain rfl:=sm h
     exact ⟨_,j0,[],ci j0,j0,j5,j0,j1⟩
    ·
     replace h:=bF p h
     refine zk ?_
     obtain ⟨B,G,h⟩:=bs h
     obtain ⟨U,H,h⟩:=bs h
     obtain ⟨I,b,h⟩:=bs h
     refine rg j0<|u<|mv j0<|u<|mv j0<|u<|sc [] (z7 e f l G) j0 j0 j0 j0 ⟨(rnI j0),(rnI j0),j5⟩ j5<|zB (env0:=[(0,.ipt 2 [[.isl 6 (List.map zb e),.imp (List.map (rKV (fun x=>iA x)) f)]] 0 0),(1,sA l),(2,sA m),(58,.msl 0 0 (List.length B))]) (st0:=[some (1,List.map zi B)]) ⟨[.old 0],ce j0 j0<|ce j0 j0<|ce j0 j0<|cv j0 (.msl j0)<|cn,j0,⟨⟨_,j0,zd (fun _=>j0)⟩,j5⟩,j0,j1⟩<|u<|mv j0<|u<|pcs (zI B m H) j0 j0 (.cons (zi5 j0 (fun _=>j0)) (.cons (si j0) .nil)) zcq<|u<|mv j0<|zvW (x:=I) (j:=5) 5 1 j0 j0 j0 j0 j0 gpn (fun a=>by replace b:=bF a b; obtain ⟨J,K,b⟩:=bs b; obtain ⟨V,L,b⟩:=bs b; obtain rfl:=sm b; exact g j0 a<|mv j0<|g j0 a<|mv j0<|g j0 a<|sc [] (zef e f l K) j0 j0 j0 j0 ⟨(rnI j0),(rnI j0),j5⟩ j5<|g j0 a<|mv j0<|g j0 a<|pcs (zI J m L) j0 j0 (.cons (zi5 j0 (fun _=>j0)) (.cons (si j0) .nil)) zcq<|za (xg [62,63,64,65,66] 5 j0 j0 j0 j0 j0 j0)) (fun hb=>(sm (bT hb b)).symm)<|u<|asg j0<|za ?_
     refine zj ?_
     obtain rfl:=sm h
     exact ⟨_,j0,[],ci j0,j0,j5,j0,j1⟩
def zcx (a:List zc) (b:List (List UInt8×Int)) (c:List UInt8) (d:List UInt8):Option Bool :=
  zvt (fun e z=>zd5 e z.1 z.2.1 z.2.2.1 z.2.2.2) (a,b,c,d)
theorem zcg (b:List zc) (c:List (List UInt8×Int)) (d:List UInt8) (e:List UInt8) {r:Bool} (h:zcx b c d e=some r):zu Tryz.prog 196 [.ipt 2 [[.isl 6 (List.map zb b),.imp (List.map (rKV (fun x=>iA x)) c)]] 0 0,sA d,sA e] (bA r) :=
  zt9 (F:=(fun a z=>zd5 a z.1 z.2.1 z.2.2.1 z.2.2.2)) (Q:=fun z r=>zu Tryz.prog 196 [.ipt 2 [[.isl 6 (List.map zb z.1),.imp (List.map (rKV (fun x=>iA x)) z.2.1)]] 0 0,sA z.2.2.1,sA z.2.2.2] (bA r)) (fun a hv z r h=>ziQ a hv z.1 z.2.1 z.2.2.1 z.2.2.2 h) h
def zcJ (b:List zc) (c:List (List UInt8×Int)) (a:List UInt8):Option (Bool) :=
  (cond ((a == [78])||(a == [84])) (some true) ((zcx b c a a).bind fun d=>some d)).bind fun e=>some e
theorem zcK (f:List zc) (i:List (List UInt8×Int)) (e:List UInt8) {r:Bool} (h:zcJ f i e=some r):zu Tryz.prog 193 [.ipt 2 [[.isl 6 (List.map zb f),.imp (List.map (rKV (fun x=>iA x)) i)]] 0 0,sA e] (bA r):=by
 refine zn Tryz.func193 j0 (by kernel_rfl) j0 j0 ?_
 unfold zcJ at h
 refine rg j0<|u<|asg j0<|za ?_
 obtain ⟨l,c,h⟩:=bs h
 refine rg j0<|u<|mv j0<|u<|nep zez j0 j0 j0 j0 j0 j0<|u<|mv j0<|g j0 j0<|mv j0<|g j0 j0<|seq ti9 j0 j0<|g j0 j0<|mv j0<|zfo (j:=5) 2 j0 j0 j0 j0 j0 (gps j0 j0 j0) (fun d=>g j0 d<|mv j0<|g j0 d<|seq ti9 j0 j0<|za (egO [11,12] 2 d j0 j0 j0 j0)) orT<|g j0 j0<|mv j0<|zfo (x:=l) (j:=9) 4 j0 j0 j0 j0 j0 (gps j0 j0 j0) (fun a=>by replace c:=bF a c; obtain ⟨n,m,c⟩:=bs c; obtain rfl:=sm c; exact g j0 a<|mv j0<|g j0 a<|mv j0<|g j0 a<|mv j0<|g j0 a<|pc (zcg f i e e m) j0 j0 j0<|za (eg [15,16,17,18] 4 j0 j0 j0 j0)) (fun hb=>(sm (bT hb c)).symm)<|u<|pk (b:=true) j0 j0<|u<|asg j0<|za ?_
 refine zj ?_
 obtain rfl:=sm h
 exact ⟨_,j0,[],ci j0,j0,j5,j0,j1⟩
def zc0 (a:List UInt8) (b:List zc) (c:List (List UInt8×Int)):Option (Bool) :=
  (cond ((!(a == [86]))&&(!(a == []))) ((zcJ b c a).bind fun d=>some (!d)) (some false)).bind fun e=>some e
theorem zdb (d:List UInt8) (e:List zc) (f:List (List UInt8×Int)) {r:Bool} (h:zc0 d e f=some r):zu Tryz.prog 299 [sA d,.ipt 1 [[.ipt 2 [[.isl 6 (List.map zb e),.imp (List.map (rKV (fun x=>iA x)) f)]] 0 0]] 0 0] (bA r):=by
 refine zn Tryz.func299 j0 (by kernel_rfl) j0 j0 ?_
 unfold zc0 at h
 refine rg j0<|u<|asg j0<|za ?_
 obtain ⟨i,b,h⟩:=bs h
 refine rg j0<|u<|mv j0<|u<|sne ti9 j0 j0<|u<|mv j0<|za7 (j:=2) 2 j0 j0 j0 j0 j0 gpn (fun c=>g j0 c<|mv j0<|g j0 c<|sne ti9 j0 j0<|za (egA [7,8] 2 c j0 j0 j0 j0)) ziy<|u<|mv j0<|za7 (x:=i) (j:=6) 4 j0 j0 j0 j0 j0 gpn (fun a=>by replace b:=bT a b; obtain ⟨m,l,b⟩:=bs b; obtain rfl:=sm b; exact g j0 a<|ld zez j0 j0<|g j0 a<|mv j0<|g j0 a<|pc (zcK e f d l) j0 j0 j0<|g j0 a<|nt j0<|za (eg [11,12,13,14] 4 j0 j0 j0 j0)) (fun hb=>(sm (bF hb b)).symm)<|u<|asg j0<|za ?_
 refine zj ?_
 obtain rfl:=sm h
 exact ⟨_,j0,[],ci j0,j0,j5,j0,j1⟩
def zhs (a:zG) (b:List zc) (c:List (List UInt8×Int)):Option (Bool) :=
  (zc0 a.Type_ b c).bind fun d=>some d
theorem zkT (a:zG) (b:List zc) (c:List (List UInt8×Int)) {r:Bool} (h:zhs a b c=some r):zu Tryz.prog 300 [.agg (zH a),.ipt 1 [[.fn (.func 299) [] [.ipt 1 [[.ipt 2 [[.isl 6 (List.map zb b),.imp (List.map (rKV (fun x=>iA x)) c)]] 0 0]] 0 0]]] 0 0] (bA r):=by
 refine zn Tryz.func300 j0 (by kernel_rfl) j0 j0 ?_
 unfold zhs at h
 refine rg j0<|u<|bx 0 3 j0 j0 j0 j0<|u<|asg j0<|za ?_
 obtain ⟨e,d,h⟩:=bs h
 refine rg j0<|u<|ld zmp j0 j0<|u<|fa zhG j0 j0 j0<|u<|ld ti9 j0 j0<|u<|pc (zdb a.Type_ b c d) j0 j0 j0<|u<|asg j0<|za ?_
 refine zj ?_
 obtain rfl:=sm h
 exact ⟨_,j0,[],ci j0,j0,j5,j0,j1⟩
def zaG:Option (Int) :=
  some (-1)
def zaH (b:List zG) (c:List zc) (d:List (List UInt8×Int)) (a:Int):Option (Sum (Int) (Sum (Unit) (Int))) :=
  cond (decide (a < (List.length b:Int))) ((idx b a).bind fun e=>(zhs e c d).bind fun f=>cond f (some (.inr (.inr a))) (some (.inl (IntKind.i64.wrap (a+1))))) (some (.inr (.inl ())))
def za3 (a:List zG) (c:List zc) (d:List (List UInt8×Int)):Option (Int) :=
  (zab (fun z=>zaH a c d z) 0).bind fun o=>zaJ o (fun b=>zaG) some
theorem zdE (a:List zG) (c:List zc) (d:List (List UInt8×Int)) {r:Int} (h:za3 a c d=some r):zu Tryz.prog 315 [.isl 3 (List.map zH a),.fn (.func 300) [] [.ipt 1 [[.fn (.func 299) [] [.ipt 1 [[.ipt 2 [[.isl 6 (List.map zb c),.imp (List.map (rKV (fun x=>iA x)) d)]] 0 0]] 0 0]]] 0 0]] (iA r):=by
 refine zn Tryz.func315 j0 (by kernel_rfl) j0 j0 ?_
 unfold za3 at h
 refine rg j0<|u<|asg j0<|za ?_
 refine zl ?_
 refine rg j0<|u<|mv j0<|u<|lnI zm0 j0 j0<|u<|mv j0<|za ?_
 obtain ⟨o,ho,h⟩:=bs h
 refine zT (X:=Int) (B:=Unit) (R:=Int) (fun z=>[(0,.isl 3 (List.map zH a)),(1,.fn (.func 300) [] [.ipt 1 [[.fn (.func 299) [] [.ipt 1 [[.ipt 2 [[.isl 6 (List.map zb c),.imp (List.map (rKV (fun x=>iA x)) d)]] 0 0]] 0 0]]] 0 0]),(7,iA (List.length a:Int)),(8,iA z)]) (fun z=>[]) (fun b=>[]) (fun b=>[]) (fun r env st=>zaC Tryz.prog Tryz.f315 0 (iA r) [] env st) ho ⟨[],ce j0 j0<|ce j0 j0<|ce j0 j0<|ce j0 j0<|cn,j0,j5,j0,j1⟩ ?_ ?_ ?_
 ·
  rintro j r h
  replace h:zaH a c d j=some r:=h
  unfold zaH at h
  refine rg j0<|u<|lss ti3 j0 j0<|za ?_
  refine zl ?_
  refine zh j0 (fun e=>?_) (fun e=>?_)
  ·
   replace h:=bT e h
   refine zk ?_
   refine zl ?_
   refine zq ?_
   refine rg j0<|u<|mv j0<|u<|asg j0<|za ?_
   obtain ⟨l,i,h⟩:=bs h
   obtain ⟨n,m,h⟩:=bs h
   refine rg j0<|u<|mv j0<|u<|mv j0<|u<|mv j0<|u<|ixI zm0 j0 zhG j0 j0 j0 i<|u<|ldI zhG j0 (zp i).2.2 j0<|u<|pc (zkT l c d m) j0 j0 j0<|za ?_
   refine zh j0 (fun f=>?_) (fun f=>?_)
   ·
    replace h:=bT f h
    refine rg j0<|u<|mv j0<|u<|asg j0<|za ?_
    refine zj ?_
    obtain rfl:=sm h
    exact ⟨_,j0,_,j0,[],ci j0,j0,j5,j0,j1⟩
   ·
    replace h:=bF f h
    refine zk ?_
    refine rl j0<|u<|add ti3 j0 j0<|u<|mv j0<|za ?_
    obtain rfl:=sm h
    exact ⟨_,j0,[],ce j0 j0<|ce j0 j0<|ce j0 j0<|ce j0 j0<|cn,j0,j5,j0,j1⟩
  ·
   replace h:=bF e h
   refine zz ?_
   obtain rfl:=sm h
   exact ⟨j0,_,j0,[],cn,j0,j5,j0,j1⟩
 ·
  rintro ⟨⟩ rfl
  replace h:zaG=some r:=h
  unfold zaG at h
  refine zv ?_
  refine rg j0<|u<|asg j0<|za ?_
  refine zj ?_
  obtain rfl:=sm h
  exact ⟨_,j0,[],ci j0,j0,j5,j0,j1⟩
 ·
  rintro r' rfl env st hp
  obtain rfl:=sm h
  exact hp
def zaD (a:List zG) (b:List zc) (c:List (List UInt8×Int)):Option (Bool) :=
  (za3 a b c).bind fun d=>some (decide (0≤d))
theorem zde (a:List zG) (b:List zc) (c:List (List UInt8×Int)) {r:Bool} (h:zaD a b c=some r):zu Tryz.prog 234 [.isl 3 (List.map zH a),.fn (.func 300) [] [.ipt 1 [[.fn (.func 299) [] [.ipt 1 [[.ipt 2 [[.isl 6 (List.map zb b),.imp (List.map (rKV (fun x=>iA x)) c)]] 0 0]] 0 0]]] 0 0]] (bA r):=by
 refine zn Tryz.func234 j0 (by kernel_rfl) j0 j0 ?_
 unfold zaD at h
 refine rg j0<|u<|asg j0<|za ?_
 obtain ⟨e,d,h⟩:=bs h
 refine rg j0<|u<|mv j0<|u<|mv j0<|u<|pc (zdE a b c d) j0 j0 j0<|u<|geq ti3 j0 j0<|u<|asg j0<|za ?_
 refine zj ?_
 obtain rfl:=sm h
 exact ⟨_,j0,[],ci j0,j0,j5,j0,j1⟩
def zgo (a:zU) (b:List zc) (c:List (List UInt8×Int)):Option (Bool) :=
  (zc0 a.C b c).bind fun d=>some d
theorem zjK (a:zU) (b:List zc) (c:List (List UInt8×Int)) {r:Bool} (h:zgo a b c=some r):zu Tryz.prog 303 [.agg (zW a),.ipt 1 [[.fn (.func 299) [] [.ipt 1 [[.ipt 2 [[.isl 6 (List.map zb b),.imp (List.map (rKV (fun x=>iA x)) c)]] 0 0]] 0 0]]] 0 0] (bA r):=by
 refine zn Tryz.func303 j0 (by kernel_rfl) j0 j0 ?_
 unfold zgo at h
 refine rg j0<|u<|bx 0 4 j0 j0 j0 j0<|u<|asg j0<|za ?_
 obtain ⟨e,d,h⟩:=bs h
 refine rg j0<|u<|ld zmp j0 j0<|u<|fa zm1 j0 j0 j0<|u<|ld ti9 j0 j0<|u<|pc (zdb a.C b c d) j0 j0 j0<|u<|asg j0<|za ?_
 refine zj ?_
 obtain rfl:=sm h
 exact ⟨_,j0,[],ci j0,j0,j5,j0,j1⟩
def zaV:Option (Int) :=
  some (-1)
def zaW (b:List zU) (c:List zc) (d:List (List UInt8×Int)) (a:Int):Option (Sum (Int) (Sum (Unit) (Int))) :=
  cond (decide (a < (List.length b:Int))) ((idx b a).bind fun e=>(zgo e c d).bind fun f=>cond f (some (.inr (.inr a))) (some (.inl (IntKind.i64.wrap (a+1))))) (some (.inr (.inl ())))
def zbi (a:List zU) (c:List zc) (d:List (List UInt8×Int)):Option (Int) :=
  (zab (fun z=>zaW a c d z) 0).bind fun o=>zaJ o (fun b=>zaV) some
theorem zea (a:List zU) (c:List zc) (d:List (List UInt8×Int)) {r:Int} (h:zbi a c d=some r):zu Tryz.prog 348 [.isl 4 (List.map zW a),.fn (.func 303) [] [.ipt 1 [[.fn (.func 299) [] [.ipt 1 [[.ipt 2 [[.isl 6 (List.map zb c),.imp (List.map (rKV (fun x=>iA x)) d)]] 0 0]] 0 0]]] 0 0]] (iA r):=by
 refine zn Tryz.func348 j0 (by kernel_rfl) j0 j0 ?_
 unfold zbi at h
 refine rg j0<|u<|asg j0<|za ?_
 refine zl ?_
 refine rg j0<|u<|mv j0<|u<|lnI zqp j0 j0<|u<|mv j0<|za ?_
 obtain ⟨o,ho,h⟩:=bs h
 refine zT (X:=Int) (B:=Unit) (R:=Int) (fun z=>[(0,.isl 4 (List.map zW a)),(1,.fn (.func 303) [] [.ipt 1 [[.fn (.func 299) [] [.ipt 1 [[.ipt 2 [[.isl 6 (List.map zb c),.imp (List.map (rKV (fun x=>iA x)) d)]] 0 0]] 0 0]]] 0 0]),(7,iA (List.length a:Int)),(8,iA z)]) (fun z=>[]) (fun b=>[]) (fun b=>[]) (fun r env st=>zaC Tryz.prog Tryz.f348 0 (iA r) [] env st) ho ⟨[],ce j0 j0<|ce j0 j0<|ce j0 j0<|ce j0 j0<|cn,j0,j5,j0,j1⟩ ?_ ?_ ?_
 ·
  rintro j r h
  replace h:zaW a c d j=some r:=h
  unfold zaW at h
  refine rg j0<|u<|lss ti3 j0 j0<|za ?_
  refine zl ?_
  refine zh j0 (fun e=>?_) (fun e=>?_)
  ·
   replace h:=bT e h
   refine zk ?_
   refine zl ?_
   refine zq ?_
   refine rg j0<|u<|mv j0<|u<|asg j0<|za ?_
   obtain ⟨l,i,h⟩:=bs h
   obtain ⟨n,m,h⟩:=bs h
   refine rg j0<|u<|mv j0<|u<|mv j0<|u<|mv j0<|u<|ixI zqp j0 zm1 j0 j0 j0 i<|u<|ldI zm1 j0 (zp i).2.2 j0<|u<|pc (zjK l c d m) j0 j0 j0<|za ?_
   refine zh j0 (fun f=>?_) (fun f=>?_)
   ·
    replace h:=bT f h
    refine rg j0<|u<|mv j0<|u<|asg j0<|za ?_
    refine zj ?_
    obtain rfl:=sm h
    exact ⟨_,j0,_,j0,[],ci j0,j0,j5,j0,j1⟩
   ·
    replace h:=bF f h
    refine zk ?_
    refine rl j0<|u<|add ti3 j0 j0<|u<|mv j0<|za ?_
    obtain rfl:=sm h
    exact ⟨_,j0,[],ce j0 j0<|ce j0 j0<|ce j0 j0<|ce j0 j0<|cn,j0,j5,j0,j1⟩
  ·
   replace h:=bF e h
   refine zz ?_
   obtain rfl:=sm h
   exact ⟨j0,_,j0,[],cn,j0,j5,j0,j1⟩
 ·
  rintro ⟨⟩ rfl
  replace h:zaV=some r:=h
  unfold zaV at h
  refine zv ?_
  refine rg j0<|u<|asg j0<|za ?_
  refine zj ?_
  obtain rfl:=sm h
  exact ⟨_,j0,[],ci j0,j0,j5,j0,j1⟩
 ·
  rintro r' rfl env st hp
  obtain rfl:=sm h
  exact hp
def zaU (a:List zU) (b:List zc) (c:List (List UInt8×Int)):Option (Bool) :=
  (zbi a b c).bind fun d=>some (decide (0≤d))
theorem zdw (a:List zU) (b:List zc) (c:List (List UInt8×Int)) {r:Bool} (h:zaU a b c=some r):zu Tryz.prog 302 [.isl 4 (List.map zW a),.fn (.func 303) [] [.ipt 1 [[.fn (.func 299) [] [.ipt 1 [[.ipt 2 [[.isl 6 (List.map zb b),.imp (List.map (rKV (fun x=>iA x)) c)]] 0 0]] 0 0]]] 0 0]] (bA r):=by
 refine zn Tryz.func302 j0 (by kernel_rfl) j0 j0 ?_
 unfold zaU at h
 refine rg j0<|u<|asg j0<|za ?_
 obtain ⟨e,d,h⟩:=bs h
 refine rg j0<|u<|mv j0<|u<|mv j0<|u<|pc (zea a b c d) j0 j0 j0<|u<|geq ti3 j0 j0<|u<|asg j0<|za ?_
 refine zj ?_
 obtain rfl:=sm h
 exact ⟨_,j0,[],ci j0,j0,j5,j0,j1⟩
def zgs:Option ((List UInt8)×zG×Bool) :=
  some ([],(zG.mk [] [] false),false)
def zgt (i:List zc) (j:List (List UInt8×Int)) (l:List UInt8) (e:(List (List UInt8))) (a:Int):Option (Sum (Int) (Sum (Unit) ((List UInt8)×zG×Bool))) :=
  cond (decide (a < ((List.length e):Int))) ((idx e a).bind fun b=>(zE i j b).bind fun c=>(zjB c.1 l).bind fun d=>cond (decide (0≤d)) ((idx c.1.Fields d).bind fun f=>some (.inr (.inr (b,f,true)))) (some (.inl (IntKind.i64.wrap (a+1))))) (some (.inr (.inl ())))
def zgD (a:List zc) (c:List (List UInt8×Int)) (d:List UInt8) (e:List UInt8):Option ((List UInt8)×zG×Bool) :=
  (z6 a c d).bind fun f=>(zab (fun z=>zgt a c e f z) 0).bind fun o=>zaJ o (fun b=>zgs) some
theorem zgu (a:List zc) (c:List (List UInt8×Int)) (q:List UInt8) (f:List UInt8) {r:(List UInt8)×zG×Bool} (h:zgD a c q f=some r):zu Tryz.prog 134 [.ipt 2 [[.isl 6 (List.map zb a),.imp (List.map (rKV (fun x=>iA x)) c)]] 0 0,sA q,sA f] (.tup [sA r.1,.agg (zH r.2.1),bA r.2.2]):=by
 refine zn Tryz.func134 j0 (by kernel_rfl) j0 j0 ?_
 unfold zgD at h
 refine rg j0<|u<|asg j0<|u<|al 0 zhG j0<|u<|asg j0<|za ?_
 refine zl ?_
 obtain ⟨i,E,h⟩:=bs h
 refine rg j0<|u<|mv j0<|u<|mv j0<|u<|sc [] (z7 a c q E) j0 j0 j0 j0 ⟨(rnI j0),(rnI j0),j5⟩ j5<|zB (env0:=[(0,.ipt 2 [[.isl 6 (List.map zb a),.imp (List.map (rKV (fun x=>iA x)) c)]] 0 0),(2,sA f),(7,.mpt 0 0 0),(16,.msl 1 0 (List.length i))]) (st0:=[some (3,[[sA [],sA [],bA false]]),some (1,List.map zi i)]) ⟨[.old 0,.old 1],ce j0 j0<|ce j0 j0<|cv j0 (.mpt j0)<|cv j0 (.msl j0)<|cn,j0,⟨⟨_,j0,zg (ciL j0)⟩,⟨_,j0,zd (fun _=>j0)⟩,j5⟩,j0,j1⟩<|u<|lnM zM j0 j0 j0<|u<|mv j0<|za ?_
 obtain ⟨o,ho,h⟩:=bs h
 refine zT (X:=Int) (B:=Unit) (R:=(List UInt8)×zG×Bool) (fun z=>[(0,.ipt 2 [[.isl 6 (List.map zb a),.imp (List.map (rKV (fun x=>iA x)) c)]] 0 0),(2,sA f),(7,.mpt 0 0 0),(16,.msl 1 0 (List.length i)),(17,iA ((List.length i):Int)),(18,iA z)]) (fun z=>[some (3,[[sA [],sA [],bA false]]),some (1,List.map zi i)]) (fun b=>[(7,.mpt 0 0 0)]) (fun b=>[some (3,[[sA [],sA [],bA false]])]) (fun r env st=>zaC Tryz.prog Tryz.f134 0 (.tup [sA r.1,.agg (zH r.2.1),bA r.2.2]) [] env st) ho ⟨[.old 0,.old 1],ce j0 j0<|ce j0 j0<|cv j0 (.mpt j0)<|cv j0 (.msl j0)<|ce j0 j0<|ce j0 j0<|cn,j0,⟨⟨_,j0,zg (ciL j0)⟩,⟨_,j0,zd (fun _=>j0)⟩,j5⟩,j0,j1⟩ ?_ ?_ ?_
 ·
  rintro s r h
  replace h:zgt a c f i s=some r:=h
  unfold zgt at h
  refine rg j0<|u<|lss ti3 j0 j0<|za ?_
  refine zl ?_
  refine zh j0 (fun j=>?_) (fun j=>?_)
  ·
   replace h:=bT j h
   refine zk ?_
   refine zl ?_
   refine zq ?_
   obtain ⟨e,v,h⟩:=bs h
   refine rg j0<|u<|ixM zM j0 ti9 j0 j0 j0 j0 v<|u<|ldM ti9 j0 j0 (zp v).2.2 j0<|u<|asg j0<|za ?_
   obtain ⟨l,C,h⟩:=bs h
   refine rg j0<|u<|mv j0<|u<|mv j0<|u<|pc (zy a c e C) j0 j0 j0<|u<|mv j0<|u<|ex j0 j0<|u<|ex j0 j0<|u<|al 2 zaf j0<|u<|sto zaf j0 j0 j0<|u<|asg j0<|za ?_
   obtain ⟨m,D,h⟩:=bs h
   refine rg j0<|u<|ld zaf j0 j0<|u<|mv j0<|u<|pc (zmy l.1 f D) j0 j0 j0<|u<|asg j0<|za ?_
   refine rg j0<|u<|mv j0<|u<|geq ti3 j0 j0<|za ?_
   refine zh j0 (fun d=>?_) (fun d=>?_)
   ·
    replace h:=bT d h
    obtain ⟨n,p,h⟩:=bs h
    refine rd [(6,sA e),(7,.mpt 0 0 0),(8,bA true)] [some (3,[(zH n)])] [7] [6,5,4,3,2,1,0] [(6,sA e),(38,.agg (zH n)),(37,.ipt 3 (List.map zH l.1.Fields) (Int.toNat m) 0),(36,iA m),(35,.isl 3 (List.map zH l.1.Fields)),(34,.mpt 2 0 4),(33,sA e)] 1 (by kernel_rfl) (by kernel_rfl) j0 (by kernel_rfl) (dtS ⟨(fun _=>pa j0 j0 j0 j0 (asg j0<|j4)),(fun _=>pa j0 j0 j0 j0 (ldI zhG j0 (zp p).2.2 j0<|j4)),(fun _=>pa j0 j0 j0 j0 (ixI zm0 j0 zhG j0 j0 j0 p<|j4)),(fun _=>pa j0 j0 j0 j0 (mv j0<|j4)),(fun _=>pa j0 j0 j0 j0 (ld zm0 j0 j0<|j4)),(fun _=>pa j0 j0 j0 j0 (fa zaf j0 j0 j0<|j4)),(fun _=>pa j0 j0 j0 j0 (mv j0<|j4)),j5⟩ (by kernel_rfl) j0 ⟨(fun _ _=>⟨_,j0,j0,sto zhG j0 j0 j0<|⟨.any,[8],[(8,bA true)],j0,j0,by kernel_rfl,j5,dt0 ⟨(fun _=>pa j0 j0 j0 j0 (asg j0<|j4)),(fun h=>by cases h),(fun h=>by cases h),(fun h=>by cases h),(fun h=>by cases h),(fun h=>by cases h),(fun h=>by cases h),(fun h=>by cases h),j5⟩ (by kernel_rfl) j0 ⟨[.old 0],ce j0 j0<|cv j0 (.mpt j0)<|ce j0 j0<|cn,j0,⟨⟨_,j0,zg (ciL j0)⟩,j5⟩,j0,j1⟩⟩⟩),j5⟩) ?_
    refine zj ?_
    obtain rfl:=sm h
    exact ⟨_,j0,_,j0,[],z8 ⟨(ci j0),(ci j0),(ci j0),j5⟩,j0,j5,j0,j1⟩
   ·
    replace h:=bF d h
    refine zk ?_
    refine rl j0<|u<|add ti3 j0 j0<|u<|mv j0<|za ?_
    obtain rfl:=sm h
    exact ⟨_,j0,[.old 0,.old 1],ce j0 j0<|ce j0 j0<|cv j0 (.mpt j0)<|cv j0 (.msl j0)<|ce j0 j0<|ce j0 j0<|cn,j0,⟨⟨_,j0,zg (ciL j0)⟩,⟨_,j0,zd (fun _=>j0)⟩,j5⟩,j0,j1⟩
  ·
   replace h:=bF j h
   refine zz ?_
   obtain rfl:=sm h
   exact ⟨j0,_,j0,[.old 0],cv j0 (.mpt j0)<|cn,j0,⟨⟨_,j0,zg (ciL j0)⟩,j5⟩,j0,j1⟩
 ·
  rintro ⟨⟩ rfl
  replace h:zgs=some r:=h
  unfold zgs at h
  refine zv ?_
  refine rg j0<|u<|bd zhG j0 j0 j0<|u<|asg j0<|u<|sto zhG j0 j0 j0<|u<|asg j0<|za ?_
  refine zj ?_
  obtain rfl:=sm h
  exact ⟨_,j0,[],z8 ⟨(ci j0),(ci j0),(ci j0),j5⟩,j0,j5,j0,j1⟩
 ·
  rintro r' rfl env st hp
  obtain rfl:=sm h
  exact hp
def zgE (a:ze):Bool :=
  (!(a.Name == [36,105,110,105,116]))
theorem zil (a:ze) {r:Bool} (h:zgE a=r):zu Tryz.prog 219 [.agg (zf a)] (bA r):=by
 refine zn Tryz.func219 j0 (by kernel_rfl) j0 j0 ?_
 unfold zgE at h
 refine rg j0<|u<|bx 0 10 j0 j0 j0 j0<|u<|asg j0<|za ?_
 refine rg j0<|u<|fa zN j0 j0 j0<|u<|ld ti9 j0 j0<|u<|sne ti9 j0 j0<|u<|asg j0<|za ?_
 refine zj ?_
 obtain rfl:=h
 exact ⟨_,j0,[],ci j0,j0,j5,j0,j1⟩
end
end Go.Proofs.YthmnlfenkhmmhaaGreat
namespace Go.Proofs.YthmnlfenkhmmhaaGreat
noncomputable section
set_option linter.unusedSimpArgs false
set_option linter.unusedVariables false
set_option maxRecDepth 100000
set_option maxHeartbeats 4000000
def zgY:Option ((List UInt8)×ze×Bool) :=
  some ([],(ze.mk [] [] [] false false 0 0 [] [] []),false)
def zgZ (l:List zc) (m:List (List UInt8×Int)) (e:List (List UInt8)) (n:List UInt8) (a:Int):Option (Sum (Int) (Sum (Unit) ((List UInt8)×ze×Bool))) :=
  cond (decide (a < (List.length e:Int))) ((idx e a).bind fun d=>(zE l m d).bind fun b=>(zfv b.1 n).bind fun c=>(cond (decide (0≤c)) ((idx b.1.Methods c).bind fun f=>some (zgE f)) (some false)).bind fun i=>cond i ((idx b.1.Methods c).bind fun j=>some (.inr (.inr (d,j,true)))) (some (.inl (IntKind.i64.wrap (a+1))))) (some (.inr (.inl ())))
def zhg (a:List zc) (c:List (List UInt8×Int)) (d:List (List UInt8)) (e:List UInt8):Option ((List UInt8)×ze×Bool) :=
  (zab (fun z=>zgZ a c d e z) 0).bind fun o=>zaJ o (fun b=>zgY) some
theorem ziZ (i:List zc) (l:List (List UInt8×Int)) (m:List (List UInt8)) (n:List UInt8) {r:(List UInt8)×ze×Bool} (h:zhg i l m n=some r):zu Tryz.prog 218 [.ipt 2 [[.isl 6 (List.map zb i),.imp (List.map (rKV (fun x=>iA x)) l)]] 0 0,.isl 1 (List.map zi m),sA n,.fn (.func 219) [] []] (.tup [sA r.1,.agg (zf r.2.1),bA r.2.2]):=by
 refine zn Tryz.func218 j0 (by kernel_rfl) j0 j0 ?_
 unfold zhg at h
 refine rg j0<|u<|asg j0<|u<|al 0 zN j0<|u<|asg j0<|za ?_
 refine zl ?_
 refine rg j0<|u<|mv j0<|u<|lnI zM j0 j0<|u<|mv j0<|za ?_
 obtain ⟨o,ho,h⟩:=bs h
 refine zT (X:=Int) (B:=Unit) (R:=(List UInt8)×ze×Bool) (fun z=>[(0,.ipt 2 [[.isl 6 (List.map zb i),.imp (List.map (rKV (fun x=>iA x)) l)]] 0 0),(2,sA n),(3,.fn (.func 219) [] []),(9,.mpt 0 0 0),(16,.isl 1 (List.map zi m)),(17,iA (List.length m:Int)),(18,iA z)]) (fun z=>[some (10,[[sA [],.lit (.slice none 0 0),sA [],bA false,bA false,iA 0,iA 0,.lit (.slice none 0 0),.lit (.slice none 0 0),.lit (.slice none 0 0)]])]) (fun b=>[(9,.mpt 0 0 0)]) (fun b=>[some (10,[[sA [],.lit (.slice none 0 0),sA [],bA false,bA false,iA 0,iA 0,.lit (.slice none 0 0),.lit (.slice none 0 0),.lit (.slice none 0 0)]])]) (fun r env st=>zaC Tryz.prog Tryz.f218 0 (.tup [sA r.1,.agg (zf r.2.1),bA r.2.2]) [] env st) ho ⟨[.old 0],ce j0 j0<|ce j0 j0<|ce j0 j0<|cv j0 (.mpt j0)<|ce j0 j0<|ce j0 j0<|ce j0 j0<|cn,j0,⟨⟨_,j0,zg (ciL j0)⟩,j5⟩,j0,j1⟩ ?_ ?_ ?_
 ·
  rintro E r h
  replace h:zgZ i l m n E=some r:=h
  unfold zgZ at h
  refine rg j0<|u<|lss ti3 j0 j0<|za ?_
  refine zl ?_
  refine zh j0 (fun d=>?_) (fun d=>?_)
  ·
   replace h:=bT d h
   refine zk ?_
   refine zl ?_
   refine zq ?_
   obtain ⟨f,q,h⟩:=bs h
   refine rg j0<|u<|ixI zM j0 ti9 j0 j0 j0 q<|u<|ldI ti9 j0 (zp q).2.2 j0<|u<|asg j0<|za ?_
   obtain ⟨p,F,h⟩:=bs h
   refine rg j0<|u<|mv j0<|u<|mv j0<|u<|pc (zy i l f F) j0 j0 j0<|u<|mv j0<|u<|ex j0 j0<|u<|ex j0 j0<|u<|al 1 zaf j0<|u<|sto zaf j0 j0 j0<|u<|asg j0<|za ?_
   obtain ⟨s,G,h⟩:=bs h
   refine rg j0<|u<|ld zaf j0 j0<|u<|mv j0<|u<|pc (zfz p.1 n G) j0 j0 j0<|u<|asg j0<|za ?_
   obtain ⟨H,c,h⟩:=bs h
   refine rg j0<|u<|mv j0<|u<|geq ti3 j0 j0<|u<|mv j0<|za7 (x:=H) (j:=2) 7 j0 j0 j0 j0 j0 gpn (fun a=>by replace c:=bT a c; obtain ⟨I,v,c⟩:=bs c; obtain rfl:=sm c; exact g j0 a<|mv j0<|g j0 a<|fa zaf j0 j0 j0<|g j0 a<|ld zc7 j0 j0<|g j0 a<|mv j0<|g j0 a<|ixI zc7 j0 zN j0 j0 j0 v<|g j0 a<|ldI zN j0 (zp v).2.2 j0<|g j0 a<|pc (zil I j0) j0 j0 j0<|za (eg [34,35,36,37,38,39,40] 7 j0 j0 j0 j0)) (fun hb=>(sm (bF hb c)).symm)<|za ?_
   refine zh j0 (fun e=>?_) (fun e=>?_)
   ·
    replace h:=bT e h
    obtain ⟨C,D,h⟩:=bs h
    refine rd [(8,sA f),(9,.mpt 0 0 0),(10,bA true)] [some (10,[(zf C)])] [7] [6,5,4,3,2,1,0] [(8,sA f),(47,.agg (zf C)),(46,.ipt 10 (List.map zf p.1.Methods) (Int.toNat s) 0),(45,iA s),(44,.isl 10 (List.map zf p.1.Methods)),(43,.mpt 1 0 5),(42,sA f)] 1 (by kernel_rfl) (by kernel_rfl) j0 (by kernel_rfl) (dtS ⟨(fun _=>pa j0 j0 j0 j0 (asg j0<|j4)),(fun _=>pa j0 j0 j0 j0 (ldI zN j0 (zp D).2.2 j0<|j4)),(fun _=>pa j0 j0 j0 j0 (ixI zc7 j0 zN j0 j0 j0 D<|j4)),(fun _=>pa j0 j0 j0 j0 (mv j0<|j4)),(fun _=>pa j0 j0 j0 j0 (ld zc7 j0 j0<|j4)),(fun _=>pa j0 j0 j0 j0 (fa zaf j0 j0 j0<|j4)),(fun _=>pa j0 j0 j0 j0 (mv j0<|j4)),j5⟩ (by kernel_rfl) j0 ⟨(fun _ _=>⟨_,j0,j0,sto zN j0 j0 j0<|⟨.any,[8],[(10,bA true)],j0,j0,by kernel_rfl,j5,dt0 ⟨(fun _=>pa j0 j0 j0 j0 (asg j0<|j4)),(fun h=>by cases h),(fun h=>by cases h),(fun h=>by cases h),(fun h=>by cases h),(fun h=>by cases h),(fun h=>by cases h),(fun h=>by cases h),j5⟩ (by kernel_rfl) j0 ⟨[.old 0],ce j0 j0<|cv j0 (.mpt j0)<|ce j0 j0<|cn,j0,⟨⟨_,j0,zg (ciL j0)⟩,j5⟩,j0,j1⟩⟩⟩),j5⟩) ?_
    refine zj ?_
    obtain rfl:=sm h
    exact ⟨_,j0,_,j0,[],z8 ⟨(ci j0),(ci j0),(ci j0),j5⟩,j0,j5,j0,j1⟩
   ·
    replace h:=bF e h
    refine zk ?_
    refine rl j0<|u<|add ti3 j0 j0<|u<|mv j0<|za ?_
    obtain rfl:=sm h
    exact ⟨_,j0,[.old 0],ce j0 j0<|ce j0 j0<|ce j0 j0<|cv j0 (.mpt j0)<|ce j0 j0<|ce j0 j0<|ce j0 j0<|cn,j0,⟨⟨_,j0,zg (ciL j0)⟩,j5⟩,j0,j1⟩
  ·
   replace h:=bF d h
   refine zz ?_
   obtain rfl:=sm h
   exact ⟨j0,_,j0,[.old 0],cv j0 (.mpt j0)<|cn,j0,⟨⟨_,j0,zg (ciL j0)⟩,j5⟩,j0,j1⟩
 ·
  rintro ⟨⟩ rfl
  replace h:zgY=some r:=h
  unfold zgY at h
  refine zv ?_
  refine rg j0<|u<|bd zN j0 j0 j0<|u<|asg j0<|u<|sto zN j0 j0 j0<|u<|asg j0<|za ?_
  refine zj ?_
  obtain rfl:=sm h
  exact ⟨_,j0,[],z8 ⟨(ci j0),(zoA ⟨ci j0,(.nil),ci j0,ci j0,ci j0,ci j0,ci j0,(.nil),(.nil),(.nil),j5⟩),(ci j0),j5⟩,j0,j5,j0,j1⟩
 ·
  rintro r' rfl env st hp
  obtain rfl:=sm h
  exact hp
def zf6 (b:List zc) (c:List (List UInt8×Int)) (d:List UInt8) (e:List UInt8):Option ((List UInt8)×ze×Bool) :=
  (z6 b c d).bind fun f=>(zhg b c f e).bind fun a=>some (a.1,a.2.1,a.2.2)
theorem zfX (a:List zc) (b:List (List UInt8×Int)) (e:List UInt8) (c:List UInt8) {r:(List UInt8)×ze×Bool} (h:zf6 a b e c=some r):zu Tryz.prog 124 [.ipt 2 [[.isl 6 (List.map zb a),.imp (List.map (rKV (fun x=>iA x)) b)]] 0 0,sA e,sA c] (.tup [sA r.1,.agg (zf r.2.1),bA r.2.2]):=by
 refine zn Tryz.func124 j0 (by kernel_rfl) j0 j0 ?_
 unfold zf6 at h
 refine rg j0<|u<|asg j0<|u<|al 0 zN j0<|u<|asg j0<|za ?_
 obtain ⟨d,f,h⟩:=bs h
 obtain ⟨j,i,h⟩:=bs h
 refine rg j0<|u<|mv j0<|u<|mv j0<|u<|mv j0<|u<|sc [] (z7 a b e f) j0 j0 j0 j0 ⟨(rnI j0),(rnI j0),j5⟩ j5<|zB (env0:=[(2,sA c),(7,.mpt 0 0 0),(9,.ipt 2 [[.isl 6 (List.map zb a),.imp (List.map (rKV (fun x=>iA x)) b)]] 0 0),(12,.msl 1 0 (List.length d))]) (st0:=[some (10,[[sA [],.lit (.slice none 0 0),sA [],bA false,bA false,iA 0,iA 0,.lit (.slice none 0 0),.lit (.slice none 0 0),.lit (.slice none 0 0)]]),some (1,List.map zi d)]) ⟨[.old 0,.old 1],ce j0 j0<|cv j0 (.mpt j0)<|ce j0 j0<|cv j0 (.msl j0)<|cn,j0,⟨⟨_,j0,zg (ciL j0)⟩,⟨_,j0,zd (fun _=>j0)⟩,j5⟩,j0,j1⟩<|u<|mv j0<|zB (env0:=[(7,.mpt 0 0 0),(9,.ipt 2 [[.isl 6 (List.map zb a),.imp (List.map (rKV (fun x=>iA x)) b)]] 0 0),(12,.isl 1 (List.map zi d)),(13,sA c)]) (st0:=[some (10,[[sA [],.lit (.slice none 0 0),sA [],bA false,bA false,iA 0,iA 0,.lit (.slice none 0 0),.lit (.slice none 0 0),.lit (.slice none 0 0)]])]) ⟨[.old 0],cv j0 (.mpt j0)<|ce j0 j0<|cv j0 (zjy j0 j0 (fun _=>j0))<|ce j0 j0<|cn,j0,⟨⟨_,j0,zg (ciL j0)⟩,j5⟩,j0,j1⟩<|u<|pc (ziZ a b d c i) j0 j0 j0<|u<|ex j0 j0<|u<|ex j0 j0<|u<|ex j0 j0<|u<|asg j0<|u<|sto zN j0 j0 j0<|u<|asg j0<|za ?_
 refine zj ?_
 obtain rfl:=sm h
 exact ⟨_,j0,[],z8 ⟨(ci j0),(ci j0),(ci j0),j5⟩,j0,j5,j0,j1⟩
def zj1 (a:ze):Bool :=
  true
theorem zmG (a:ze) {r:Bool} (h:zj1 a=r):zu Tryz.prog 329 [.agg (zf a)] (bA r):=by
 refine zn Tryz.func329 j0 (by kernel_rfl) j0 j0 ?_
 unfold zj1 at h
 refine rg j0<|u<|bx 0 10 j0 j0 j0 j0<|u<|asg j0<|za ?_
 refine rg j0<|u<|asg j0<|za ?_
 refine zj ?_
 obtain rfl:=h
 exact ⟨_,j0,[],ci j0,j0,j5,j0,j1⟩
def zg0:Option ((List UInt8)×ze×Bool) :=
  some ([],(ze.mk [] [] [] false false 0 0 [] [] []),false)
def zg1 (l:List zc) (m:List (List UInt8×Int)) (e:List (List UInt8)) (n:List UInt8) (a:Int):Option (Sum (Int) (Sum (Unit) ((List UInt8)×ze×Bool))) :=
  cond (decide (a < (List.length e:Int))) ((idx e a).bind fun d=>(zE l m d).bind fun b=>(zfv b.1 n).bind fun c=>(cond (decide (0≤c)) ((idx b.1.Methods c).bind fun f=>some (zj1 f)) (some false)).bind fun i=>cond i ((idx b.1.Methods c).bind fun j=>some (.inr (.inr (d,j,true)))) (some (.inl (IntKind.i64.wrap (a+1))))) (some (.inr (.inl ())))
def zi0 (a:List zc) (c:List (List UInt8×Int)) (d:List (List UInt8)) (e:List UInt8):Option ((List UInt8)×ze×Bool) :=
  (zab (fun z=>zg1 a c d e z) 0).bind fun o=>zaJ o (fun b=>zg0) some
theorem zmh (i:List zc) (l:List (List UInt8×Int)) (m:List (List UInt8)) (n:List UInt8) {r:(List UInt8)×ze×Bool} (h:zi0 i l m n=some r):zu Tryz.prog 218 [.ipt 2 [[.isl 6 (List.map zb i),.imp (List.map (rKV (fun x=>iA x)) l)]] 0 0,.isl 1 (List.map zi m),sA n,.fn (.func 329) [] []] (.tup [sA r.1,.agg (zf r.2.1),bA r.2.2]):=by
 refine zn Tryz.func218 j0 (by kernel_rfl) j0 j0 ?_
 unfold zi0 at h
 refine rg j0<|u<|asg j0<|u<|al 0 zN j0<|u<|asg j0<|za ?_
 refine zl ?_
 refine rg j0<|u<|mv j0<|u<|lnI zM j0 j0<|u<|mv j0<|za ?_
 obtain ⟨o,ho,h⟩:=bs h
 refine zT (X:=Int) (B:=Unit) (R:=(List UInt8)×ze×Bool) (fun z=>[(0,.ipt 2 [[.isl 6 (List.map zb i),.imp (List.map (rKV (fun x=>iA x)) l)]] 0 0),(2,sA n),(3,.fn (.func 329) [] []),(9,.mpt 0 0 0),(16,.isl 1 (List.map zi m)),(17,iA (List.length m:Int)),(18,iA z)]) (fun z=>[some (10,[[sA [],.lit (.slice none 0 0),sA [],bA false,bA false,iA 0,iA 0,.lit (.slice none 0 0),.lit (.slice none 0 0),.lit (.slice none 0 0)]])]) (fun b=>[(9,.mpt 0 0 0)]) (fun b=>[some (10,[[sA [],.lit (.slice none 0 0),sA [],bA false,bA false,iA 0,iA 0,.lit (.slice none 0 0),.lit (.slice none 0 0),.lit (.slice none 0 0)]])]) (fun r env st=>zaC Tryz.prog Tryz.f218 0 (.tup [sA r.1,.agg (zf r.2.1),bA r.2.2]) [] env st) ho ⟨[.old 0],ce j0 j0<|ce j0 j0<|ce j0 j0<|cv j0 (.mpt j0)<|ce j0 j0<|ce j0 j0<|ce j0 j0<|cn,j0,⟨⟨_,j0,zg (ciL j0)⟩,j5⟩,j0,j1⟩ ?_ ?_ ?_
 ·
  rintro E r h
  replace h:zg1 i l m n E=some r:=h
  unfold zg1 at h
  refine rg j0<|u<|lss ti3 j0 j0<|za ?_
  refine zl ?_
  refine zh j0 (fun d=>?_) (fun d=>?_)
  ·
   replace h:=bT d h
   refine zk ?_
   refine zl ?_
   refine zq ?_
   obtain ⟨f,q,h⟩:=bs h
   refine rg j0<|u<|ixI zM j0 ti9 j0 j0 j0 q<|u<|ldI ti9 j0 (zp q).2.2 j0<|u<|asg j0<|za ?_
   obtain ⟨p,F,h⟩:=bs h
   refine rg j0<|u<|mv j0<|u<|mv j0<|u<|pc (zy i l f F) j0 j0 j0<|u<|mv j0<|u<|ex j0 j0<|u<|ex j0 j0<|u<|al 1 zaf j0<|u<|sto zaf j0 j0 j0<|u<|asg j0<|za ?_
   obtain ⟨s,G,h⟩:=bs h
   refine rg j0<|u<|ld zaf j0 j0<|u<|mv j0<|u<|pc (zfz p.1 n G) j0 j0 j0<|u<|asg j0<|za ?_
   obtain ⟨H,c,h⟩:=bs h
   refine rg j0<|u<|mv j0<|u<|geq ti3 j0 j0<|u<|mv j0<|za7 (x:=H) (j:=2) 7 j0 j0 j0 j0 j0 gpn (fun a=>by replace c:=bT a c; obtain ⟨I,v,c⟩:=bs c; obtain rfl:=sm c; exact g j0 a<|mv j0<|g j0 a<|fa zaf j0 j0 j0<|g j0 a<|ld zc7 j0 j0<|g j0 a<|mv j0<|g j0 a<|ixI zc7 j0 zN j0 j0 j0 v<|g j0 a<|ldI zN j0 (zp v).2.2 j0<|g j0 a<|pc (zmG I j0) j0 j0 j0<|za (eg [34,35,36,37,38,39,40] 7 j0 j0 j0 j0)) (fun hb=>(sm (bF hb c)).symm)<|za ?_
   refine zh j0 (fun e=>?_) (fun e=>?_)
   ·
    replace h:=bT e h
    obtain ⟨C,D,h⟩:=bs h
    refine rd [(8,sA f),(9,.mpt 0 0 0),(10,bA true)] [some (10,[(zf C)])] [7] [6,5,4,3,2,1,0] [(8,sA f),(47,.agg (zf C)),(46,.ipt 10 (List.map zf p.1.Methods) (Int.toNat s) 0),(45,iA s),(44,.isl 10 (List.map zf p.1.Methods)),(43,.mpt 1 0 5),(42,sA f)] 1 (by kernel_rfl) (by kernel_rfl) j0 (by kernel_rfl) (dtS ⟨(fun _=>pa j0 j0 j0 j0 (asg j0<|j4)),(fun _=>pa j0 j0 j0 j0 (ldI zN j0 (zp D).2.2 j0<|j4)),(fun _=>pa j0 j0 j0 j0 (ixI zc7 j0 zN j0 j0 j0 D<|j4)),(fun _=>pa j0 j0 j0 j0 (mv j0<|j4)),(fun _=>pa j0 j0 j0 j0 (ld zc7 j0 j0<|j4)),(fun _=>pa j0 j0 j0 j0 (fa zaf j0 j0 j0<|j4)),(fun _=>pa j0 j0 j0 j0 (mv j0<|j4)),j5⟩ (by kernel_rfl) j0 ⟨(fun _ _=>⟨_,j0,j0,sto zN j0 j0 j0<|⟨.any,[8],[(10,bA true)],j0,j0,by kernel_rfl,j5,dt0 ⟨(fun _=>pa j0 j0 j0 j0 (asg j0<|j4)),(fun h=>by cases h),(fun h=>by cases h),(fun h=>by cases h),(fun h=>by cases h),(fun h=>by cases h),(fun h=>by cases h),(fun h=>by cases h),j5⟩ (by kernel_rfl) j0 ⟨[.old 0],ce j0 j0<|cv j0 (.mpt j0)<|ce j0 j0<|cn,j0,⟨⟨_,j0,zg (ciL j0)⟩,j5⟩,j0,j1⟩⟩⟩),j5⟩) ?_
    refine zj ?_
    obtain rfl:=sm h
    exact ⟨_,j0,_,j0,[],z8 ⟨(ci j0),(ci j0),(ci j0),j5⟩,j0,j5,j0,j1⟩
   ·
    replace h:=bF e h
    refine zk ?_
    refine rl j0<|u<|add ti3 j0 j0<|u<|mv j0<|za ?_
    obtain rfl:=sm h
    exact ⟨_,j0,[.old 0],ce j0 j0<|ce j0 j0<|ce j0 j0<|cv j0 (.mpt j0)<|ce j0 j0<|ce j0 j0<|ce j0 j0<|cn,j0,⟨⟨_,j0,zg (ciL j0)⟩,j5⟩,j0,j1⟩
  ·
   replace h:=bF d h
   refine zz ?_
   obtain rfl:=sm h
   exact ⟨j0,_,j0,[.old 0],cv j0 (.mpt j0)<|cn,j0,⟨⟨_,j0,zg (ciL j0)⟩,j5⟩,j0,j1⟩
 ·
  rintro ⟨⟩ rfl
  replace h:zg0=some r:=h
  unfold zg0 at h
  refine zv ?_
  refine rg j0<|u<|bd zN j0 j0 j0<|u<|asg j0<|u<|sto zN j0 j0 j0<|u<|asg j0<|za ?_
  refine zj ?_
  obtain rfl:=sm h
  exact ⟨_,j0,[],z8 ⟨(ci j0),(zoA ⟨ci j0,(.nil),ci j0,ci j0,ci j0,ci j0,ci j0,(.nil),(.nil),(.nil),j5⟩),(ci j0),j5⟩,j0,j5,j0,j1⟩
 ·
  rintro r' rfl env st hp
  obtain rfl:=sm h
  exact hp
def zhf (a:List zc) (b:List (List UInt8×Int)) (c:List UInt8) (e:List UInt8):Option ((List UInt8)×ze×Bool) :=
  (zE a b c).bind fun f=>cond (!f.1.Interface) (some ([],(ze.mk [] [] [] false false 0 0 [] [] []),false)) ((zcX a b c).bind fun i=>(zjq 16 [c] i).bind fun j=>(zi0 a b j e).bind fun d=>some (d.1,d.2.1,d.2.2))
theorem ziW (a:List zc) (b:List (List UInt8×Int)) (c:List UInt8) (e:List UInt8) {r:(List UInt8)×ze×Bool} (h:zhf a b c e=some r):zu Tryz.prog 252 [.ipt 2 [[.isl 6 (List.map zb a),.imp (List.map (rKV (fun x=>iA x)) b)]] 0 0,sA c,sA e] (.tup [sA r.1,.agg (zf r.2.1),bA r.2.2]):=by
 refine zn Tryz.func252 j0 (by kernel_rfl) j0 j0 ?_
 unfold zhf at h
 refine rg j0<|u<|asg j0<|u<|al 0 zN j0<|u<|asg j0<|za ?_
 obtain ⟨p,j,h⟩:=bs h
 refine rg j0<|u<|mv j0<|u<|mv j0<|u<|pc (zy a b c j) j0 j0 j0<|u<|mv j0<|u<|ex j0 j0<|u<|ex j0 j0<|u<|al 1 zaf j0<|u<|sto zaf j0 j0 j0<|u<|asg j0<|za ?_
 refine zl ?_
 refine rg j0<|u<|fa zaf j0 j0 j0<|u<|ld ti4 j0 j0<|u<|nt j0<|za ?_
 refine zh j0 (fun d=>?_) (fun d=>?_)
 ·
  replace h:=bT d h
  refine rg j0<|u<|bd zN j0 j0 j0<|u<|asg j0<|u<|sto zN j0 j0 j0<|u<|asg j0<|za ?_
  refine zj ?_
  obtain rfl:=sm h
  exact ⟨_,j0,[],z8 ⟨(ci j0),(zoA ⟨ci j0,(.nil),ci j0,ci j0,ci j0,ci j0,ci j0,(.nil),(.nil),(.nil),j5⟩),(ci j0),j5⟩,j0,j5,j0,j1⟩
 ·
  replace h:=bF d h
  refine zk ?_
  obtain ⟨q,m,h⟩:=bs h
  obtain ⟨i,n,h⟩:=bs h
  obtain ⟨s,o,h⟩:=bs h
  refine rg j0<|u<|mv j0<|u<|mv j0<|u<|bl 2 zM j0 ti9 j0 (by decide) (by decide) j0 j0 j0<|u<|mv j0<|u<|mv j0<|u<|sc [] (zef a b c m) j0 j0 j0 j0 ⟨(rnI j0),(rnI j0),j5⟩ j5<|u<|apM (l:=[c]) (f:=zi) 4 zM j0 ti9 j0 j0 (by decide) zM j0 j0 j0 j0 (roM j0) (fun _=>j0) j0 n<|u<|mv j0<|zB (env0:=[(7,.mpt 0 0 0),(21,.ipt 2 [[.isl 6 (List.map zb a),.imp (List.map (rKV (fun x=>iA x)) b)]] 0 0),(27,.isl 1 (List.map zi i)),(28,sA e)]) (st0:=[some (10,[[sA [],.lit (.slice none 0 0),sA [],bA false,bA false,iA 0,iA 0,.lit (.slice none 0 0),.lit (.slice none 0 0),.lit (.slice none 0 0)]])]) ⟨[.old 0],cv j0 (.mpt j0)<|ce j0 j0<|cv j0 (zjy j0 j0 (fun _=>j0))<|ce j0 j0<|cn,j0,⟨⟨_,j0,zg (ciL j0)⟩,j5⟩,j0,j1⟩<|u<|pc (zmh a b i e o) j0 j0 j0<|u<|ex j0 j0<|u<|ex j0 j0<|u<|ex j0 j0<|u<|asg j0<|u<|sto zN j0 j0 j0<|u<|asg j0<|za ?_
  refine zj ?_
  obtain rfl:=sm h
  exact ⟨_,j0,[],z8 ⟨(ci j0),(ci j0),(ci j0),j5⟩,j0,j5,j0,j1⟩
def zcM (a:Bool):Option (Bool) :=
  some a
def zda (b:List zc) (c:List (List UInt8×Int)) (a:zA) (d:zc×Bool) (e:Bool):Option (Bool) :=
  cond e ((zf6 b c a.C a.M).bind fun f=>zcM (f.2.2&&(!d.1.Interface))) (cond (a.Op == (45:Int)) ((zhf b c a.C a.M).bind fun i=>zcM i.2.2) (zcM true))
def zcL (b:List zc) (c:List (List UInt8×Int)) (a:zA) (d:zc×Bool) (e:Bool):Option (Bool) :=
  cond e ((zgD b c a.C a.M).bind fun f=>zcM f.2.2) (cond (a.Op == (42:Int)) (zda b c a d (a.Op == (42:Int))) (cond (a.Op == (43:Int)) (zda b c a d (a.Op == (43:Int))) (zda b c a d (a.Op == (44:Int)))))
def ziJ (b:List zc) (c:List (List UInt8×Int)) (a:zA):Option (Bool) :=
  (zE b c a.C).bind fun d=>cond (a.Op == (38:Int)) (zcL b c a d (a.Op == (38:Int))) (cond (a.Op == (39:Int)) (zcL b c a d (a.Op == (39:Int))) (cond (a.Op == (40:Int)) (zcL b c a d (a.Op == (40:Int))) (zcL b c a d (a.Op == (41:Int)))))
theorem zl6 (b:List zc) (c:List (List UInt8×Int)) (a:zA) {r:Bool} (h:ziJ b c a=some r):zu Tryz.prog 306 [.ipt 2 [[.isl 6 (List.map zb b),.imp (List.map (rKV (fun x=>iA x)) c)]] 0 0,.agg (zw a)] (bA r):=by
 refine zn Tryz.func306 j0 (by kernel_rfl) j0 j0 ?_
 unfold ziJ at h
 refine rg j0<|u<|bx 0 4 j0 j0 j0 j0<|u<|asg j0<|za ?_
 obtain ⟨e,D,h⟩:=bs h
 refine rg j0<|u<|mv j0<|u<|fa zcI j0 j0 j0<|u<|ld ti9 j0 j0<|u<|pc (zy b c a.C D) j0 j0 j0<|u<|mv j0<|u<|ex j0 j0<|u<|ex j0 j0<|u<|al 1 zaf j0<|u<|sto zaf j0 j0 j0<|u<|asg j0<|za ?_
 refine rg j0<|u<|asg j0<|za ?_
 refine zcD (X:=Bool) (fun z=>[(7,bA z)]) (fun z=>[]) (fun z=>zcM z=some r) ?_ ?_
 ·
  refine rg j0<|u<|fa zcI j0 j0 j0<|u<|ld ti3 j0 j0<|za ?_
  refine zq ?_
  refine zcD (X:=Bool) (fun z=>[(0,.ipt 2 [[.isl 6 (List.map zb b),.imp (List.map (rKV (fun x=>iA x)) c)]] 0 0),(3,.mpt 0 0 0),(5,.mpt 1 0 0),(7,bA true),(16,iA a.Op),(17,bA z)]) (fun z=>[some (4,[(zw a)]),some (6,[(zb e.1)])]) (fun z=>zcL b c a e z=some r) ?_ ?_
  ·
   refine rg j0<|u<|eql ti3 j0 j0<|u<|asg j0<|za ?_
   refine zh j0 (fun i=>?_) (fun i=>?_)
   ·
    replace h:=bT i h
    refine zk ?_
    exact ⟨(a.Op == (38:Int)),h,[.old 0,.old 1],ce j0 j0<|cv j0 (.mpt j0)<|cv j0 (.mpt j0)<|ce j0 j0<|ce j0 j0<|ce j0 j0<|cn,j0,⟨⟨_,j0,zg (ciL j0)⟩,⟨_,j0,zg (ciL j0)⟩,j5⟩,j0,j1⟩
   ·
    replace h:=bF i h
    refine rg j0<|u<|eql ti3 j0 j0<|u<|asg j0<|za ?_
    refine zh j0 (fun l=>?_) (fun l=>?_)
    ·
     replace h:=bT l h
     refine zk ?_
     exact ⟨(a.Op == (39:Int)),h,[.old 0,.old 1],ce j0 j0<|cv j0 (.mpt j0)<|cv j0 (.mpt j0)<|ce j0 j0<|ce j0 j0<|ce j0 j0<|cn,j0,⟨⟨_,j0,zg (ciL j0)⟩,⟨_,j0,zg (ciL j0)⟩,j5⟩,j0,j1⟩
    ·
     replace h:=bF l h
     refine rg j0<|u<|eql ti3 j0 j0<|u<|asg j0<|za ?_
     refine zh j0 (fun m=>?_) (fun m=>?_)
     ·
      replace h:=bT m h
      refine zk ?_
      exact ⟨(a.Op == (40:Int)),h,[.old 0,.old 1],ce j0 j0<|cv j0 (.mpt j0)<|cv j0 (.mpt j0)<|ce j0 j0<|ce j0 j0<|ce j0 j0<|cn,j0,⟨⟨_,j0,zg (ciL j0)⟩,⟨_,j0,zg (ciL j0)⟩,j5⟩,j0,j1⟩
     ·
      replace h:=bF m h
      exact rl j0<|u<|eql ti3 j0 j0<|u<|asg j0<|za (⟨(a.Op == (41:Int)),h,[.old 0,.old 1],ce j0 j0<|cv j0 (.mpt j0)<|cv j0 (.mpt j0)<|ce j0 j0<|ce j0 j0<|ce j0 j0<|cn,j0,⟨⟨_,j0,zg (ciL j0)⟩,⟨_,j0,zg (ciL j0)⟩,j5⟩,j0,j1⟩)
  ·
   rintro E h
   replace h:zcL b c a e E=some r:=h
   unfold zcL at h
   refine zh j0 (fun n=>?_) (fun n=>?_)
   ·
    replace h:=bT n h
    obtain ⟨F,G,h⟩:=bs h
    exact rl j0<|u<|mv j0<|u<|fa zcI j0 j0 j0<|u<|ld ti9 j0 j0<|u<|fa zcI j0 j0 j0<|u<|ld ti9 j0 j0<|u<|pc (zgu b c a.C a.M G) j0 j0 j0<|u<|mv j0<|u<|ex j0 j0<|u<|ex j0 j0<|u<|ex j0 j0<|u<|asg j0<|za (⟨F.2.2,h,[],ce j0 j0<|cn,j0,j5,j0,j1⟩)
   ·
    replace h:=bF n h
    refine zcD (X:=Bool) (fun z=>[(0,.ipt 2 [[.isl 6 (List.map zb b),.imp (List.map (rKV (fun x=>iA x)) c)]] 0 0),(3,.mpt 0 0 0),(5,.mpt 1 0 0),(7,bA true),(16,iA a.Op),(32,bA z)]) (fun z=>[some (4,[(zw a)]),some (6,[(zb e.1)])]) (fun z=>zda b c a e z=some r) ?_ ?_
    ·
     refine rg j0<|u<|eql ti3 j0 j0<|u<|asg j0<|za ?_
     refine zh j0 (fun o=>?_) (fun o=>?_)
     ·
      replace h:=bT o h
      refine zk ?_
      exact ⟨(a.Op == (42:Int)),h,[.old 0,.old 1],ce j0 j0<|cv j0 (.mpt j0)<|cv j0 (.mpt j0)<|ce j0 j0<|ce j0 j0<|ce j0 j0<|cn,j0,⟨⟨_,j0,zg (ciL j0)⟩,⟨_,j0,zg (ciL j0)⟩,j5⟩,j0,j1⟩
     ·
      replace h:=bF o h
      refine rg j0<|u<|eql ti3 j0 j0<|u<|asg j0<|za ?_
      refine zh j0 (fun p=>?_) (fun p=>?_)
      ·
       replace h:=bT p h
       refine zk ?_
       exact ⟨(a.Op == (43:Int)),h,[.old 0,.old 1],ce j0 j0<|cv j0 (.mpt j0)<|cv j0 (.mpt j0)<|ce j0 j0<|ce j0 j0<|ce j0 j0<|cn,j0,⟨⟨_,j0,zg (ciL j0)⟩,⟨_,j0,zg (ciL j0)⟩,j5⟩,j0,j1⟩
      ·
       replace h:=bF p h
       exact rl j0<|u<|eql ti3 j0 j0<|u<|asg j0<|za (⟨(a.Op == (44:Int)),h,[.old 0,.old 1],ce j0 j0<|cv j0 (.mpt j0)<|cv j0 (.mpt j0)<|ce j0 j0<|ce j0 j0<|ce j0 j0<|cn,j0,⟨⟨_,j0,zg (ciL j0)⟩,⟨_,j0,zg (ciL j0)⟩,j5⟩,j0,j1⟩)
    ·
     rintro H h
     replace h:zda b c a e H=some r:=h
     unfold zda at h
     refine zh j0 (fun q=>?_) (fun q=>?_)
     ·
      replace h:=bT q h
      obtain ⟨I,s,h⟩:=bs h
      refine rg j0<|u<|mv j0<|u<|fa zcI j0 j0 j0<|u<|ld ti9 j0 j0<|u<|fa zcI j0 j0 j0<|u<|ld ti9 j0 j0<|u<|pc (zfX b c a.C a.M s) j0 j0 j0<|u<|mv j0<|u<|ex j0 j0<|u<|ex j0 j0<|u<|ex j0 j0<|u<|asg j0<|za ?_
      exact rl j0<|u<|mv j0<|u<|mv j0<|za7 (j:=1) 3 j0 j0 j0 j0 j0 gpn (fun d=>g j0 d<|fa zaf j0 j0 j0<|g j0 d<|ld ti4 j0 j0<|g j0 d<|nt j0<|za (egA [48,49,50] 3 d j0 j0 j0 j0)) ziy<|u<|asg j0<|za (⟨(I.2.2&&(!e.1.Interface)),h,[],ce j0 j0<|cn,j0,j5,j0,j1⟩)
     ·
      replace h:=bF q h
      refine rg j0<|u<|eql ti3 j0 j0<|u<|asg j0<|za ?_
      refine zh j0 (fun f=>?_) (fun f=>?_)
      ·
       replace h:=bT f h
       obtain ⟨J,v,h⟩:=bs h
       exact rl j0<|u<|mv j0<|u<|fa zcI j0 j0 j0<|u<|ld ti9 j0 j0<|u<|fa zcI j0 j0 j0<|u<|ld ti9 j0 j0<|u<|pc (ziW b c a.C a.M v) j0 j0 j0<|u<|mv j0<|u<|ex j0 j0<|u<|ex j0 j0<|u<|ex j0 j0<|u<|asg j0<|za (⟨J.2.2,h,[],ce j0 j0<|cn,j0,j5,j0,j1⟩)
      ·
       replace h:=bF f h
       refine zk ?_
       exact ⟨true,h,[],ce j0 j0<|cn,j0,j5,j0,j1⟩
 ·
  rintro B h
  replace h:zcM B=some r:=h
  unfold zcM at h
  refine rg j0<|u<|mv j0<|u<|asg j0<|za ?_
  refine zj ?_
  obtain rfl:=sm h
  exact ⟨_,j0,[],ci j0,j0,j5,j0,j1⟩
def zgp (a:zA) (b:List zc) (c:List (List UInt8×Int)) (d:List zc) (e:List (List UInt8×Int)):Option (Bool) :=
  (zc0 a.C b c).bind fun f=>(cond f (some true) ((ziJ d e a).bind fun i=>some (!i))).bind fun j=>some j
theorem zjL (c:zA) (d:List zc) (e:List (List UInt8×Int)) (f:List zc) (i:List (List UInt8×Int)) {r:Bool} (h:zgp c d e f i=some r):zu Tryz.prog 305 [.agg (zw c),.ipt 1 [[.fn (.func 299) [] [.ipt 1 [[.ipt 2 [[.isl 6 (List.map zb d),.imp (List.map (rKV (fun x=>iA x)) e)]] 0 0]] 0 0]]] 0 0,.ipt 1 [[.ipt 2 [[.isl 6 (List.map zb f),.imp (List.map (rKV (fun x=>iA x)) i)]] 0 0]] 0 0] (bA r):=by
 refine zn Tryz.func305 j0 (by kernel_rfl) j0 j0 ?_
 unfold zgp at h
 refine rg j0<|u<|bx 0 4 j0 j0 j0 j0<|u<|asg j0<|za ?_
 obtain ⟨o,l,h⟩:=bs h
 obtain ⟨m,b,h⟩:=bs h
 refine rg j0<|u<|ld zmp j0 j0<|u<|fa zcI j0 j0 j0<|u<|ld ti9 j0 j0<|u<|pc (zdb c.C d e l) j0 j0 j0<|u<|mv j0<|zfo (x:=m) (j:=4) 4 j0 j0 j0 j0 j0 gpn (fun a=>by replace b:=bF a b; obtain ⟨p,n,b⟩:=bs b; obtain rfl:=sm b; exact g j0 a<|ld zez j0 j0<|g j0 a<|ld zcI j0 j0<|g j0 a<|pc (zl6 f i c n) j0 j0 j0<|g j0 a<|nt j0<|za (eg [10,11,12,13] 4 j0 j0 j0 j0)) (fun hb=>(sm (bT hb b)).symm)<|u<|asg j0<|za ?_
 refine zj ?_
 obtain rfl:=sm h
 exact ⟨_,j0,[],ci j0,j0,j5,j0,j1⟩
def za9:Option (Int) :=
  some (-1)
def zba (b:List zA) (e:List zc) (f:List (List UInt8×Int)) (i:List zc) (j:List (List UInt8×Int)) (a:Int):Option (Sum (Int) (Sum (Unit) (Int))) :=
  cond (decide (a < (List.length b:Int))) ((idx b a).bind fun c=>(zgp c e f i j).bind fun d=>cond d (some (.inr (.inr a))) (some (.inl (IntKind.i64.wrap (a+1))))) (some (.inr (.inl ())))
def zbM (a:List zA) (c:List zc) (d:List (List UInt8×Int)) (e:List zc) (f:List (List UInt8×Int)):Option (Int) :=
  (zab (fun z=>zba a c d e f z) 0).bind fun o=>zaJ o (fun b=>za9) some
theorem zeI (a:List zA) (c:List zc) (d:List (List UInt8×Int)) (e:List zc) (f:List (List UInt8×Int)) {r:Int} (h:zbM a c d e f=some r):zu Tryz.prog 349 [.isl 4 (List.map zw a),.fn (.func 305) [] [.ipt 1 [[.fn (.func 299) [] [.ipt 1 [[.ipt 2 [[.isl 6 (List.map zb c),.imp (List.map (rKV (fun x=>iA x)) d)]] 0 0]] 0 0]]] 0 0,.ipt 1 [[.ipt 2 [[.isl 6 (List.map zb e),.imp (List.map (rKV (fun x=>iA x)) f)]] 0 0]] 0 0]] (iA r):=by
 refine zn Tryz.func349 j0 (by kernel_rfl) j0 j0 ?_
 unfold zbM at h
 refine rg j0<|u<|asg j0<|za ?_
 refine zl ?_
 refine rg j0<|u<|mv j0<|u<|lnI zj7 j0 j0<|u<|mv j0<|za ?_
 obtain ⟨o,ho,h⟩:=bs h
 refine zT (X:=Int) (B:=Unit) (R:=Int) (fun z=>[(0,.isl 4 (List.map zw a)),(1,.fn (.func 305) [] [.ipt 1 [[.fn (.func 299) [] [.ipt 1 [[.ipt 2 [[.isl 6 (List.map zb c),.imp (List.map (rKV (fun x=>iA x)) d)]] 0 0]] 0 0]]] 0 0,.ipt 1 [[.ipt 2 [[.isl 6 (List.map zb e),.imp (List.map (rKV (fun x=>iA x)) f)]] 0 0]] 0 0]),(7,iA (List.length a:Int)),(8,iA z)]) (fun z=>[]) (fun b=>[]) (fun b=>[]) (fun r env st=>zaC Tryz.prog Tryz.f349 0 (iA r) [] env st) ho ⟨[],ce j0 j0<|ce j0 j0<|ce j0 j0<|ce j0 j0<|cn,j0,j5,j0,j1⟩ ?_ ?_ ?_
 ·
  rintro n r h
  replace h:zba a c d e f n=some r:=h
  unfold zba at h
  refine rg j0<|u<|lss ti3 j0 j0<|za ?_
  refine zl ?_
  refine zh j0 (fun i=>?_) (fun i=>?_)
  ·
   replace h:=bT i h
   refine zk ?_
   refine zl ?_
   refine zq ?_
   refine rg j0<|u<|mv j0<|u<|asg j0<|za ?_
   obtain ⟨l,m,h⟩:=bs h
   obtain ⟨q,p,h⟩:=bs h
   refine rg j0<|u<|mv j0<|u<|mv j0<|u<|mv j0<|u<|ixI zj7 j0 zcI j0 j0 j0 m<|u<|ldI zcI j0 (zp m).2.2 j0<|u<|pc (zjL l c d e f p) j0 j0 j0<|za ?_
   refine zh j0 (fun j=>?_) (fun j=>?_)
   ·
    replace h:=bT j h
    refine rg j0<|u<|mv j0<|u<|asg j0<|za ?_
    refine zj ?_
    obtain rfl:=sm h
    exact ⟨_,j0,_,j0,[],ci j0,j0,j5,j0,j1⟩
   ·
    replace h:=bF j h
    refine zk ?_
    refine rl j0<|u<|add ti3 j0 j0<|u<|mv j0<|za ?_
    obtain rfl:=sm h
    exact ⟨_,j0,[],ce j0 j0<|ce j0 j0<|ce j0 j0<|ce j0 j0<|cn,j0,j5,j0,j1⟩
  ·
   replace h:=bF i h
   refine zz ?_
   obtain rfl:=sm h
   exact ⟨j0,_,j0,[],cn,j0,j5,j0,j1⟩
 ·
  rintro ⟨⟩ rfl
  replace h:za9=some r:=h
  unfold za9 at h
  refine zv ?_
  refine rg j0<|u<|asg j0<|za ?_
  refine zj ?_
  obtain rfl:=sm h
  exact ⟨_,j0,[],ci j0,j0,j5,j0,j1⟩
 ·
  rintro r' rfl env st hp
  obtain rfl:=sm h
  exact hp
def za8 (a:List zA) (b:List zc) (c:List (List UInt8×Int)) (d:List zc) (e:List (List UInt8×Int)):Option (Bool) :=
  (zbM a b c d e).bind fun f=>some (decide (0≤f))
theorem zdY (a:List zA) (b:List zc) (c:List (List UInt8×Int)) (d:List zc) (e:List (List UInt8×Int)) {r:Bool} (h:za8 a b c d e=some r):zu Tryz.prog 304 [.isl 4 (List.map zw a),.fn (.func 305) [] [.ipt 1 [[.fn (.func 299) [] [.ipt 1 [[.ipt 2 [[.isl 6 (List.map zb b),.imp (List.map (rKV (fun x=>iA x)) c)]] 0 0]] 0 0]]] 0 0,.ipt 1 [[.ipt 2 [[.isl 6 (List.map zb d),.imp (List.map (rKV (fun x=>iA x)) e)]] 0 0]] 0 0]] (bA r):=by
 refine zn Tryz.func304 j0 (by kernel_rfl) j0 j0 ?_
 unfold za8 at h
 refine rg j0<|u<|asg j0<|za ?_
 obtain ⟨i,f,h⟩:=bs h
 refine rg j0<|u<|mv j0<|u<|mv j0<|u<|pc (zeI a b c d e f) j0 j0 j0<|u<|geq ti3 j0 j0<|u<|asg j0<|za ?_
 refine zj ?_
 obtain rfl:=sm h
 exact ⟨_,j0,[],ci j0,j0,j5,j0,j1⟩
def zbA:Option (Int) :=
  some (-1)
def zbB (b:List (List UInt8)) (c:List zc) (d:List (List UInt8×Int)) (a:Int):Option (Sum (Int) (Sum (Unit) (Int))) :=
  cond (decide (a < (List.length b:Int))) ((idx b a).bind fun e=>(zc0 e c d).bind fun f=>cond f (some (.inr (.inr a))) (some (.inl (IntKind.i64.wrap (a+1))))) (some (.inr (.inl ())))
def zbZ (a:List (List UInt8)) (c:List zc) (d:List (List UInt8×Int)):Option (Int) :=
  (zab (fun z=>zbB a c d z) 0).bind fun o=>zaJ o (fun b=>zbA) some
theorem ze3 (a:List (List UInt8)) (c:List zc) (d:List (List UInt8×Int)) {r:Int} (h:zbZ a c d=some r):zu Tryz.prog 181 [.isl 1 (List.map zi a),.fn (.func 299) [] [.ipt 1 [[.ipt 2 [[.isl 6 (List.map zb c),.imp (List.map (rKV (fun x=>iA x)) d)]] 0 0]] 0 0]] (iA r):=by
 refine zn Tryz.func181 j0 (by kernel_rfl) j0 j0 ?_
 unfold zbZ at h
 refine rg j0<|u<|asg j0<|za ?_
 refine zl ?_
 refine rg j0<|u<|mv j0<|u<|lnI zM j0 j0<|u<|mv j0<|za ?_
 obtain ⟨o,ho,h⟩:=bs h
 refine zT (X:=Int) (B:=Unit) (R:=Int) (fun z=>[(0,.isl 1 (List.map zi a)),(1,.fn (.func 299) [] [.ipt 1 [[.ipt 2 [[.isl 6 (List.map zb c),.imp (List.map (rKV (fun x=>iA x)) d)]] 0 0]] 0 0]),(7,iA (List.length a:Int)),(8,iA z)]) (fun z=>[]) (fun b=>[]) (fun b=>[]) (fun r env st=>zaC Tryz.prog Tryz.f181 0 (iA r) [] env st) ho ⟨[],ce j0 j0<|ce j0 j0<|ce j0 j0<|ce j0 j0<|cn,j0,j5,j0,j1⟩ ?_ ?_ ?_
 ·
  rintro j r h
  replace h:zbB a c d j=some r:=h
  unfold zbB at h
  refine rg j0<|u<|lss ti3 j0 j0<|za ?_
  refine zl ?_
  refine zh j0 (fun e=>?_) (fun e=>?_)
  ·
   replace h:=bT e h
   refine zk ?_
   refine zl ?_
   refine zq ?_
   refine rg j0<|u<|mv j0<|u<|asg j0<|za ?_
   obtain ⟨l,i,h⟩:=bs h
   obtain ⟨n,m,h⟩:=bs h
   refine rg j0<|u<|mv j0<|u<|mv j0<|u<|mv j0<|u<|ixI zM j0 ti9 j0 j0 j0 i<|u<|ldI ti9 j0 (zp i).2.2 j0<|u<|pc (zdb l c d m) j0 j0 j0<|za ?_
   refine zh j0 (fun f=>?_) (fun f=>?_)
   ·
    replace h:=bT f h
    refine rg j0<|u<|mv j0<|u<|asg j0<|za ?_
    refine zj ?_
    obtain rfl:=sm h
    exact ⟨_,j0,_,j0,[],ci j0,j0,j5,j0,j1⟩
   ·
    replace h:=bF f h
    refine zk ?_
    refine rl j0<|u<|add ti3 j0 j0<|u<|mv j0<|za ?_
    obtain rfl:=sm h
    exact ⟨_,j0,[],ce j0 j0<|ce j0 j0<|ce j0 j0<|ce j0 j0<|cn,j0,j5,j0,j1⟩
  ·
   replace h:=bF e h
   refine zz ?_
   obtain rfl:=sm h
   exact ⟨j0,_,j0,[],cn,j0,j5,j0,j1⟩
 ·
  rintro ⟨⟩ rfl
  replace h:zbA=some r:=h
  unfold zbA at h
  refine zv ?_
  refine rg j0<|u<|asg j0<|za ?_
  refine zj ?_
  obtain rfl:=sm h
  exact ⟨_,j0,[],ci j0,j0,j5,j0,j1⟩
 ·
  rintro r' rfl env st hp
  obtain rfl:=sm h
  exact hp
def zbo (a:List (List UInt8)) (b:List zc) (c:List (List UInt8×Int)):Option (Bool) :=
  (zbZ a b c).bind fun d=>some (decide (0≤d))
theorem zes (a:List (List UInt8)) (b:List zc) (c:List (List UInt8×Int)) {r:Bool} (h:zbo a b c=some r):zu Tryz.prog 99 [.isl 1 (List.map zi a),.fn (.func 299) [] [.ipt 1 [[.ipt 2 [[.isl 6 (List.map zb b),.imp (List.map (rKV (fun x=>iA x)) c)]] 0 0]] 0 0]] (bA r):=by
 refine zn Tryz.func99 j0 (by kernel_rfl) j0 j0 ?_
 unfold zbo at h
 refine rg j0<|u<|asg j0<|za ?_
 obtain ⟨e,d,h⟩:=bs h
 refine rg j0<|u<|mv j0<|u<|mv j0<|u<|pc (ze3 a b c d) j0 j0 j0<|u<|geq ti3 j0 j0<|u<|asg j0<|za ?_
 refine zj ?_
 obtain rfl:=sm h
 exact ⟨_,j0,[],ci j0,j0,j5,j0,j1⟩
def zht (a:ze) (b:List zc) (c:List (List UInt8×Int)) (e:List zc) (f:List (List UInt8×Int)):Option (Bool) :=
  (zaU a.Traps b c).bind fun i=>(za8 a.Code b c e f).bind fun j=>(zc0 a.Ret b c).bind fun l=>(cond l (some true) ((zbo a.Params b c).bind fun m=>some m)).bind fun d=>some ((d||i)||j)
theorem zkU (b:ze) (c:List zc) (d:List (List UInt8×Int)) (l:List zc) (m:List (List UInt8×Int)) {r:Bool} (h:zht b c d l m=some r):zu Tryz.prog 301 [.agg (zf b),.ipt 1 [[.fn (.func 299) [] [.ipt 1 [[.ipt 2 [[.isl 6 (List.map zb c),.imp (List.map (rKV (fun x=>iA x)) d)]] 0 0]] 0 0]]] 0 0,.ipt 1 [[.ipt 2 [[.isl 6 (List.map zb l),.imp (List.map (rKV (fun x=>iA x)) m)]] 0 0]] 0 0] (bA r):=by
 refine zn Tryz.func301 j0 (by kernel_rfl) j0 j0 ?_
 unfold zht at h
 refine rg j0<|u<|bx 0 10 j0 j0 j0 j0<|u<|asg j0<|za ?_
 obtain ⟨v,o,h⟩:=bs h
 refine rg j0<|u<|fa zN j0 j0 j0<|u<|ld zqp j0 j0<|u<|mf j0 j0<|u<|pc (zdw b.Traps c d o) j0 j0 j0<|u<|asg j0<|za ?_
 obtain ⟨B,p,h⟩:=bs h
 refine rg j0<|u<|fa zN j0 j0 j0<|u<|ld zj7 j0 j0<|u<|mf j0 j0<|u<|pc (zdY b.Code c d l m p) j0 j0 j0<|u<|asg j0<|za ?_
 obtain ⟨C,q,h⟩:=bs h
 obtain ⟨n,e,h⟩:=bs h
 refine rg j0<|u<|ld zmp j0 j0<|u<|fa zN j0 j0 j0<|u<|ld ti9 j0 j0<|u<|pc (zdb b.Ret c d q) j0 j0 j0<|u<|mv j0<|zfo (x:=n) (j:=4) 4 j0 j0 j0 j0 j0 gpn (fun a=>by replace e:=bF a e; obtain ⟨D,s,e⟩:=bs e; obtain rfl:=sm e; exact g j0 a<|fa zN j0 j0 j0<|g j0 a<|ld zM j0 j0<|g j0 a<|ld zmp j0 j0<|g j0 a<|pc (zes b.Params c d s) j0 j0 j0<|za (eg [20,21,22,23] 4 j0 j0 j0 j0)) (fun hb=>(sm (bT hb e)).symm)<|u<|mv j0<|zfo (j:=10) 1 j0 j0 j0 j0 j0 gpn (fun f=>g j0 f<|mv j0<|za (egO [26] 1 f j0 j0 j0 j0)) orT<|u<|mv j0<|zfo (j:=13) 1 j0 j0 j0 j0 j0 gpn (fun i=>g j0 i<|mv j0<|za (egO [29] 1 i j0 j0 j0 j0)) orT<|u<|asg j0<|za ?_
 refine zj ?_
 obtain rfl:=sm h
 exact ⟨_,j0,[],ci j0,j0,j5,j0,j1⟩
def zar:Option (Int) :=
  some (-1)
def zas (b:List ze) (e:List zc) (f:List (List UInt8×Int)) (i:List zc) (j:List (List UInt8×Int)) (a:Int):Option (Sum (Int) (Sum (Unit) (Int))) :=
  cond (decide (a < (List.length b:Int))) ((idx b a).bind fun c=>(zht c e f i j).bind fun d=>cond d (some (.inr (.inr a))) (some (.inl (IntKind.i64.wrap (a+1))))) (some (.inr (.inl ())))
def zaO (a:List ze) (c:List zc) (d:List (List UInt8×Int)) (e:List zc) (f:List (List UInt8×Int)):Option (Int) :=
  (zab (fun z=>zas a c d e f z) 0).bind fun o=>zaJ o (fun b=>zar) some
theorem zdh (a:List ze) (c:List zc) (d:List (List UInt8×Int)) (e:List zc) (f:List (List UInt8×Int)) {r:Int} (h:zaO a c d e f=some r):zu Tryz.prog 225 [.isl 10 (List.map zf a),.fn (.func 301) [] [.ipt 1 [[.fn (.func 299) [] [.ipt 1 [[.ipt 2 [[.isl 6 (List.map zb c),.imp (List.map (rKV (fun x=>iA x)) d)]] 0 0]] 0 0]]] 0 0,.ipt 1 [[.ipt 2 [[.isl 6 (List.map zb e),.imp (List.map (rKV (fun x=>iA x)) f)]] 0 0]] 0 0]] (iA r):=by
 refine zn Tryz.func225 j0 (by kernel_rfl) j0 j0 ?_
 unfold zaO at h
 refine rg j0<|u<|asg j0<|za ?_
 refine zl ?_
 refine rg j0<|u<|mv j0<|u<|lnI zc7 j0 j0<|u<|mv j0<|za ?_
 obtain ⟨o,ho,h⟩:=bs h
 refine zT (X:=Int) (B:=Unit) (R:=Int) (fun z=>[(0,.isl 10 (List.map zf a)),(1,.fn (.func 301) [] [.ipt 1 [[.fn (.func 299) [] [.ipt 1 [[.ipt 2 [[.isl 6 (List.map zb c),.imp (List.map (rKV (fun x=>iA x)) d)]] 0 0]] 0 0]]] 0 0,.ipt 1 [[.ipt 2 [[.isl 6 (List.map zb e),.imp (List.map (rKV (fun x=>iA x)) f)]] 0 0]] 0 0]),(7,iA (List.length a:Int)),(8,iA z)]) (fun z=>[]) (fun b=>[]) (fun b=>[]) (fun r env st=>zaC Tryz.prog Tryz.f225 0 (iA r) [] env st) ho ⟨[],ce j0 j0<|ce j0 j0<|ce j0 j0<|ce j0 j0<|cn,j0,j5,j0,j1⟩ ?_ ?_ ?_
 ·
  rintro n r h
  replace h:zas a c d e f n=some r:=h
  unfold zas at h
  refine rg j0<|u<|lss ti3 j0 j0<|za ?_
  refine zl ?_
  refine zh j0 (fun i=>?_) (fun i=>?_)
  ·
   replace h:=bT i h
   refine zk ?_
   refine zl ?_
   refine zq ?_
   refine rg j0<|u<|mv j0<|u<|asg j0<|za ?_
   obtain ⟨l,m,h⟩:=bs h
   obtain ⟨q,p,h⟩:=bs h
   refine rg j0<|u<|mv j0<|u<|mv j0<|u<|mv j0<|u<|ixI zc7 j0 zN j0 j0 j0 m<|u<|ldI zN j0 (zp m).2.2 j0<|u<|pc (zkU l c d e f p) j0 j0 j0<|za ?_
   refine zh j0 (fun j=>?_) (fun j=>?_)
   ·
    replace h:=bT j h
    refine rg j0<|u<|mv j0<|u<|asg j0<|za ?_
    refine zj ?_
    obtain rfl:=sm h
    exact ⟨_,j0,_,j0,[],ci j0,j0,j5,j0,j1⟩
   ·
    replace h:=bF j h
    refine zk ?_
    refine rl j0<|u<|add ti3 j0 j0<|u<|mv j0<|za ?_
    obtain rfl:=sm h
    exact ⟨_,j0,[],ce j0 j0<|ce j0 j0<|ce j0 j0<|ce j0 j0<|cn,j0,j5,j0,j1⟩
  ·
   replace h:=bF i h
   refine zz ?_
   obtain rfl:=sm h
   exact ⟨j0,_,j0,[],cn,j0,j5,j0,j1⟩
 ·
  rintro ⟨⟩ rfl
  replace h:zar=some r:=h
  unfold zar at h
  refine zv ?_
  refine rg j0<|u<|asg j0<|za ?_
  refine zj ?_
  obtain rfl:=sm h
  exact ⟨_,j0,[],ci j0,j0,j5,j0,j1⟩
 ·
  rintro r' rfl env st hp
  obtain rfl:=sm h
  exact hp
def zak (a:List ze) (b:List zc) (c:List (List UInt8×Int)) (d:List zc) (e:List (List UInt8×Int)):Option (Bool) :=
  (zaO a b c d e).bind fun f=>some (decide (0≤f))
theorem zc2 (a:List ze) (b:List zc) (c:List (List UInt8×Int)) (d:List zc) (e:List (List UInt8×Int)) {r:Bool} (h:zak a b c d e=some r):zu Tryz.prog 239 [.isl 10 (List.map zf a),.fn (.func 301) [] [.ipt 1 [[.fn (.func 299) [] [.ipt 1 [[.ipt 2 [[.isl 6 (List.map zb b),.imp (List.map (rKV (fun x=>iA x)) c)]] 0 0]] 0 0]]] 0 0,.ipt 1 [[.ipt 2 [[.isl 6 (List.map zb d),.imp (List.map (rKV (fun x=>iA x)) e)]] 0 0]] 0 0]] (bA r):=by
 refine zn Tryz.func239 j0 (by kernel_rfl) j0 j0 ?_
 unfold zak at h
 refine rg j0<|u<|asg j0<|za ?_
 obtain ⟨i,f,h⟩:=bs h
 refine rg j0<|u<|mv j0<|u<|mv j0<|u<|pc (zdh a b c d e f) j0 j0 j0<|u<|geq ti3 j0 j0<|u<|asg j0<|za ?_
 refine zj ?_
 obtain rfl:=sm h
 exact ⟨_,j0,[],ci j0,j0,j5,j0,j1⟩
def ziL (a:List zc) (b:List (List UInt8×Int)) (c:zc):Option (Bool) :=
  (zaD c.Fields a b).bind fun d=>(zak c.Methods a b a b).bind fun e=>some ((!d)&&(!e))
theorem zl7 (a:List zc) (b:List (List UInt8×Int)) (d:zc) {r:Bool} (h:ziL a b d=some r):zu Tryz.prog 213 [.ipt 2 [[.isl 6 (List.map zb a),.imp (List.map (rKV (fun x=>iA x)) b)]] 0 0,.agg (zb d)] (bA r):=by
 refine zn Tryz.func213 j0 (by kernel_rfl) j0 j0 ?_
 unfold ziL at h
 refine rg j0<|u<|bx 0 1 j0 j0 j0 j0<|u<|bx 1 6 j0 j0 j0 j0<|u<|asg j0<|za ?_
 refine rg j0<|u<|mf j0 j0<|u<|al 2 zmp j0<|u<|sto zmp j0 j0 j0<|za ?_
 obtain ⟨i,e,h⟩:=bs h
 refine rg j0<|u<|fa zaf j0 j0 j0<|u<|ld zm0 j0 j0<|u<|mf j0 j0<|u<|pcs (zde d.Fields a b e) j0 j0 (.cons (si j0) (.cons (zdp j5 ⟨(zbe j0 ⟨(zdp j5 ⟨(zbe j0 ⟨(si j0),j5⟩),j5⟩),j5⟩),j5⟩) .nil)) zcq<|u<|asg j0<|za ?_
 obtain ⟨l,f,h⟩:=bs h
 refine rg j0<|u<|fa zaf j0 j0 j0<|u<|ld zc7 j0 j0<|u<|mf j0 j0<|u<|pcs (zc2 d.Methods a b a b f) j0 j0 (.cons (si j0) (.cons (zdp j5 ⟨(zbe j0 ⟨(zdp j5 ⟨(zbe j0 ⟨(si j0),j5⟩),j5⟩),j5⟩),(zbe j0 ⟨(si j0),j5⟩),j5⟩) .nil)) zcq<|u<|asg j0<|za ?_
 refine rg j0<|u<|mv j0<|u<|nt j0<|u<|mv j0<|za7 (j:=2) 2 j0 j0 j0 j0 j0 gpn (fun c=>g j0 c<|mv j0<|g j0 c<|nt j0<|za (egA [20,21] 2 c j0 j0 j0 j0)) ziy<|u<|asg j0<|za ?_
 refine zj ?_
 obtain rfl:=sm h
 exact ⟨_,j0,[],ci j0,j0,j5,j0,j1⟩
def zcz:Option (Bool) :=
  some true
def zcA (b:List (List UInt8)) (c:List (List UInt8)) (a:Int):Option (Sum (Int) (Sum (Unit) (Bool))) :=
  cond (decide (a < (List.length b:Int))) ((idx b a).bind fun d=>(idx c a).bind fun e=>cond (!(d == e)) (some (.inr (.inr false))) (some (.inl (IntKind.i64.wrap (a+1))))) (some (.inr (.inl ())))
def zcS (a:List (List UInt8)) (c:List (List UInt8)):Option (Bool) :=
  cond (!((List.length a:Int) == (List.length c:Int))) (some false) ((zab (fun z=>zcA a c z) 0).bind fun o=>zaJ o (fun b=>zcz) some)
theorem zgv (a:List (List UInt8)) (c:List (List UInt8)) {r:Bool} (h:zcS a c=some r):zu Tryz.prog 318 [.isl 1 (List.map zi a),.isl 1 (List.map zi c)] (bA r):=by
 refine zn Tryz.func318 j0 (by kernel_rfl) j0 j0 ?_
 unfold zcS at h
 refine rg j0<|u<|asg j0<|za ?_
 refine zl ?_
 refine rg j0<|u<|mv j0<|u<|lnI zM j0 j0<|u<|mv j0<|u<|lnI zM j0 j0<|u<|neq ti3 j0 j0<|za ?_
 refine zh j0 (fun e=>?_) (fun e=>?_)
 ·
  replace h:=bT e h
  refine rg j0<|u<|asg j0<|za ?_
  refine zj ?_
  obtain rfl:=sm h
  exact ⟨_,j0,[],ci j0,j0,j5,j0,j1⟩
 ·
  replace h:=bF e h
  refine zk ?_
  refine zl ?_
  refine rg j0<|u<|mv j0<|u<|lnI zM j0 j0<|u<|mv j0<|za ?_
  obtain ⟨o,ho,h⟩:=bs h
  refine zT (X:=Int) (B:=Unit) (R:=Bool) (fun z=>[(0,.isl 1 (List.map zi a)),(1,.isl 1 (List.map zi c)),(12,iA (List.length a:Int)),(13,iA z)]) (fun z=>[]) (fun b=>[]) (fun b=>[]) (fun r env st=>zaC Tryz.prog Tryz.f318 0 (bA r) [] env st) ho ⟨[],ce j0 j0<|ce j0 j0<|ce j0 j0<|ce j0 j0<|cn,j0,j5,j0,j1⟩ ?_ ?_ ?_
  ·
   rintro d r h
   replace h:zcA a c d=some r:=h
   unfold zcA at h
   refine rg j0<|u<|lss ti3 j0 j0<|za ?_
   refine zl ?_
   refine zh j0 (fun f=>?_) (fun f=>?_)
   ·
    replace h:=bT f h
    refine zk ?_
    refine zl ?_
    refine zq ?_
    refine rg j0<|u<|mv j0<|u<|asg j0<|za ?_
    obtain ⟨j,m,h⟩:=bs h
    obtain ⟨l,n,h⟩:=bs h
    refine rd [(0,.isl 1 (List.map zi a)),(1,.isl 1 (List.map zi c)),(12,iA (List.length a:Int)),(13,iA d),(24,bA (!(j == l)))] [] [] [8,7,6,5,4,3,2,1,0] [(24,bA (!(j == l))),(23,sA l),(22,.ipt 1 (List.map zi c) (Int.toNat d) 0),(21,iA d),(20,.isl 1 (List.map zi c)),(19,sA j),(18,.ipt 1 (List.map zi a) (Int.toNat d) 0),(17,iA d),(16,.isl 1 (List.map zi a))] 0 (by kernel_rfl) (by kernel_rfl) j0 (by kernel_rfl) (dt0 ⟨(fun _=>pa j0 j0 j0 j0 (sne ti9 j0 j0<|j4)),(fun _=>pa j0 j0 j0 j0 (ldI ti9 j0 (zp n).2.2 j0<|j4)),(fun _=>pa j0 j0 j0 j0 (ixI zM j0 ti9 j0 j0 j0 n<|j4)),(fun _=>pa j0 j0 j0 j0 (mv j0<|j4)),(fun _=>pa j0 j0 j0 j0 (mv j0<|j4)),(fun _=>pa j0 j0 j0 j0 (ldI ti9 j0 (zp m).2.2 j0<|j4)),(fun _=>pa j0 j0 j0 j0 (ixI zM j0 ti9 j0 j0 j0 m<|j4)),(fun _=>pa j0 j0 j0 j0 (mv j0<|j4)),(fun _=>pa j0 j0 j0 j0 (mv j0<|j4)),j5⟩ (by kernel_rfl) j0 ⟨[],ce j0 j0<|ce j0 j0<|ce j0 j0<|ce j0 j0<|ce j0 j0<|cn,j0,j5,j0,j1⟩) ?_
    refine zh j0 (fun i=>?_) (fun i=>?_)
    ·
     replace h:=bT i h
     refine rg j0<|u<|asg j0<|za ?_
     refine zj ?_
     obtain rfl:=sm h
     exact ⟨_,j0,_,j0,[],ci j0,j0,j5,j0,j1⟩
    ·
     replace h:=bF i h
     refine zk ?_
     refine rl j0<|u<|add ti3 j0 j0<|u<|mv j0<|za ?_
     obtain rfl:=sm h
     exact ⟨_,j0,[],ce j0 j0<|ce j0 j0<|ce j0 j0<|ce j0 j0<|cn,j0,j5,j0,j1⟩
   ·
    replace h:=bF f h
    refine zz ?_
    obtain rfl:=sm h
    exact ⟨j0,_,j0,[],cn,j0,j5,j0,j1⟩
  ·
   rintro ⟨⟩ rfl
   replace h:zcz=some r:=h
   unfold zcz at h
   refine zv ?_
   refine rg j0<|u<|asg j0<|za ?_
   refine zj ?_
   obtain rfl:=sm h
   exact ⟨_,j0,[],ci j0,j0,j5,j0,j1⟩
  ·
   rintro r' rfl env st hp
   obtain rfl:=sm h
   exact hp
def zhN (a:ze) (b:ze):Option (Bool) :=
  (zcS a.Params b.Params).bind fun c=>some (c&&(a.Ret == b.Ret))
theorem zia (b:ze) (c:ze) {r:Bool} (h:zhN b c=some r):zu Tryz.prog 255 [.agg (zf b),.agg (zf c)] (bA r):=by
 refine zn Tryz.func255 j0 (by kernel_rfl) j0 j0 ?_
 unfold zhN at h
 refine rg j0<|u<|bx 0 10 j0 j0 j0 j0<|u<|bx 1 10 j0 j0 j0 j0<|u<|asg j0<|za ?_
 obtain ⟨e,d,h⟩:=bs h
 refine rg j0<|u<|fa zN j0 j0 j0<|u<|ld zM j0 j0<|u<|fa zN j0 j0 j0<|u<|ld zM j0 j0<|u<|pc (zgv b.Params c.Params d) j0 j0 j0<|u<|mv j0<|za7 (j:=5) 5 j0 j0 j0 j0 j0 gpn (fun a=>g j0 a<|fa zN j0 j0 j0<|g j0 a<|ld ti9 j0 j0<|g j0 a<|fa zN j0 j0 j0<|g j0 a<|ld ti9 j0 j0<|g j0 a<|seq ti9 j0 j0<|za (egA [11,12,13,14,15] 5 a j0 j0 j0 j0)) ziy<|u<|asg j0<|za ?_
 refine zj ?_
 obtain rfl:=sm h
 exact ⟨_,j0,[],ci j0,j0,j5,j0,j1⟩
end
end Go.Proofs.YthmnlfenkhmmhaaGreat
namespace Go.Proofs.YthmnlfenkhmmhaaGreat
noncomputable section
set_option linter.unusedSimpArgs false
set_option linter.unusedVariables false
set_option maxRecDepth 100000
set_option maxHeartbeats 4000000
def zfD (a:ze) (b:List UInt8) (j:List (List UInt8)) (l:List UInt8) (c:Bool) (m:Bool) (n:Int) (o:Int) (p:List zA) (d:List zaX) (e:List zU):Option (Bool) :=
  (cond ((a.Name == b)&&(!(b == [36,105,110,105,116]))) ((zhN (ze.mk b j l c m n o p d e) a).bind fun f=>some (((!f)||c)||a.Static)) (some false)).bind fun i=>some i
theorem ziK (l:ze) (m:List UInt8) (n:List (List UInt8)) (o:List UInt8) (p:Bool) (q:Bool) (s:Int) (v:Int) (B:List zA) (d:List zaX) (e:List zU) {r:Bool} (h:zfD l m n o p q s v B d e=some r):zu Tryz.prog 307 [.agg (zf l),.ipt 10 [[sA m,.isl 1 (List.map zi n),sA o,bA p,bA q,iA s,iA v,.isl 4 (List.map zw B),.isl 3 (List.map zac d),.isl 4 (List.map zW e)]] 0 0] (bA r):=by
 refine zn Tryz.func307 j0 (by kernel_rfl) j0 j0 ?_
 unfold zfD at h
 refine rg j0<|u<|bx 0 10 j0 j0 j0 j0<|u<|asg j0<|za ?_
 obtain ⟨C,c,h⟩:=bs h
 refine rg j0<|u<|fa zN j0 j0 j0<|u<|ld ti9 j0 j0<|u<|fa zN j0 j0 j0<|u<|ld ti9 j0 j0<|u<|seq ti9 j0 j0<|u<|mv j0<|za7 (j:=5) 3 j0 j0 j0 j0 j0 gpn (fun b=>g j0 b<|fa zN j0 j0 j0<|g j0 b<|ld ti9 j0 j0<|g j0 b<|sne ti9 j0 j0<|za (egA [10,11,12] 3 b j0 j0 j0 j0)) ziy<|u<|mv j0<|za7 (x:=C) (j:=10) 12 j0 j0 j0 j0 j0 gpn (fun a=>by replace c:=bT a c; obtain ⟨E,D,c⟩:=bs c; obtain rfl:=sm c; exact g j0 a<|ld zN j0 j0<|g j0 a<|ld zN j0 j0<|g j0 a<|pc (zia (ze.mk m n o p q s v B d e) l D) j0 j0 j0<|g j0 a<|nt j0<|g j0 a<|mv j0<|zfo (j:=15) 2 j0 j0 j0 j0 j0 (gps j0 j0 a) (fun f=>g j0 f<|fa zN j0 j0 j0<|g j0 f<|ld ti4 j0 j0<|za (egO [20,21] 2 f j0 j0 j0 j0)) orT<|g j0 a<|mv j0<|zfo (j:=19) 2 j0 j0 j0 j0 j0 (gps j0 j0 a) (fun i=>g j0 i<|fa zN j0 j0 j0<|g j0 i<|ld ti4 j0 j0<|za (egO [24,25] 2 i j0 j0 j0 j0)) orT<|za (eg [15,16,17,18,19,20,21,22,23,24,25,26] 8 j0 j0 j0 j0)) (fun hb=>(sm (bF hb c)).symm)<|u<|asg j0<|za ?_
 refine zj ?_
 obtain rfl:=sm h
 exact ⟨_,j0,[],ci j0,j0,j5,j0,j1⟩
def zat:Option (Int) :=
  some (-1)
def zau (b:List ze) (i:List UInt8) (j:List (List UInt8)) (l:List UInt8) (m:Bool) (n:Bool) (o:Int) (p:Int) (q:List zA) (c:List zaX) (d:List zU) (a:Int):Option (Sum (Int) (Sum (Unit) (Int))) :=
  cond (decide (a < (List.length b:Int))) ((idx b a).bind fun e=>(zfD e i j l m n o p q c d).bind fun f=>cond f (some (.inr (.inr a))) (some (.inl (IntKind.i64.wrap (a+1))))) (some (.inr (.inl ())))
def zaP (d:List ze) (e:List UInt8) (f:List (List UInt8)) (i:List UInt8) (j:Bool) (l:Bool) (m:Int) (n:Int) (p:List zA) (a:List zaX) (c:List zU):Option (Int) :=
  (zab (fun z=>zau d e f i j l m n p a c z) 0).bind fun o=>zaJ o (fun b=>zat) some
theorem zdi (d:List ze) (e:List UInt8) (f:List (List UInt8)) (i:List UInt8) (j:Bool) (l:Bool) (m:Int) (n:Int) (p:List zA) (a:List zaX) (c:List zU) {r:Int} (h:zaP d e f i j l m n p a c=some r):zu Tryz.prog 225 [.isl 10 (List.map zf d),.fn (.func 307) [] [.ipt 10 [[sA e,.isl 1 (List.map zi f),sA i,bA j,bA l,iA m,iA n,.isl 4 (List.map zw p),.isl 3 (List.map zac a),.isl 4 (List.map zW c)]] 0 0]] (iA r):=by
 refine zn Tryz.func225 j0 (by kernel_rfl) j0 j0 ?_
 unfold zaP at h
 refine rg j0<|u<|asg j0<|za ?_
 refine zl ?_
 refine rg j0<|u<|mv j0<|u<|lnI zc7 j0 j0<|u<|mv j0<|za ?_
 obtain ⟨o,ho,h⟩:=bs h
 refine zT (X:=Int) (B:=Unit) (R:=Int) (fun z=>[(0,.isl 10 (List.map zf d)),(1,.fn (.func 307) [] [.ipt 10 [[sA e,.isl 1 (List.map zi f),sA i,bA j,bA l,iA m,iA n,.isl 4 (List.map zw p),.isl 3 (List.map zac a),.isl 4 (List.map zW c)]] 0 0]),(7,iA (List.length d:Int)),(8,iA z)]) (fun z=>[]) (fun b=>[]) (fun b=>[]) (fun r env st=>zaC Tryz.prog Tryz.f225 0 (iA r) [] env st) ho ⟨[],ce j0 j0<|ce j0 j0<|ce j0 j0<|ce j0 j0<|cn,j0,j5,j0,j1⟩ ?_ ?_ ?_
 ·
  rintro v r h
  replace h:zau d e f i j l m n p a c v=some r:=h
  unfold zau at h
  refine rg j0<|u<|lss ti3 j0 j0<|za ?_
  refine zl ?_
  refine zh j0 (fun q=>?_) (fun q=>?_)
  ·
   replace h:=bT q h
   refine zk ?_
   refine zl ?_
   refine zq ?_
   refine rg j0<|u<|mv j0<|u<|asg j0<|za ?_
   obtain ⟨x,C,h⟩:=bs h
   obtain ⟨E,D,h⟩:=bs h
   refine rg j0<|u<|mv j0<|u<|mv j0<|u<|mv j0<|u<|ixI zc7 j0 zN j0 j0 j0 C<|u<|ldI zN j0 (zp C).2.2 j0<|u<|pc (ziK x e f i j l m n p a c D) j0 j0 j0<|za ?_
   refine zh j0 (fun s=>?_) (fun s=>?_)
   ·
    replace h:=bT s h
    refine rg j0<|u<|mv j0<|u<|asg j0<|za ?_
    refine zj ?_
    obtain rfl:=sm h
    exact ⟨_,j0,_,j0,[],ci j0,j0,j5,j0,j1⟩
   ·
    replace h:=bF s h
    refine zk ?_
    refine rl j0<|u<|add ti3 j0 j0<|u<|mv j0<|za ?_
    obtain rfl:=sm h
    exact ⟨_,j0,[],ce j0 j0<|ce j0 j0<|ce j0 j0<|ce j0 j0<|cn,j0,j5,j0,j1⟩
  ·
   replace h:=bF q h
   refine zz ?_
   obtain rfl:=sm h
   exact ⟨j0,_,j0,[],cn,j0,j5,j0,j1⟩
 ·
  rintro ⟨⟩ rfl
  replace h:zat=some r:=h
  unfold zat at h
  refine zv ?_
  refine rg j0<|u<|asg j0<|za ?_
  refine zj ?_
  obtain rfl:=sm h
  exact ⟨_,j0,[],ci j0,j0,j5,j0,j1⟩
 ·
  rintro r' rfl env st hp
  obtain rfl:=sm h
  exact hp
def zal (d:List ze) (e:List UInt8) (f:List (List UInt8)) (i:List UInt8) (j:Bool) (l:Bool) (m:Int) (n:Int) (o:List zA) (a:List zaX) (b:List zU):Option (Bool) :=
  (zaP d e f i j l m n o a b).bind fun c=>some (decide (0≤c))
theorem zc3 (c:List ze) (d:List UInt8) (e:List (List UInt8)) (f:List UInt8) (i:Bool) (j:Bool) (l:Int) (m:Int) (n:List zA) (a:List zaX) (b:List zU) {r:Bool} (h:zal c d e f i j l m n a b=some r):zu Tryz.prog 239 [.isl 10 (List.map zf c),.fn (.func 307) [] [.ipt 10 [[sA d,.isl 1 (List.map zi e),sA f,bA i,bA j,iA l,iA m,.isl 4 (List.map zw n),.isl 3 (List.map zac a),.isl 4 (List.map zW b)]] 0 0]] (bA r):=by
 refine zn Tryz.func239 j0 (by kernel_rfl) j0 j0 ?_
 unfold zal at h
 refine rg j0<|u<|asg j0<|za ?_
 obtain ⟨p,o,h⟩:=bs h
 refine rg j0<|u<|mv j0<|u<|mv j0<|u<|pc (zdi c d e f i j l m n a b o) j0 j0 j0<|u<|geq ti3 j0 j0<|u<|asg j0<|za ?_
 refine zj ?_
 obtain rfl:=sm h
 exact ⟨_,j0,[],ci j0,j0,j5,j0,j1⟩
def zfd:Option (Bool) :=
  some true
def zfc (a:Int):Option (Sum (Int) (Sum (Unit) (Bool))) :=
  some (.inl (IntKind.i64.wrap (a+1)))
def zfe (i:List zc) (j:List (List UInt8×Int)) (a:ze) (c:List (List UInt8)) (b:Int):Option (Sum (Int) (Sum (Unit) (Bool))) :=
  cond (decide (b < (List.length c:Int))) ((idx c b).bind fun d=>(zE i j d).bind fun e=>(zal e.1.Methods a.Name a.Params a.Ret a.Static a.Abstract a.Locals a.Stack a.Code a.Maps a.Traps).bind fun f=>cond f (some (.inr (.inr false))) (some (.inl (IntKind.i64.wrap (b+1))))) (some (.inr (.inl ())))
def zff (e:List zc) (f:List (List UInt8×Int)) (d:zc) (a:Int):Option (Sum (Int) (Sum (Unit) (Bool))) :=
  cond (decide (a < (List.length d.Methods:Int))) ((idx d.Methods a).bind fun i=>(z6 e f d.Name).bind fun c=>(zmE c 1 (List.length c:Int)).bind fun j=>(zab (fun z=>zfe e f i j z) 0).bind fun o=>zaJ o (fun b=>zfc a) (fun r=>some (.inr (.inr r)))) (some (.inr (.inl ())))
def zgn (a:List zc) (c:List (List UInt8×Int)) (d:zc):Option (Bool) :=
  (zab (fun z=>zff a c d z) 0).bind fun o=>zaJ o (fun b=>zfd) some
theorem zjJ (e:List zc) (f:List (List UInt8×Int)) (d:zc) {r:Bool} (h:zgn e f d=some r):zu Tryz.prog 214 [.ipt 2 [[.isl 6 (List.map zb e),.imp (List.map (rKV (fun x=>iA x)) f)]] 0 0,.agg (zb d)] (bA r):=by
 refine zn Tryz.func214 j0 (by kernel_rfl) j0 j0 ?_
 unfold zgn at h
 refine rg j0<|u<|bx 0 6 j0 j0 j0 j0<|u<|asg j0<|za ?_
 refine zl ?_
 refine rg j0<|u<|fa zaf j0 j0 j0<|u<|ld zc7 j0 j0<|u<|lnI zc7 j0 j0<|u<|mv j0<|za ?_
 obtain ⟨o,ho,h⟩:=bs h
 refine zT (X:=Int) (B:=Unit) (R:=Bool) (fun z=>[(0,.ipt 2 [[.isl 6 (List.map zb e),.imp (List.map (rKV (fun x=>iA x)) f)]] 0 0),(3,.mpt 0 0 0),(12,.isl 10 (List.map zf d.Methods)),(13,iA (List.length d.Methods:Int)),(14,iA z)]) (fun z=>[some (6,[(zb d)])]) (fun b=>[]) (fun b=>[]) (fun r env st=>zaC Tryz.prog Tryz.f214 0 (bA r) [] env st) ho ⟨[.old 0],ce j0 j0<|cv j0 (.mpt j0)<|ce j0 j0<|ce j0 j0<|ce j0 j0<|cn,j0,⟨⟨_,j0,zg (ciL j0)⟩,j5⟩,j0,j1⟩ ?_ ?_ ?_
 ·
  rintro i r h
  replace h:zff e f d i=some r:=h
  unfold zff at h
  refine rg j0<|u<|lss ti3 j0 j0<|za ?_
  refine zl ?_
  refine zh j0 (fun j=>?_) (fun j=>?_)
  ·
   replace h:=bT j h
   refine zk ?_
   refine zl ?_
   refine zq ?_
   obtain ⟨c,q,h⟩:=bs h
   refine rg j0<|u<|ixI zc7 j0 zN j0 j0 j0 q<|u<|ldI zN j0 (zp q).2.2 j0<|u<|al 1 zN j0<|u<|sto zN j0 j0 j0<|za ?_
   obtain ⟨n,C,h⟩:=bs h
   obtain ⟨p,s,h⟩:=bs h
   refine rg j0<|u<|mv j0<|u<|fa zaf j0 j0 j0<|u<|ld ti9 j0 j0<|u<|sc [] (z7 e f d.Name C) j0 j0 j0 j0 ⟨(rnI j0),(rnI j0),j5⟩ j5<|zB (env0:=[(0,.ipt 2 [[.isl 6 (List.map zb e),.imp (List.map (rKV (fun x=>iA x)) f)]] 0 0),(3,.mpt 0 0 0),(6,.mpt 1 0 0),(12,.isl 10 (List.map zf d.Methods)),(13,iA (List.length d.Methods:Int)),(14,iA i),(21,.msl 2 0 (List.length n))]) (st0:=[some (6,[(zb d)]),some (10,[(zf c)]),some (1,List.map zi n)]) ⟨[.old 0,.old 1,.old 2],ce j0 j0<|cv j0 (.mpt j0)<|cv j0 (.mpt j0)<|ce j0 j0<|ce j0 j0<|ce j0 j0<|cv j0 (.msl j0)<|cn,j0,⟨⟨_,j0,zg (ciL j0)⟩,⟨_,j0,zg (ciL j0)⟩,⟨_,j0,zd (fun _=>j0)⟩,j5⟩,j0,j1⟩<|zB (env0:=[(0,.ipt 2 [[.isl 6 (List.map zb e),.imp (List.map (rKV (fun x=>iA x)) f)]] 0 0),(3,.mpt 0 0 0),(6,.mpt 1 0 0),(12,.isl 10 (List.map zf d.Methods)),(13,iA (List.length d.Methods:Int)),(14,iA i),(21,.isl 1 (List.map zi n))]) (st0:=[some (6,[(zb d)]),some (10,[(zf c)])]) ⟨[.old 0,.old 1],ce j0 j0<|cv j0 (.mpt j0)<|cv j0 (.mpt j0)<|ce j0 j0<|ce j0 j0<|ce j0 j0<|cv j0 (zjy j0 j0 (fun _=>j0))<|cn,j0,⟨⟨_,j0,zg (ciL j0)⟩,⟨_,j0,zg (ciL j0)⟩,j5⟩,j0,j1⟩<|u<|slI (a:=1) (b:=(List.length n:Int)) zM j0 ti9 j0 j0 (zqF j0 s) j0 s<|u<|lnI zM j0 j0<|u<|mv j0<|za ?_
   obtain ⟨o,ho,h⟩:=bs h
   refine zT (X:=Int) (B:=Unit) (R:=Bool) (fun z=>[(0,.ipt 2 [[.isl 6 (List.map zb e),.imp (List.map (rKV (fun x=>iA x)) f)]] 0 0),(3,.mpt 0 0 0),(6,.mpt 1 0 0),(12,.isl 10 (List.map zf d.Methods)),(13,iA (List.length d.Methods:Int)),(14,iA i),(22,.isl 1 (List.map zi p)),(23,iA (List.length p:Int)),(24,iA z)]) (fun z=>[some (6,[(zb d)]),some (10,[(zf c)])]) (fun b=>[(0,.ipt 2 [[.isl 6 (List.map zb e),.imp (List.map (rKV (fun x=>iA x)) f)]] 0 0),(3,.mpt 0 0 0),(12,.isl 10 (List.map zf d.Methods)),(13,iA (List.length d.Methods:Int)),(14,iA i)]) (fun b=>[some (6,[(zb d)])]) (fun r env st=>zaC Tryz.prog Tryz.f214 0 (bA r) [] env st) ho ⟨[.old 0,.old 1],ce j0 j0<|cv j0 (.mpt j0)<|cv j0 (.mpt j0)<|ce j0 j0<|ce j0 j0<|ce j0 j0<|ce j0 j0<|ce j0 j0<|ce j0 j0<|cn,j0,⟨⟨_,j0,zg (ciL j0)⟩,⟨_,j0,zg (ciL j0)⟩,j5⟩,j0,j1⟩ ?_ ?_ ?_
   ·
    rintro D r h
    replace h:zfe e f c p D=some r:=h
    unfold zfe at h
    refine rg j0<|u<|lss ti3 j0 j0<|za ?_
    refine zl ?_
    refine zh j0 (fun l=>?_) (fun l=>?_)
    ·
     replace h:=bT l h
     refine zk ?_
     refine zl ?_
     refine zq ?_
     obtain ⟨E,v,h⟩:=bs h
     refine rg j0<|u<|ixI zM j0 ti9 j0 j0 j0 v<|u<|ldI ti9 j0 (zp v).2.2 j0<|u<|asg j0<|za ?_
     obtain ⟨F,G,h⟩:=bs h
     refine rg j0<|u<|mv j0<|u<|mv j0<|u<|pc (zy e f E G) j0 j0 j0<|u<|mv j0<|u<|ex j0 j0<|u<|ex j0 j0<|u<|al 2 zaf j0<|u<|sto zaf j0 j0 j0<|u<|asg j0<|za ?_
     obtain ⟨I,H,h⟩:=bs h
     refine rg j0<|u<|fa zaf j0 j0 j0<|u<|ld zc7 j0 j0<|u<|mf j0 j0<|u<|pcs (zc3 F.1.Methods c.Name c.Params c.Ret c.Static c.Abstract c.Locals c.Stack c.Code c.Maps c.Traps H) j0 j0 (.cons (si j0) (.cons (zdp j5 ⟨(zbe j0 ⟨(si j0),(si j0),(si j0),(si j0),(si j0),(si j0),(si j0),(si j0),(si j0),(si j0),j5⟩),j5⟩) .nil)) zcq<|za ?_
     refine zh j0 (fun m=>?_) (fun m=>?_)
     ·
      replace h:=bT m h
      refine rg j0<|u<|asg j0<|za ?_
      refine zj ?_
      obtain rfl:=sm h
      exact ⟨_,j0,_,j0,[],ci j0,j0,j5,j0,j1⟩
     ·
      replace h:=bF m h
      refine zk ?_
      refine rl j0<|u<|add ti3 j0 j0<|u<|mv j0<|za ?_
      obtain rfl:=sm h
      exact ⟨_,j0,[.old 0,.old 1],ce j0 j0<|cv j0 (.mpt j0)<|cv j0 (.mpt j0)<|ce j0 j0<|ce j0 j0<|ce j0 j0<|ce j0 j0<|ce j0 j0<|ce j0 j0<|cn,j0,⟨⟨_,j0,zg (ciL j0)⟩,⟨_,j0,zg (ciL j0)⟩,j5⟩,j0,j1⟩
    ·
     replace h:=bF l h
     refine zz ?_
     obtain rfl:=sm h
     exact ⟨j0,_,j0,[.old 0],ce j0 j0<|cv j0 (.mpt j0)<|ce j0 j0<|ce j0 j0<|ce j0 j0<|cn,j0,⟨⟨_,j0,zg (ciL j0)⟩,j5⟩,j0,j1⟩
   ·
    rintro ⟨⟩ rfl
    replace h:zfc i=some r:=h
    unfold zfc at h
    refine zv ?_
    refine rl j0<|u<|add ti3 j0 j0<|u<|mv j0<|za ?_
    obtain rfl:=sm h
    exact ⟨_,j0,[.old 0],ce j0 j0<|cv j0 (.mpt j0)<|ce j0 j0<|ce j0 j0<|ce j0 j0<|cn,j0,⟨⟨_,j0,zg (ciL j0)⟩,j5⟩,j0,j1⟩
   ·
    rintro r' rfl env st hp
    obtain rfl:=sm h
    exact ⟨_,j0,hp⟩
  ·
   replace h:=bF j h
   refine zz ?_
   obtain rfl:=sm h
   exact ⟨j0,_,j0,[],cn,j0,j5,j0,j1⟩
 ·
  rintro ⟨⟩ rfl
  replace h:zfd=some r:=h
  unfold zfd at h
  refine zv ?_
  refine rg j0<|u<|asg j0<|za ?_
  refine zj ?_
  obtain rfl:=sm h
  exact ⟨_,j0,[],ci j0,j0,j5,j0,j1⟩
 ·
  rintro r' rfl env st hp
  obtain rfl:=sm h
  exact hp
def zhq (a:ze) (b:List UInt8) (i:List (List UInt8)) (j:List UInt8) (l:Bool) (m:Bool) (n:Int) (o:Int) (p:List zA) (c:List zaX) (d:List zU):Option (Bool) :=
  (cond (a.Name == b) ((zhN (ze.mk b i j l m n o p c d) a).bind fun e=>some (!e)) (some false)).bind fun f=>some f
theorem zkQ (e:ze) (f:List UInt8) (i:List (List UInt8)) (l:List UInt8) (m:Bool) (n:Bool) (o:Int) (p:Int) (q:List zA) (c:List zaX) (d:List zU) {r:Bool} (h:zhq e f i l m n o p q c d=some r):zu Tryz.prog 308 [.agg (zf e),.ipt 10 [[sA f,.isl 1 (List.map zi i),sA l,bA m,bA n,iA o,iA p,.isl 4 (List.map zw q),.isl 3 (List.map zac c),.isl 4 (List.map zW d)]] 0 0] (bA r):=by
 refine zn Tryz.func308 j0 (by kernel_rfl) j0 j0 ?_
 unfold zhq at h
 refine rg j0<|u<|bx 0 10 j0 j0 j0 j0<|u<|asg j0<|za ?_
 obtain ⟨s,b,h⟩:=bs h
 refine rg j0<|u<|fa zN j0 j0 j0<|u<|ld ti9 j0 j0<|u<|fa zN j0 j0 j0<|u<|ld ti9 j0 j0<|u<|seq ti9 j0 j0<|u<|mv j0<|za7 (x:=s) (j:=5) 4 j0 j0 j0 j0 j0 gpn (fun a=>by replace b:=bT a b; obtain ⟨B,v,b⟩:=bs b; obtain rfl:=sm b; exact g j0 a<|ld zN j0 j0<|g j0 a<|ld zN j0 j0<|g j0 a<|pc (zia (ze.mk f i l m n o p q c d) e v) j0 j0 j0<|g j0 a<|nt j0<|za (eg [10,11,12,13] 4 j0 j0 j0 j0)) (fun hb=>(sm (bF hb b)).symm)<|u<|asg j0<|za ?_
 refine zj ?_
 obtain rfl:=sm h
 exact ⟨_,j0,[],ci j0,j0,j5,j0,j1⟩
def zav:Option (Int) :=
  some (-1)
def zaw (b:List ze) (i:List UInt8) (j:List (List UInt8)) (l:List UInt8) (m:Bool) (n:Bool) (o:Int) (p:Int) (q:List zA) (c:List zaX) (d:List zU) (a:Int):Option (Sum (Int) (Sum (Unit) (Int))) :=
  cond (decide (a < (List.length b:Int))) ((idx b a).bind fun e=>(zhq e i j l m n o p q c d).bind fun f=>cond f (some (.inr (.inr a))) (some (.inl (IntKind.i64.wrap (a+1))))) (some (.inr (.inl ())))
def zaQ (d:List ze) (e:List UInt8) (f:List (List UInt8)) (i:List UInt8) (j:Bool) (l:Bool) (m:Int) (n:Int) (p:List zA) (a:List zaX) (c:List zU):Option (Int) :=
  (zab (fun z=>zaw d e f i j l m n p a c z) 0).bind fun o=>zaJ o (fun b=>zav) some
theorem zdj (d:List ze) (e:List UInt8) (f:List (List UInt8)) (i:List UInt8) (j:Bool) (l:Bool) (m:Int) (n:Int) (p:List zA) (a:List zaX) (c:List zU) {r:Int} (h:zaQ d e f i j l m n p a c=some r):zu Tryz.prog 225 [.isl 10 (List.map zf d),.fn (.func 308) [] [.ipt 10 [[sA e,.isl 1 (List.map zi f),sA i,bA j,bA l,iA m,iA n,.isl 4 (List.map zw p),.isl 3 (List.map zac a),.isl 4 (List.map zW c)]] 0 0]] (iA r):=by
 refine zn Tryz.func225 j0 (by kernel_rfl) j0 j0 ?_
 unfold zaQ at h
 refine rg j0<|u<|asg j0<|za ?_
 refine zl ?_
 refine rg j0<|u<|mv j0<|u<|lnI zc7 j0 j0<|u<|mv j0<|za ?_
 obtain ⟨o,ho,h⟩:=bs h
 refine zT (X:=Int) (B:=Unit) (R:=Int) (fun z=>[(0,.isl 10 (List.map zf d)),(1,.fn (.func 308) [] [.ipt 10 [[sA e,.isl 1 (List.map zi f),sA i,bA j,bA l,iA m,iA n,.isl 4 (List.map zw p),.isl 3 (List.map zac a),.isl 4 (List.map zW c)]] 0 0]),(7,iA (List.length d:Int)),(8,iA z)]) (fun z=>[]) (fun b=>[]) (fun b=>[]) (fun r env st=>zaC Tryz.prog Tryz.f225 0 (iA r) [] env st) ho ⟨[],ce j0 j0<|ce j0 j0<|ce j0 j0<|ce j0 j0<|cn,j0,j5,j0,j1⟩ ?_ ?_ ?_
 ·
  rintro v r h
  replace h:zaw d e f i j l m n p a c v=some r:=h
  unfold zaw at h
  refine rg j0<|u<|lss ti3 j0 j0<|za ?_
  refine zl ?_
  refine zh j0 (fun q=>?_) (fun q=>?_)
  ·
   replace h:=bT q h
   refine zk ?_
   refine zl ?_
   refine zq ?_
   refine rg j0<|u<|mv j0<|u<|asg j0<|za ?_
   obtain ⟨x,C,h⟩:=bs h
   obtain ⟨E,D,h⟩:=bs h
   refine rg j0<|u<|mv j0<|u<|mv j0<|u<|mv j0<|u<|ixI zc7 j0 zN j0 j0 j0 C<|u<|ldI zN j0 (zp C).2.2 j0<|u<|pc (zkQ x e f i j l m n p a c D) j0 j0 j0<|za ?_
   refine zh j0 (fun s=>?_) (fun s=>?_)
   ·
    replace h:=bT s h
    refine rg j0<|u<|mv j0<|u<|asg j0<|za ?_
    refine zj ?_
    obtain rfl:=sm h
    exact ⟨_,j0,_,j0,[],ci j0,j0,j5,j0,j1⟩
   ·
    replace h:=bF s h
    refine zk ?_
    refine rl j0<|u<|add ti3 j0 j0<|u<|mv j0<|za ?_
    obtain rfl:=sm h
    exact ⟨_,j0,[],ce j0 j0<|ce j0 j0<|ce j0 j0<|ce j0 j0<|cn,j0,j5,j0,j1⟩
  ·
   replace h:=bF q h
   refine zz ?_
   obtain rfl:=sm h
   exact ⟨j0,_,j0,[],cn,j0,j5,j0,j1⟩
 ·
  rintro ⟨⟩ rfl
  replace h:zav=some r:=h
  unfold zav at h
  refine zv ?_
  refine rg j0<|u<|asg j0<|za ?_
  refine zj ?_
  obtain rfl:=sm h
  exact ⟨_,j0,[],ci j0,j0,j5,j0,j1⟩
 ·
  rintro r' rfl env st hp
  obtain rfl:=sm h
  exact hp
def zam (d:List ze) (e:List UInt8) (f:List (List UInt8)) (i:List UInt8) (j:Bool) (l:Bool) (m:Int) (n:Int) (o:List zA) (a:List zaX) (b:List zU):Option (Bool) :=
  (zaQ d e f i j l m n o a b).bind fun c=>some (decide (0≤c))
theorem zc4 (c:List ze) (d:List UInt8) (e:List (List UInt8)) (f:List UInt8) (i:Bool) (j:Bool) (l:Int) (m:Int) (n:List zA) (a:List zaX) (b:List zU) {r:Bool} (h:zam c d e f i j l m n a b=some r):zu Tryz.prog 239 [.isl 10 (List.map zf c),.fn (.func 308) [] [.ipt 10 [[sA d,.isl 1 (List.map zi e),sA f,bA i,bA j,iA l,iA m,.isl 4 (List.map zw n),.isl 3 (List.map zac a),.isl 4 (List.map zW b)]] 0 0]] (bA r):=by
 refine zn Tryz.func239 j0 (by kernel_rfl) j0 j0 ?_
 unfold zam at h
 refine rg j0<|u<|asg j0<|za ?_
 obtain ⟨p,o,h⟩:=bs h
 refine rg j0<|u<|mv j0<|u<|mv j0<|u<|pc (zdj c d e f i j l m n a b o) j0 j0 j0<|u<|geq ti3 j0 j0<|u<|asg j0<|za ?_
 refine zj ?_
 obtain rfl:=sm h
 exact ⟨_,j0,[],ci j0,j0,j5,j0,j1⟩
def zib (a:ze):Bool :=
  ((!a.Static)&&(!a.Abstract))
theorem zlA (b:ze) {r:Bool} (h:zib b=r):zu Tryz.prog 330 [.agg (zf b)] (bA r):=by
 refine zn Tryz.func330 j0 (by kernel_rfl) j0 j0 ?_
 unfold zib at h
 refine rg j0<|u<|bx 0 10 j0 j0 j0 j0<|u<|asg j0<|za ?_
 refine rg j0<|u<|fa zN j0 j0 j0<|u<|ld ti4 j0 j0<|u<|nt j0<|u<|mv j0<|za7 (j:=3) 3 j0 j0 j0 j0 j0 gpn (fun a=>g j0 a<|fa zN j0 j0 j0<|g j0 a<|ld ti4 j0 j0<|g j0 a<|nt j0<|za (egA [7,8,9] 3 a j0 j0 j0 j0)) ziy<|u<|asg j0<|za ?_
 refine zj ?_
 obtain rfl:=h
 exact ⟨_,j0,[],ci j0,j0,j5,j0,j1⟩
def zgU:Option ((List UInt8)×ze×Bool) :=
  some ([],(ze.mk [] [] [] false false 0 0 [] [] []),false)
def zgV (l:List zc) (m:List (List UInt8×Int)) (e:List (List UInt8)) (n:List UInt8) (a:Int):Option (Sum (Int) (Sum (Unit) ((List UInt8)×ze×Bool))) :=
  cond (decide (a < (List.length e:Int))) ((idx e a).bind fun d=>(zE l m d).bind fun b=>(zfv b.1 n).bind fun c=>(cond (decide (0≤c)) ((idx b.1.Methods c).bind fun f=>some (zib f)) (some false)).bind fun i=>cond i ((idx b.1.Methods c).bind fun j=>some (.inr (.inr (d,j,true)))) (some (.inl (IntKind.i64.wrap (a+1))))) (some (.inr (.inl ())))
def ziX (a:List zc) (c:List (List UInt8×Int)) (d:List (List UInt8)) (e:List UInt8):Option ((List UInt8)×ze×Bool) :=
  (zab (fun z=>zgV a c d e z) 0).bind fun o=>zaJ o (fun b=>zgU) some
theorem zmf (i:List zc) (l:List (List UInt8×Int)) (m:List (List UInt8)) (n:List UInt8) {r:(List UInt8)×ze×Bool} (h:ziX i l m n=some r):zu Tryz.prog 218 [.ipt 2 [[.isl 6 (List.map zb i),.imp (List.map (rKV (fun x=>iA x)) l)]] 0 0,.isl 1 (List.map zi m),sA n,.fn (.func 330) [] []] (.tup [sA r.1,.agg (zf r.2.1),bA r.2.2]):=by
 refine zn Tryz.func218 j0 (by kernel_rfl) j0 j0 ?_
 unfold ziX at h
 refine rg j0<|u<|asg j0<|u<|al 0 zN j0<|u<|asg j0<|za ?_
 refine zl ?_
 refine rg j0<|u<|mv j0<|u<|lnI zM j0 j0<|u<|mv j0<|za ?_
 obtain ⟨o,ho,h⟩:=bs h
 refine zT (X:=Int) (B:=Unit) (R:=(List UInt8)×ze×Bool) (fun z=>[(0,.ipt 2 [[.isl 6 (List.map zb i),.imp (List.map (rKV (fun x=>iA x)) l)]] 0 0),(2,sA n),(3,.fn (.func 330) [] []),(9,.mpt 0 0 0),(16,.isl 1 (List.map zi m)),(17,iA (List.length m:Int)),(18,iA z)]) (fun z=>[some (10,[[sA [],.lit (.slice none 0 0),sA [],bA false,bA false,iA 0,iA 0,.lit (.slice none 0 0),.lit (.slice none 0 0),.lit (.slice none 0 0)]])]) (fun b=>[(9,.mpt 0 0 0)]) (fun b=>[some (10,[[sA [],.lit (.slice none 0 0),sA [],bA false,bA false,iA 0,iA 0,.lit (.slice none 0 0),.lit (.slice none 0 0),.lit (.slice none 0 0)]])]) (fun r env st=>zaC Tryz.prog Tryz.f218 0 (.tup [sA r.1,.agg (zf r.2.1),bA r.2.2]) [] env st) ho ⟨[.old 0],ce j0 j0<|ce j0 j0<|ce j0 j0<|cv j0 (.mpt j0)<|ce j0 j0<|ce j0 j0<|ce j0 j0<|cn,j0,⟨⟨_,j0,zg (ciL j0)⟩,j5⟩,j0,j1⟩ ?_ ?_ ?_
 ·
  rintro E r h
  replace h:zgV i l m n E=some r:=h
  unfold zgV at h
  refine rg j0<|u<|lss ti3 j0 j0<|za ?_
  refine zl ?_
  refine zh j0 (fun d=>?_) (fun d=>?_)
  ·
   replace h:=bT d h
   refine zk ?_
   refine zl ?_
   refine zq ?_
   obtain ⟨f,q,h⟩:=bs h
   refine rg j0<|u<|ixI zM j0 ti9 j0 j0 j0 q<|u<|ldI ti9 j0 (zp q).2.2 j0<|u<|asg j0<|za ?_
   obtain ⟨p,F,h⟩:=bs h
   refine rg j0<|u<|mv j0<|u<|mv j0<|u<|pc (zy i l f F) j0 j0 j0<|u<|mv j0<|u<|ex j0 j0<|u<|ex j0 j0<|u<|al 1 zaf j0<|u<|sto zaf j0 j0 j0<|u<|asg j0<|za ?_
   obtain ⟨s,G,h⟩:=bs h
   refine rg j0<|u<|ld zaf j0 j0<|u<|mv j0<|u<|pc (zfz p.1 n G) j0 j0 j0<|u<|asg j0<|za ?_
   obtain ⟨H,c,h⟩:=bs h
   refine rg j0<|u<|mv j0<|u<|geq ti3 j0 j0<|u<|mv j0<|za7 (x:=H) (j:=2) 7 j0 j0 j0 j0 j0 gpn (fun a=>by replace c:=bT a c; obtain ⟨I,v,c⟩:=bs c; obtain rfl:=sm c; exact g j0 a<|mv j0<|g j0 a<|fa zaf j0 j0 j0<|g j0 a<|ld zc7 j0 j0<|g j0 a<|mv j0<|g j0 a<|ixI zc7 j0 zN j0 j0 j0 v<|g j0 a<|ldI zN j0 (zp v).2.2 j0<|g j0 a<|pc (zlA I j0) j0 j0 j0<|za (eg [34,35,36,37,38,39,40] 7 j0 j0 j0 j0)) (fun hb=>(sm (bF hb c)).symm)<|za ?_
   refine zh j0 (fun e=>?_) (fun e=>?_)
   ·
    replace h:=bT e h
    obtain ⟨C,D,h⟩:=bs h
    refine rd [(8,sA f),(9,.mpt 0 0 0),(10,bA true)] [some (10,[(zf C)])] [7] [6,5,4,3,2,1,0] [(8,sA f),(47,.agg (zf C)),(46,.ipt 10 (List.map zf p.1.Methods) (Int.toNat s) 0),(45,iA s),(44,.isl 10 (List.map zf p.1.Methods)),(43,.mpt 1 0 5),(42,sA f)] 1 (by kernel_rfl) (by kernel_rfl) j0 (by kernel_rfl) (dtS ⟨(fun _=>pa j0 j0 j0 j0 (asg j0<|j4)),(fun _=>pa j0 j0 j0 j0 (ldI zN j0 (zp D).2.2 j0<|j4)),(fun _=>pa j0 j0 j0 j0 (ixI zc7 j0 zN j0 j0 j0 D<|j4)),(fun _=>pa j0 j0 j0 j0 (mv j0<|j4)),(fun _=>pa j0 j0 j0 j0 (ld zc7 j0 j0<|j4)),(fun _=>pa j0 j0 j0 j0 (fa zaf j0 j0 j0<|j4)),(fun _=>pa j0 j0 j0 j0 (mv j0<|j4)),j5⟩ (by kernel_rfl) j0 ⟨(fun _ _=>⟨_,j0,j0,sto zN j0 j0 j0<|⟨.any,[8],[(10,bA true)],j0,j0,by kernel_rfl,j5,dt0 ⟨(fun _=>pa j0 j0 j0 j0 (asg j0<|j4)),(fun h=>by cases h),(fun h=>by cases h),(fun h=>by cases h),(fun h=>by cases h),(fun h=>by cases h),(fun h=>by cases h),(fun h=>by cases h),j5⟩ (by kernel_rfl) j0 ⟨[.old 0],ce j0 j0<|cv j0 (.mpt j0)<|ce j0 j0<|cn,j0,⟨⟨_,j0,zg (ciL j0)⟩,j5⟩,j0,j1⟩⟩⟩),j5⟩) ?_
    refine zj ?_
    obtain rfl:=sm h
    exact ⟨_,j0,_,j0,[],z8 ⟨(ci j0),(ci j0),(ci j0),j5⟩,j0,j5,j0,j1⟩
   ·
    replace h:=bF e h
    refine zk ?_
    refine rl j0<|u<|add ti3 j0 j0<|u<|mv j0<|za ?_
    obtain rfl:=sm h
    exact ⟨_,j0,[.old 0],ce j0 j0<|ce j0 j0<|ce j0 j0<|cv j0 (.mpt j0)<|ce j0 j0<|ce j0 j0<|ce j0 j0<|cn,j0,⟨⟨_,j0,zg (ciL j0)⟩,j5⟩,j0,j1⟩
  ·
   replace h:=bF d h
   refine zz ?_
   obtain rfl:=sm h
   exact ⟨j0,_,j0,[.old 0],cv j0 (.mpt j0)<|cn,j0,⟨⟨_,j0,zg (ciL j0)⟩,j5⟩,j0,j1⟩
 ·
  rintro ⟨⟩ rfl
  replace h:zgU=some r:=h
  unfold zgU at h
  refine zv ?_
  refine rg j0<|u<|bd zN j0 j0 j0<|u<|asg j0<|u<|sto zN j0 j0 j0<|u<|asg j0<|za ?_
  refine zj ?_
  obtain rfl:=sm h
  exact ⟨_,j0,[],z8 ⟨(ci j0),(zoA ⟨ci j0,(.nil),ci j0,ci j0,ci j0,ci j0,ci j0,(.nil),(.nil),(.nil),j5⟩),(ci j0),j5⟩,j0,j5,j0,j1⟩
 ·
  rintro r' rfl env st hp
  obtain rfl:=sm h
  exact hp
def zhD (a:List zc) (b:List (List UInt8×Int)) (d:List UInt8) (e:List UInt8):Option ((List UInt8)×Bool) :=
  (z6 a b d).bind fun f=>(ziX a b f e).bind fun c=>some (c.1,c.2.2)
theorem zk4 (a:List zc) (b:List (List UInt8×Int)) (e:List UInt8) (c:List UInt8) {r:(List UInt8)×Bool} (h:zhD a b e c=some r):zu Tryz.prog 253 [.ipt 2 [[.isl 6 (List.map zb a),.imp (List.map (rKV (fun x=>iA x)) b)]] 0 0,sA e,sA c] (.tup [sA r.1,bA r.2]):=by
 refine zn Tryz.func253 j0 (by kernel_rfl) j0 j0 ?_
 unfold zhD at h
 refine rg j0<|u<|asg j0<|u<|asg j0<|za ?_
 obtain ⟨d,f,h⟩:=bs h
 obtain ⟨j,i,h⟩:=bs h
 refine rg j0<|u<|mv j0<|u<|mv j0<|u<|mv j0<|u<|sc [] (z7 a b e f) j0 j0 j0 j0 ⟨(rnI j0),(rnI j0),j5⟩ j5<|zB (env0:=[(2,sA c),(12,.ipt 2 [[.isl 6 (List.map zb a),.imp (List.map (rKV (fun x=>iA x)) b)]] 0 0),(15,.msl 0 0 (List.length d))]) (st0:=[some (1,List.map zi d)]) ⟨[.old 0],ce j0 j0<|ce j0 j0<|cv j0 (.msl j0)<|cn,j0,⟨⟨_,j0,zd (fun _=>j0)⟩,j5⟩,j0,j1⟩<|u<|mv j0<|zB (env0:=[(12,.ipt 2 [[.isl 6 (List.map zb a),.imp (List.map (rKV (fun x=>iA x)) b)]] 0 0),(15,.isl 1 (List.map zi d)),(16,sA c)]) (st0:=[]) ⟨[],ce j0 j0<|cv j0 (zjy j0 j0 (fun _=>j0))<|ce j0 j0<|cn,j0,j5,j0,j1⟩<|u<|pc (zmf a b d c i) j0 j0 j0<|u<|mv j0<|u<|ex j0 j0<|u<|ex j0 j0<|u<|ex j0 j0<|u<|al 0 zN j0<|u<|asg j0<|u<|sto zN j0 j0 j0<|u<|asg j0<|za ?_
 refine rg j0<|u<|mv j0<|u<|mv j0<|u<|asg j0<|u<|asg j0<|za ?_
 refine zj ?_
 obtain rfl:=sm h
 exact ⟨_,j0,[],z8 ⟨(ci j0),(ci j0),j5⟩,j0,j5,j0,j1⟩
def ziI (a:ze) (b:List UInt8) (i:List (List UInt8)) (j:List UInt8) (l:Bool) (m:Bool) (n:Int) (o:Int) (p:List zA) (c:List zaX) (d:List zU):Option (Bool) :=
  (cond (a.Name == b) ((zhN (ze.mk b i j l m n o p c d) a).bind fun e=>some e) (some false)).bind fun f=>some f
theorem zl5 (e:ze) (f:List UInt8) (i:List (List UInt8)) (l:List UInt8) (m:Bool) (n:Bool) (o:Int) (p:Int) (q:List zA) (c:List zaX) (d:List zU) {r:Bool} (h:ziI e f i l m n o p q c d=some r):zu Tryz.prog 350 [.agg (zf e),.ipt 10 [[sA f,.isl 1 (List.map zi i),sA l,bA m,bA n,iA o,iA p,.isl 4 (List.map zw q),.isl 3 (List.map zac c),.isl 4 (List.map zW d)]] 0 0] (bA r):=by
 refine zn Tryz.func350 j0 (by kernel_rfl) j0 j0 ?_
 unfold ziI at h
 refine rg j0<|u<|bx 0 10 j0 j0 j0 j0<|u<|asg j0<|za ?_
 obtain ⟨s,b,h⟩:=bs h
 refine rg j0<|u<|fa zN j0 j0 j0<|u<|ld ti9 j0 j0<|u<|fa zN j0 j0 j0<|u<|ld ti9 j0 j0<|u<|seq ti9 j0 j0<|u<|mv j0<|za7 (x:=s) (j:=5) 3 j0 j0 j0 j0 j0 gpn (fun a=>by replace b:=bT a b; obtain ⟨B,v,b⟩:=bs b; obtain rfl:=sm b; exact g j0 a<|ld zN j0 j0<|g j0 a<|ld zN j0 j0<|g j0 a<|pc (zia (ze.mk f i l m n o p q c d) e v) j0 j0 j0<|za (eg [10,11,12] 3 j0 j0 j0 j0)) (fun hb=>(sm (bF hb b)).symm)<|u<|asg j0<|za ?_
 refine zj ?_
 obtain rfl:=sm h
 exact ⟨_,j0,[],ci j0,j0,j5,j0,j1⟩
def zaz:Option (Int) :=
  some (-1)
def zaA (b:List ze) (i:List UInt8) (j:List (List UInt8)) (l:List UInt8) (m:Bool) (n:Bool) (o:Int) (p:Int) (q:List zA) (c:List zaX) (d:List zU) (a:Int):Option (Sum (Int) (Sum (Unit) (Int))) :=
  cond (decide (a < (List.length b:Int))) ((idx b a).bind fun e=>(ziI e i j l m n o p q c d).bind fun f=>cond f (some (.inr (.inr a))) (some (.inl (IntKind.i64.wrap (a+1))))) (some (.inr (.inl ())))
def zaS (d:List ze) (e:List UInt8) (f:List (List UInt8)) (i:List UInt8) (j:Bool) (l:Bool) (m:Int) (n:Int) (p:List zA) (a:List zaX) (c:List zU):Option (Int) :=
  (zab (fun z=>zaA d e f i j l m n p a c z) 0).bind fun o=>zaJ o (fun b=>zaz) some
theorem zdl (d:List ze) (e:List UInt8) (f:List (List UInt8)) (i:List UInt8) (j:Bool) (l:Bool) (m:Int) (n:Int) (p:List zA) (a:List zaX) (c:List zU) {r:Int} (h:zaS d e f i j l m n p a c=some r):zu Tryz.prog 225 [.isl 10 (List.map zf d),.fn (.func 350) [] [.ipt 10 [[sA e,.isl 1 (List.map zi f),sA i,bA j,bA l,iA m,iA n,.isl 4 (List.map zw p),.isl 3 (List.map zac a),.isl 4 (List.map zW c)]] 0 0]] (iA r):=by
 refine zn Tryz.func225 j0 (by kernel_rfl) j0 j0 ?_
 unfold zaS at h
 refine rg j0<|u<|asg j0<|za ?_
 refine zl ?_
 refine rg j0<|u<|mv j0<|u<|lnI zc7 j0 j0<|u<|mv j0<|za ?_
 obtain ⟨o,ho,h⟩:=bs h
 refine zT (X:=Int) (B:=Unit) (R:=Int) (fun z=>[(0,.isl 10 (List.map zf d)),(1,.fn (.func 350) [] [.ipt 10 [[sA e,.isl 1 (List.map zi f),sA i,bA j,bA l,iA m,iA n,.isl 4 (List.map zw p),.isl 3 (List.map zac a),.isl 4 (List.map zW c)]] 0 0]),(7,iA (List.length d:Int)),(8,iA z)]) (fun z=>[]) (fun b=>[]) (fun b=>[]) (fun r env st=>zaC Tryz.prog Tryz.f225 0 (iA r) [] env st) ho ⟨[],ce j0 j0<|ce j0 j0<|ce j0 j0<|ce j0 j0<|cn,j0,j5,j0,j1⟩ ?_ ?_ ?_
 ·
  rintro v r h
  replace h:zaA d e f i j l m n p a c v=some r:=h
  unfold zaA at h
  refine rg j0<|u<|lss ti3 j0 j0<|za ?_
  refine zl ?_
  refine zh j0 (fun q=>?_) (fun q=>?_)
  ·
   replace h:=bT q h
   refine zk ?_
   refine zl ?_
   refine zq ?_
   refine rg j0<|u<|mv j0<|u<|asg j0<|za ?_
   obtain ⟨x,C,h⟩:=bs h
   obtain ⟨E,D,h⟩:=bs h
   refine rg j0<|u<|mv j0<|u<|mv j0<|u<|mv j0<|u<|ixI zc7 j0 zN j0 j0 j0 C<|u<|ldI zN j0 (zp C).2.2 j0<|u<|pc (zl5 x e f i j l m n p a c D) j0 j0 j0<|za ?_
   refine zh j0 (fun s=>?_) (fun s=>?_)
   ·
    replace h:=bT s h
    refine rg j0<|u<|mv j0<|u<|asg j0<|za ?_
    refine zj ?_
    obtain rfl:=sm h
    exact ⟨_,j0,_,j0,[],ci j0,j0,j5,j0,j1⟩
   ·
    replace h:=bF s h
    refine zk ?_
    refine rl j0<|u<|add ti3 j0 j0<|u<|mv j0<|za ?_
    obtain rfl:=sm h
    exact ⟨_,j0,[],ce j0 j0<|ce j0 j0<|ce j0 j0<|ce j0 j0<|cn,j0,j5,j0,j1⟩
  ·
   replace h:=bF q h
   refine zz ?_
   obtain rfl:=sm h
   exact ⟨j0,_,j0,[],cn,j0,j5,j0,j1⟩
 ·
  rintro ⟨⟩ rfl
  replace h:zaz=some r:=h
  unfold zaz at h
  refine zv ?_
  refine rg j0<|u<|asg j0<|za ?_
  refine zj ?_
  obtain rfl:=sm h
  exact ⟨_,j0,[],ci j0,j0,j5,j0,j1⟩
 ·
  rintro r' rfl env st hp
  obtain rfl:=sm h
  exact hp
def zao (d:List ze) (e:List UInt8) (f:List (List UInt8)) (i:List UInt8) (j:Bool) (l:Bool) (m:Int) (n:Int) (o:List zA) (a:List zaX) (b:List zU):Option (Bool) :=
  (zaS d e f i j l m n o a b).bind fun c=>some (decide (0≤c))
theorem zc6 (c:List ze) (d:List UInt8) (e:List (List UInt8)) (f:List UInt8) (i:Bool) (j:Bool) (l:Int) (m:Int) (n:List zA) (a:List zaX) (b:List zU) {r:Bool} (h:zao c d e f i j l m n a b=some r):zu Tryz.prog 239 [.isl 10 (List.map zf c),.fn (.func 350) [] [.ipt 10 [[sA d,.isl 1 (List.map zi e),sA f,bA i,bA j,iA l,iA m,.isl 4 (List.map zw n),.isl 3 (List.map zac a),.isl 4 (List.map zW b)]] 0 0]] (bA r):=by
 refine zn Tryz.func239 j0 (by kernel_rfl) j0 j0 ?_
 unfold zao at h
 refine rg j0<|u<|asg j0<|za ?_
 obtain ⟨p,o,h⟩:=bs h
 refine rg j0<|u<|mv j0<|u<|mv j0<|u<|pc (zdl c d e f i j l m n a b o) j0 j0 j0<|u<|geq ti3 j0 j0<|u<|asg j0<|za ?_
 refine zj ?_
 obtain rfl:=sm h
 exact ⟨_,j0,[],ci j0,j0,j5,j0,j1⟩
def zkS (b:List zc) (c:List (List UInt8×Int)) (e:List UInt8) (a:ze):Option (Bool) :=
  (zhD b c e a.Name).bind fun d=>cond (!d.2) (some false) ((zE b c d.1).bind fun f=>(zao f.1.Methods a.Name a.Params a.Ret a.Static a.Abstract a.Locals a.Stack a.Code a.Maps a.Traps).bind fun i=>some i)
theorem zng (c:List zc) (d:List (List UInt8×Int)) (e:List UInt8) (a:ze) {r:Bool} (h:zkS c d e a=some r):zu Tryz.prog 310 [.ipt 2 [[.isl 6 (List.map zb c),.imp (List.map (rKV (fun x=>iA x)) d)]] 0 0,sA e,.agg (zf a)] (bA r):=by
 refine zn Tryz.func310 j0 (by kernel_rfl) j0 j0 ?_
 unfold zkS at h
 refine rg j0<|u<|bx 0 10 j0 j0 j0 j0<|u<|asg j0<|za ?_
 obtain ⟨f,i,h⟩:=bs h
 refine rg j0<|u<|mv j0<|u<|mv j0<|u<|fa zN j0 j0 j0<|u<|ld ti9 j0 j0<|u<|pc (zk4 c d e a.Name i) j0 j0 j0<|u<|mv j0<|u<|ex j0 j0<|u<|ex j0 j0<|u<|asg j0<|u<|asg j0<|za ?_
 refine zl ?_
 refine rg j0<|u<|mv j0<|u<|nt j0<|za ?_
 refine zh j0 (fun b=>?_) (fun b=>?_)
 ·
  replace h:=bT b h
  refine rg j0<|u<|asg j0<|za ?_
  refine zj ?_
  obtain rfl:=sm h
  exact ⟨_,j0,[],ci j0,j0,j5,j0,j1⟩
 ·
  replace h:=bF b h
  refine zk ?_
  obtain ⟨j,l,h⟩:=bs h
  refine rg j0<|u<|mv j0<|u<|mv j0<|u<|pc (zy c d f.1 l) j0 j0 j0<|u<|mv j0<|u<|ex j0 j0<|u<|ex j0 j0<|u<|al 1 zaf j0<|u<|sto zaf j0 j0 j0<|u<|asg j0<|za ?_
  obtain ⟨n,m,h⟩:=bs h
  refine rg j0<|u<|fa zaf j0 j0 j0<|u<|ld zc7 j0 j0<|u<|mf j0 j0<|u<|pcs (zc6 j.1.Methods a.Name a.Params a.Ret a.Static a.Abstract a.Locals a.Stack a.Code a.Maps a.Traps m) j0 j0 (.cons (si j0) (.cons (zdp j5 ⟨(zbe j0 ⟨(si j0),(si j0),(si j0),(si j0),(si j0),(si j0),(si j0),(si j0),(si j0),(si j0),j5⟩),j5⟩) .nil)) zcq<|u<|asg j0<|za ?_
  refine zj ?_
  obtain rfl:=sm h
  exact ⟨_,j0,[],ci j0,j0,j5,j0,j1⟩
def zhr (b:ze) (c:List zc) (d:List (List UInt8×Int)) (e:List UInt8) (f:List UInt8) (i:Bool) (j:List (List UInt8)) (l:List zG) (m:List ze):Option (Bool) :=
  (zkS c d e b).bind fun a=>some (!a)
theorem zkR (a:ze) (b:List zc) (c:List (List UInt8×Int)) (d:List UInt8) (e:List UInt8) (f:Bool) (i:List (List UInt8)) (j:List zG) (l:List ze) {r:Bool} (h:zhr a b c d e f i j l=some r):zu Tryz.prog 309 [.agg (zf a),.ipt 1 [[.ipt 2 [[.isl 6 (List.map zb b),.imp (List.map (rKV (fun x=>iA x)) c)]] 0 0]] 0 0,.ipt 6 [[sA d,sA e,bA f,.isl 1 (List.map zi i),.isl 3 (List.map zH j),.isl 10 (List.map zf l)]] 0 0] (bA r):=by
 refine zn Tryz.func309 j0 (by kernel_rfl) j0 j0 ?_
 unfold zhr at h
 refine rg j0<|u<|bx 0 10 j0 j0 j0 j0<|u<|asg j0<|za ?_
 obtain ⟨n,m,h⟩:=bs h
 refine rg j0<|u<|ld zez j0 j0<|u<|fa zaf j0 j0 j0<|u<|ld ti9 j0 j0<|u<|ld zN j0 j0<|u<|pc (zng b c d a m) j0 j0 j0<|u<|nt j0<|u<|asg j0<|za ?_
 refine zj ?_
 obtain rfl:=sm h
 exact ⟨_,j0,[],ci j0,j0,j5,j0,j1⟩
def zax:Option (Int) :=
  some (-1)
def zay (b:List ze) (e:List zc) (f:List (List UInt8×Int)) (i:List UInt8) (j:List UInt8) (l:Bool) (m:List (List UInt8)) (n:List zG) (o:List ze) (a:Int):Option (Sum (Int) (Sum (Unit) (Int))) :=
  cond (decide (a < (List.length b:Int))) ((idx b a).bind fun c=>(zhr c e f i j l m n o).bind fun d=>cond d (some (.inr (.inr a))) (some (.inl (IntKind.i64.wrap (a+1))))) (some (.inr (.inl ())))
def zaR (a:List ze) (c:List zc) (d:List (List UInt8×Int)) (e:List UInt8) (f:List UInt8) (i:Bool) (j:List (List UInt8)) (l:List zG) (m:List ze):Option (Int) :=
  (zab (fun z=>zay a c d e f i j l m z) 0).bind fun o=>zaJ o (fun b=>zax) some
theorem zdk (a:List ze) (c:List zc) (d:List (List UInt8×Int)) (e:List UInt8) (f:List UInt8) (i:Bool) (j:List (List UInt8)) (l:List zG) (m:List ze) {r:Int} (h:zaR a c d e f i j l m=some r):zu Tryz.prog 225 [.isl 10 (List.map zf a),.fn (.func 309) [] [.ipt 1 [[.ipt 2 [[.isl 6 (List.map zb c),.imp (List.map (rKV (fun x=>iA x)) d)]] 0 0]] 0 0,.ipt 6 [[sA e,sA f,bA i,.isl 1 (List.map zi j),.isl 3 (List.map zH l),.isl 10 (List.map zf m)]] 0 0]] (iA r):=by
 refine zn Tryz.func225 j0 (by kernel_rfl) j0 j0 ?_
 unfold zaR at h
 refine rg j0<|u<|asg j0<|za ?_
 refine zl ?_
 refine rg j0<|u<|mv j0<|u<|lnI zc7 j0 j0<|u<|mv j0<|za ?_
 obtain ⟨o,ho,h⟩:=bs h
 refine zT (X:=Int) (B:=Unit) (R:=Int) (fun z=>[(0,.isl 10 (List.map zf a)),(1,.fn (.func 309) [] [.ipt 1 [[.ipt 2 [[.isl 6 (List.map zb c),.imp (List.map (rKV (fun x=>iA x)) d)]] 0 0]] 0 0,.ipt 6 [[sA e,sA f,bA i,.isl 1 (List.map zi j),.isl 3 (List.map zH l),.isl 10 (List.map zf m)]] 0 0]),(7,iA (List.length a:Int)),(8,iA z)]) (fun z=>[]) (fun b=>[]) (fun b=>[]) (fun r env st=>zaC Tryz.prog Tryz.f225 0 (iA r) [] env st) ho ⟨[],ce j0 j0<|ce j0 j0<|ce j0 j0<|ce j0 j0<|cn,j0,j5,j0,j1⟩ ?_ ?_ ?_
 ·
  rintro q r h
  replace h:zay a c d e f i j l m q=some r:=h
  unfold zay at h
  refine rg j0<|u<|lss ti3 j0 j0<|za ?_
  refine zl ?_
  refine zh j0 (fun n=>?_) (fun n=>?_)
  ·
   replace h:=bT n h
   refine zk ?_
   refine zl ?_
   refine zq ?_
   refine rg j0<|u<|mv j0<|u<|asg j0<|za ?_
   obtain ⟨s,v,h⟩:=bs h
   obtain ⟨D,C,h⟩:=bs h
   refine rg j0<|u<|mv j0<|u<|mv j0<|u<|mv j0<|u<|ixI zc7 j0 zN j0 j0 j0 v<|u<|ldI zN j0 (zp v).2.2 j0<|u<|pc (zkR s c d e f i j l m C) j0 j0 j0<|za ?_
   refine zh j0 (fun p=>?_) (fun p=>?_)
   ·
    replace h:=bT p h
    refine rg j0<|u<|mv j0<|u<|asg j0<|za ?_
    refine zj ?_
    obtain rfl:=sm h
    exact ⟨_,j0,_,j0,[],ci j0,j0,j5,j0,j1⟩
   ·
    replace h:=bF p h
    refine zk ?_
    refine rl j0<|u<|add ti3 j0 j0<|u<|mv j0<|za ?_
    obtain rfl:=sm h
    exact ⟨_,j0,[],ce j0 j0<|ce j0 j0<|ce j0 j0<|ce j0 j0<|cn,j0,j5,j0,j1⟩
  ·
   replace h:=bF n h
   refine zz ?_
   obtain rfl:=sm h
   exact ⟨j0,_,j0,[],cn,j0,j5,j0,j1⟩
 ·
  rintro ⟨⟩ rfl
  replace h:zax=some r:=h
  unfold zax at h
  refine zv ?_
  refine rg j0<|u<|asg j0<|za ?_
  refine zj ?_
  obtain rfl:=sm h
  exact ⟨_,j0,[],ci j0,j0,j5,j0,j1⟩
 ·
  rintro r' rfl env st hp
  obtain rfl:=sm h
  exact hp
def zan (b:List ze) (c:List zc) (d:List (List UInt8×Int)) (e:List UInt8) (f:List UInt8) (i:Bool) (j:List (List UInt8)) (l:List zG) (m:List ze):Option (Bool) :=
  (zaR b c d e f i j l m).bind fun a=>some (decide (0≤a))
theorem zc5 (a:List ze) (b:List zc) (c:List (List UInt8×Int)) (d:List UInt8) (e:List UInt8) (f:Bool) (i:List (List UInt8)) (j:List zG) (l:List ze) {r:Bool} (h:zan a b c d e f i j l=some r):zu Tryz.prog 239 [.isl 10 (List.map zf a),.fn (.func 309) [] [.ipt 1 [[.ipt 2 [[.isl 6 (List.map zb b),.imp (List.map (rKV (fun x=>iA x)) c)]] 0 0]] 0 0,.ipt 6 [[sA d,sA e,bA f,.isl 1 (List.map zi i),.isl 3 (List.map zH j),.isl 10 (List.map zf l)]] 0 0]] (bA r):=by
 refine zn Tryz.func239 j0 (by kernel_rfl) j0 j0 ?_
 unfold zan at h
 refine rg j0<|u<|asg j0<|za ?_
 obtain ⟨n,m,h⟩:=bs h
 refine rg j0<|u<|mv j0<|u<|mv j0<|u<|pc (zdk a b c d e f i j l m) j0 j0 j0<|u<|geq ti3 j0 j0<|u<|asg j0<|za ?_
 refine zj ?_
 obtain rfl:=sm h
 exact ⟨_,j0,[],ci j0,j0,j5,j0,j1⟩
end
end Go.Proofs.YthmnlfenkhmmhaaGreat
namespace Go.Proofs.YthmnlfenkhmmhaaGreat
noncomputable section
set_option linter.unusedSimpArgs false
set_option linter.unusedVariables false
set_option maxRecDepth 100000
set_option maxHeartbeats 4000000
def zgQ (d:List zc) (e:List (List UInt8×Int)) (a:zc) (b:List ze):Option (Bool) :=
  cond a.Interface (some true) ((zan b d e a.Name a.Super a.Interface a.Impl a.Fields a.Methods).bind fun c=>some (!c))
def zgP (a:Int) (b:List ze):Option (Sum ((List ze)×Int) (Sum ((List ze)) (Bool))) :=
  some (.inl (b,(IntKind.i64.wrap (a+1))))
def zgR (d:zc×Bool) (b:List ze) (c:Int):Option (Sum ((List ze)×Int) (Sum ((List ze)) (Bool))) :=
  cond (decide (c < (List.length d.1.Methods:Int))) ((idx d.1.Methods c).bind fun a=>(zam b a.Name a.Params a.Ret a.Static a.Abstract a.Locals a.Stack a.Code a.Maps a.Traps).bind fun e=>cond e (some (.inr (.inr false))) ((zjq 152 b [a]).bind fun f=>some (.inl (f,(IntKind.i64.wrap (c+1)))))) (some (.inr (.inl b)))
def zgS (i:List zc) (j:List (List UInt8×Int)) (d:(List (List UInt8))) (c:List ze) (a:Int):Option (Sum ((List ze)×Int) (Sum ((List ze)) (Bool))) :=
  cond (decide (a < ((List.length d):Int))) ((idx d a).bind fun e=>(zE i j e).bind fun f=>(zab (fun z=>zgR f z.1 z.2) (c,0)).bind fun o=>zaJ o (fun b=>zgP a b) (fun r=>some (.inr (.inr r)))) (some (.inr (.inl c)))
def ziH (a:List zc) (c:List (List UInt8×Int)) (d:zc):Option (Bool) :=
  (zcX a c d.Name).bind fun e=>(zab (fun z=>zgS a c e z.1 z.2) ([],0)).bind fun o=>zaJ o (fun b=>zgQ a c d b) some
theorem zl4 (d:List zc) (e:List (List UInt8×Int)) (c:zc) {r:Bool} (h:ziH d e c=some r):zu Tryz.prog 215 [.ipt 2 [[.isl 6 (List.map zb d),.imp (List.map (rKV (fun x=>iA x)) e)]] 0 0,.agg (zb c)] (bA r):=by
 refine zn Tryz.func215 j0 (by kernel_rfl) j0 j0 ?_
 unfold ziH at h
 refine rg j0<|u<|bx 0 1 j0 j0 j0 j0<|u<|bx 1 6 j0 j0 j0 j0<|u<|asg j0<|za ?_
 refine rg j0<|u<|asg j0<|za ?_
 refine zl ?_
 obtain ⟨i,M,h⟩:=bs h
 refine rg j0<|u<|ld zez j0 j0<|u<|fa zaf j0 j0 j0<|u<|ld ti9 j0 j0<|u<|sc [] (zef d e c.Name M) j0 j0 j0 j0 ⟨(rnI j0),(rnI j0),j5⟩ j5<|zB (env0:=[(2,.mpt 0 0 0),(3,.mpt 1 0 0),(5,.lit (.slice none 0 0)),(15,.msl 2 0 (List.length i))]) (st0:=[some (1,[[.ipt 2 [[.isl 6 (List.map zb d),.imp (List.map (rKV (fun x=>iA x)) e)]] 0 0]]),some (6,[(zb c)]),some (1,List.map zi i)]) ⟨[.old 0,.old 1,.old 2],cv j0 (.mpt j0)<|cv j0 (.mpt j0)<|ce j0 j0<|cv j0 (.msl j0)<|cn,j0,⟨⟨_,j0,zg ⟨ci j0,j5⟩⟩,⟨_,j0,zg (ciL j0)⟩,⟨_,j0,zd (fun _=>j0)⟩,j5⟩,j0,j1⟩<|u<|lnM zM j0 j0 j0<|u<|mv j0<|za ?_
 obtain ⟨o,ho,h⟩:=bs h
 refine zT (X:=(List ze)×Int) (B:=(List ze)) (R:=Bool) (fun z=>[(2,.mpt 0 0 0),(3,.mpt 1 0 0),(5,.msl 2 0 (List.length z.1)),(15,.msl 3 0 (List.length i)),(16,iA ((List.length i):Int)),(17,iA z.2)]) (fun z=>[some (1,[[.ipt 2 [[.isl 6 (List.map zb d),.imp (List.map (rKV (fun x=>iA x)) e)]] 0 0]]),some (6,[(zb c)]),some (10,List.map zf z.1),some (1,List.map zi i)]) (fun b=>[(2,.mpt 0 0 0),(3,.mpt 1 0 0),(5,.msl 2 0 (List.length b))]) (fun b=>[some (1,[[.ipt 2 [[.isl 6 (List.map zb d),.imp (List.map (rKV (fun x=>iA x)) e)]] 0 0]]),some (6,[(zb c)]),some (10,List.map zf b)]) (fun r env st=>zaC Tryz.prog Tryz.f215 0 (bA r) [] env st) ho ⟨[.old 0,.old 1,.fresh 10,.old 2],cv j0 (.mpt j0)<|cv j0 (.mpt j0)<|cv j0 (.nilown j0)<|cv j0 (.msl j0)<|ce j0 j0<|ce j0 j0<|cn,j0,⟨⟨_,j0,zg ⟨ci j0,j5⟩⟩,⟨_,j0,zg (ciL j0)⟩,j4,⟨_,j0,zd (fun _=>j0)⟩,j5⟩,j0,j1⟩ ?_ ?_ ?_
 ·
  rintro ⟨E,p⟩ r h
  replace h:zgS d e i E p=some r:=h
  unfold zgS at h
  refine rg j0<|u<|lss ti3 j0 j0<|za ?_
  refine zl ?_
  refine zh j0 (fun j=>?_) (fun j=>?_)
  ·
   replace h:=bT j h
   refine zk ?_
   refine zl ?_
   refine zq ?_
   obtain ⟨F,s,h⟩:=bs h
   refine rg j0<|u<|ixM zM j0 ti9 j0 j0 j0 j0 s<|u<|ldM ti9 j0 j0 (zp s).2.2 j0<|u<|asg j0<|za ?_
   obtain ⟨q,G,h⟩:=bs h
   refine rg j0<|u<|ld zez j0 j0<|u<|mv j0<|u<|pc (zy d e F G) j0 j0 j0<|u<|mv j0<|u<|ex j0 j0<|u<|ex j0 j0<|u<|al 4 zaf j0<|u<|sto zaf j0 j0 j0<|u<|asg j0<|za ?_
   refine rg j0<|u<|fa zaf j0 j0 j0<|u<|ld zc7 j0 j0<|u<|lnI zc7 j0 j0<|u<|mv j0<|za ?_
   obtain ⟨o,ho,h⟩:=bs h
   refine zT (X:=(List ze)×Int) (B:=(List ze)) (R:=Bool) (fun z=>[(2,.mpt 0 0 0),(3,.mpt 1 0 0),(5,.msl 2 0 (List.length z.1)),(15,.msl 3 0 (List.length i)),(16,iA ((List.length i):Int)),(17,iA p),(28,.isl 10 (List.map zf q.1.Methods)),(29,iA (List.length q.1.Methods:Int)),(30,iA z.2)]) (fun z=>[some (1,[[.ipt 2 [[.isl 6 (List.map zb d),.imp (List.map (rKV (fun x=>iA x)) e)]] 0 0]]),some (6,[(zb c)]),some (10,List.map zf z.1),some (1,List.map zi i)]) (fun b=>[(2,.mpt 0 0 0),(3,.mpt 1 0 0),(5,.msl 2 0 (List.length b)),(15,.msl 3 0 (List.length i)),(16,iA ((List.length i):Int)),(17,iA p)]) (fun b=>[some (1,[[.ipt 2 [[.isl 6 (List.map zb d),.imp (List.map (rKV (fun x=>iA x)) e)]] 0 0]]),some (6,[(zb c)]),some (10,List.map zf b),some (1,List.map zi i)]) (fun r env st=>zaC Tryz.prog Tryz.f215 0 (bA r) [] env st) ho ⟨[.old 0,.old 1,.old 2,.old 3],cv j0 (.mpt j0)<|cv j0 (.mpt j0)<|cv j0 (.msl j0)<|cv j0 (.msl j0)<|ce j0 j0<|ce j0 j0<|ce j0 j0<|ce j0 j0<|ce j0 j0<|cn,j0,⟨⟨_,j0,zg ⟨ci j0,j5⟩⟩,⟨_,j0,zg (ciL j0)⟩,⟨_,j0,zd (fun _=>j0)⟩,⟨_,j0,zd (fun _=>j0)⟩,j5⟩,j0,j1⟩ ?_ ?_ ?_
   ·
    rintro ⟨v,H⟩ r h
    replace h:zgR q v H=some r:=h
    unfold zgR at h
    refine rg j0<|u<|lss ti3 j0 j0<|za ?_
    refine zl ?_
    refine zh j0 (fun l=>?_) (fun l=>?_)
    ·
     replace h:=bT l h
     refine zk ?_
     refine zl ?_
     refine zq ?_
     obtain ⟨a,C,h⟩:=bs h
     refine rg j0<|u<|ixI zc7 j0 zN j0 j0 j0 C<|u<|ldI zN j0 (zp C).2.2 j0<|u<|al 4 zN j0<|u<|sto zN j0 j0 j0<|za ?_
     refine zl ?_
     obtain ⟨N,I,h⟩:=bs h
     refine rg j0<|u<|mv j0<|u<|mf j0 j0<|u<|pcs (zc4 v a.Name a.Params a.Ret a.Static a.Abstract a.Locals a.Stack a.Code a.Maps a.Traps I) j0 j0 (.cons (zi5 j0 (fun _=>j0)) (.cons (zdp j5 ⟨(zbe j0 ⟨(si j0),(si j0),(si j0),(si j0),(si j0),(si j0),(si j0),(si j0),(si j0),(si j0),j5⟩),j5⟩) .nil)) zcq<|za ?_
     refine zh j0 (fun m=>?_) (fun m=>?_)
     ·
      replace h:=bT m h
      refine rg j0<|u<|asg j0<|za ?_
      refine zj ?_
      obtain rfl:=sm h
      exact ⟨_,j0,_,j0,[],ci j0,j0,j5,j0,j1⟩
     ·
      replace h:=bF m h
      refine zk ?_
      obtain ⟨O,J,h⟩:=bs h
      refine rl j0<|u<|mv j0<|u<|ld zN j0 j0<|u<|bl 5 zc7 j0 zN j0 (by decide) (by decide) j0 j0 j0<|u<|apM 6 zc7 j0 zN j0 j0 (by decide) zc7 j0 j0 j0 j0 (roX (f:=zf) (z:=[a]) j0 j0) (fun _=>j0) j0 J<|u<|asg j0<|za ?_
      refine rl j0<|u<|add ti3 j0 j0<|u<|mv j0<|za ?_
      obtain rfl:=sm h
      exact ⟨_,j0,[.old 0,.old 1,.old 6,.old 3],cv j0 (.mpt j0)<|cv j0 (.mpt j0)<|cv j0 (.msl j0)<|cv j0 (.msl j0)<|ce j0 j0<|ce j0 j0<|ce j0 j0<|ce j0 j0<|ce j0 j0<|cn,j0,⟨⟨_,j0,zg ⟨ci j0,j5⟩⟩,⟨_,j0,zg (ciL j0)⟩,⟨_,j0,zd (fun _=>j0)⟩,⟨_,j0,zd (fun _=>j0)⟩,j5⟩,j0,j1⟩
    ·
     replace h:=bF l h
     refine zz ?_
     obtain rfl:=sm h
     exact ⟨j0,_,j0,[.old 0,.old 1,.old 2,.old 3],cv j0 (.mpt j0)<|cv j0 (.mpt j0)<|cv j0 (.msl j0)<|cv j0 (.msl j0)<|ce j0 j0<|ce j0 j0<|cn,j0,⟨⟨_,j0,zg ⟨ci j0,j5⟩⟩,⟨_,j0,zg (ciL j0)⟩,⟨_,j0,zd (fun _=>j0)⟩,⟨_,j0,zd (fun _=>j0)⟩,j5⟩,j0,j1⟩
   ·
    rintro K rfl
    replace h:zgP p K=some r:=h
    unfold zgP at h
    refine zv ?_
    refine rl j0<|u<|add ti3 j0 j0<|u<|mv j0<|za ?_
    obtain rfl:=sm h
    exact ⟨_,j0,[.old 0,.old 1,.old 2,.old 3],cv j0 (.mpt j0)<|cv j0 (.mpt j0)<|cv j0 (.msl j0)<|cv j0 (.msl j0)<|ce j0 j0<|ce j0 j0<|cn,j0,⟨⟨_,j0,zg ⟨ci j0,j5⟩⟩,⟨_,j0,zg (ciL j0)⟩,⟨_,j0,zd (fun _=>j0)⟩,⟨_,j0,zd (fun _=>j0)⟩,j5⟩,j0,j1⟩
   ·
    rintro r' rfl env st hp
    obtain rfl:=sm h
    exact ⟨_,j0,hp⟩
  ·
   replace h:=bF j h
   refine zz ?_
   obtain rfl:=sm h
   exact ⟨j0,_,j0,[.old 0,.old 1,.old 2],cv j0 (.mpt j0)<|cv j0 (.mpt j0)<|cv j0 (.msl j0)<|cn,j0,⟨⟨_,j0,zg ⟨ci j0,j5⟩⟩,⟨_,j0,zg (ciL j0)⟩,⟨_,j0,zd (fun _=>j0)⟩,j5⟩,j0,j1⟩
 ·
  rintro D rfl
  replace h:zgQ d e c D=some r:=h
  unfold zgQ at h
  refine zv ?_
  refine zl ?_
  refine rg j0<|u<|fa zaf j0 j0 j0<|u<|ld ti4 j0 j0<|za ?_
  refine zh j0 (fun n=>?_) (fun n=>?_)
  ·
   replace h:=bT n h
   refine rg j0<|u<|asg j0<|za ?_
   refine zj ?_
   obtain rfl:=sm h
   exact ⟨_,j0,[],ci j0,j0,j5,j0,j1⟩
  ·
   replace h:=bF n h
   refine zk ?_
   obtain ⟨P,L,h⟩:=bs h
   refine rg j0<|u<|mv j0<|u<|mf j0 j0<|u<|pcs (zc5 D d e c.Name c.Super c.Interface c.Impl c.Fields c.Methods L) j0 j0 (.cons (zi5 j0 (fun _=>j0)) (.cons (zdp j5 ⟨(zbe j0 ⟨(si j0),j5⟩),(zbe j0 ⟨(si j0),(si j0),(si j0),(si j0),(si j0),(si j0),j5⟩),j5⟩) .nil)) zcq<|u<|nt j0<|u<|asg j0<|za ?_
   refine zj ?_
   obtain rfl:=sm h
   exact ⟨_,j0,[],ci j0,j0,j5,j0,j1⟩
 ·
  rintro r' rfl env st hp
  obtain rfl:=sm h
  exact hp
def zgk:Option (Int) :=
  some 0
def zgm (a:zK) (c:(List (List UInt8))) (b:Int):Option (Sum (Int) (Sum (Unit) (Int))) :=
  cond (decide (b < ((List.length c):Int))) ((idx c b).bind fun e=>(zE a.l a.at_ e).bind fun d=>(zgn a.l a.at_ d.1).bind fun f=>(cond (!f) (some true) ((ziH a.l a.at_ d.1).bind fun i=>some (!i))).bind fun j=>cond j (some (.inr (.inr 1))) (some (.inl (IntKind.i64.wrap (b+1))))) (some (.inr (.inl ())))
def zgj (a:zK):Option (Int) :=
  (zcu a.l a.at_).bind fun c=>(zab (fun z=>zgm a c z) 0).bind fun o=>zaJ o (fun b=>zgk) some
def zgl (a:zK) (c:(List (List UInt8))) (b:Int):Option (Sum (Int) (Sum (Unit) (Int))) :=
  cond (decide (b < ((List.length c):Int))) ((idx c b).bind fun f=>(zE a.l a.at_ f).bind fun d=>(ziL a.l a.at_ d.1).bind fun e=>cond (!e) (some (.inr (.inr 4))) (some (.inl (IntKind.i64.wrap (b+1))))) (some (.inr (.inl ())))
def zh3 (c:Option zK):Option (Int) :=
  zst c (none) (fun a=>(zcu a.l a.at_).bind fun d=>(zab (fun z=>zgl a d z) 0).bind fun o=>zaJ o (fun b=>zgj a) some)
theorem zlw (v:Option zK) {r:Int} (h:zh3 v=some r):zu Tryz.prog 121 [zk8 2 zcG v] (iA r):=by
 refine zn Tryz.func121 j0 (by kernel_rfl) j0 j0 ?_
 unfold zh3 at h
 rcases v with _ | a
 ·
  replace h:=oeN h
  cases h
 ·
  replace h:=oeS h
  refine rg j0<|u<|asg j0<|za ?_
  refine zl ?_
  obtain ⟨n,M,h⟩:=bs h
  refine rg j0<|u<|mv j0<|u<|sc [] (zcY a.l a.at_ M) j0 j0 j0 j0 ⟨(rnI j0),j5⟩ j5<|zB (env0:=[(0,.ipt 2 [[.isl 6 (List.map zb a.l),.imp (List.map (rKV (fun x=>iA x)) a.at_)]] 0 0),(12,.msl 0 0 (List.length n))]) (st0:=[some (1,List.map zi n)]) ⟨[.old 0],ce j0 j0<|cv j0 (.msl j0)<|cn,j0,⟨⟨_,j0,zd (fun _=>j0)⟩,j5⟩,j0,j1⟩<|u<|lnM zM j0 j0 j0<|u<|mv j0<|za ?_
  obtain ⟨o,ho,h⟩:=bs h
  refine zT (X:=Int) (B:=Unit) (R:=Int) (fun z=>[(0,.ipt 2 [[.isl 6 (List.map zb a.l),.imp (List.map (rKV (fun x=>iA x)) a.at_)]] 0 0),(12,.msl 0 0 (List.length n)),(13,iA ((List.length n):Int)),(14,iA z)]) (fun z=>[some (1,List.map zi n)]) (fun b=>[(0,.ipt 2 [[.isl 6 (List.map zb a.l),.imp (List.map (rKV (fun x=>iA x)) a.at_)]] 0 0)]) (fun b=>[]) (fun r env st=>zaC Tryz.prog Tryz.f121 0 (iA r) [] env st) ho ⟨[.old 0],ce j0 j0<|cv j0 (.msl j0)<|ce j0 j0<|ce j0 j0<|cn,j0,⟨⟨_,j0,zd (fun _=>j0)⟩,j5⟩,j0,j1⟩ ?_ ?_ ?_
  ·
   rintro N r h
   replace h:zgl a n N=some r:=h
   unfold zgl at h
   refine rg j0<|u<|lss ti3 j0 j0<|za ?_
   refine zl ?_
   refine zh j0 (fun p=>?_) (fun p=>?_)
   ·
    replace h:=bT p h
    refine zk ?_
    refine zl ?_
    refine zq ?_
    obtain ⟨O,C,h⟩:=bs h
    refine rg j0<|u<|ixM zM j0 ti9 j0 j0 j0 j0 C<|u<|ldM ti9 j0 j0 (zp C).2.2 j0<|u<|asg j0<|za ?_
    obtain ⟨D,P,h⟩:=bs h
    refine rg j0<|u<|mv j0<|u<|mv j0<|u<|pc (zy a.l a.at_ O P) j0 j0 j0<|u<|mv j0<|u<|ex j0 j0<|u<|ex j0 j0<|u<|al 1 zaf j0<|u<|sto zaf j0 j0 j0<|u<|asg j0<|za ?_
    obtain ⟨Q,E,h⟩:=bs h
    refine rg j0<|u<|mv j0<|u<|ld zaf j0 j0<|u<|pc (zl7 a.l a.at_ D.1 E) j0 j0 j0<|u<|nt j0<|za ?_
    refine zh j0 (fun f=>?_) (fun f=>?_)
    ·
     replace h:=bT f h
     refine rg j0<|u<|asg j0<|za ?_
     refine zj ?_
     obtain rfl:=sm h
     exact ⟨_,j0,_,j0,[],ci j0,j0,j5,j0,j1⟩
    ·
     replace h:=bF f h
     refine zk ?_
     refine rl j0<|u<|add ti3 j0 j0<|u<|mv j0<|za ?_
     obtain rfl:=sm h
     exact ⟨_,j0,[.old 0],ce j0 j0<|cv j0 (.msl j0)<|ce j0 j0<|ce j0 j0<|cn,j0,⟨⟨_,j0,zd (fun _=>j0)⟩,j5⟩,j0,j1⟩
   ·
    replace h:=bF p h
    refine zz ?_
    obtain rfl:=sm h
    exact ⟨j0,_,j0,[],ce j0 j0<|cn,j0,j5,j0,j1⟩
  ·
   rintro ⟨⟩ rfl
   replace h:zgj a=some r:=h
   unfold zgj at h
   refine zv ?_
   refine zl ?_
   obtain ⟨d,F,h⟩:=bs h
   refine rg j0<|u<|mv j0<|u<|sc [] (zcY a.l a.at_ F) j0 j0 j0 j0 ⟨(rnI j0),j5⟩ j5<|zB (env0:=[(0,.ipt 2 [[.isl 6 (List.map zb a.l),.imp (List.map (rKV (fun x=>iA x)) a.at_)]] 0 0),(30,.msl 0 0 (List.length d))]) (st0:=[some (1,List.map zi d)]) ⟨[.old 0],ce j0 j0<|cv j0 (.msl j0)<|cn,j0,⟨⟨_,j0,zd (fun _=>j0)⟩,j5⟩,j0,j1⟩<|u<|lnM zM j0 j0 j0<|u<|mv j0<|za ?_
   obtain ⟨o,ho,h⟩:=bs h
   refine zT (X:=Int) (B:=Unit) (R:=Int) (fun z=>[(0,.ipt 2 [[.isl 6 (List.map zb a.l),.imp (List.map (rKV (fun x=>iA x)) a.at_)]] 0 0),(30,.msl 0 0 (List.length d)),(31,iA ((List.length d):Int)),(32,iA z)]) (fun z=>[some (1,List.map zi d)]) (fun b=>[]) (fun b=>[]) (fun r env st=>zaC Tryz.prog Tryz.f121 0 (iA r) [] env st) ho ⟨[.old 0],ce j0 j0<|cv j0 (.msl j0)<|ce j0 j0<|ce j0 j0<|cn,j0,⟨⟨_,j0,zd (fun _=>j0)⟩,j5⟩,j0,j1⟩ ?_ ?_ ?_
   ·
    rintro G r h
    replace h:zgm a d G=some r:=h
    unfold zgm at h
    refine rg j0<|u<|lss ti3 j0 j0<|za ?_
    refine zl ?_
    refine zh j0 (fun i=>?_) (fun i=>?_)
    ·
     replace h:=bT i h
     refine zk ?_
     refine zl ?_
     refine zq ?_
     obtain ⟨H,q,h⟩:=bs h
     refine rg j0<|u<|ixM zM j0 ti9 j0 j0 j0 j0 q<|u<|ldM ti9 j0 j0 (zp q).2.2 j0<|u<|asg j0<|za ?_
     obtain ⟨s,I,h⟩:=bs h
     refine rg j0<|u<|mv j0<|u<|mv j0<|u<|pc (zy a.l a.at_ H I) j0 j0 j0<|u<|mv j0<|u<|ex j0 j0<|u<|ex j0 j0<|u<|al 1 zaf j0<|u<|sto zaf j0 j0 j0<|u<|asg j0<|za ?_
     obtain ⟨S,J,h⟩:=bs h
     obtain ⟨K,e,h⟩:=bs h
     refine rg j0<|u<|mv j0<|u<|ld zaf j0 j0<|u<|pc (zjJ a.l a.at_ s.1 J) j0 j0 j0<|u<|nt j0<|u<|mv j0<|zfo (x:=K) (j:=4) 4 j0 j0 j0 j0 j0 gpn (fun c=>by replace e:=bF c e; obtain ⟨T,L,e⟩:=bs e; obtain rfl:=sm e; exact g j0 c<|mv j0<|g j0 c<|ld zaf j0 j0<|g j0 c<|pc (zl4 a.l a.at_ s.1 L) j0 j0 j0<|g j0 c<|nt j0<|za (eg [47,48,49,50] 4 j0 j0 j0 j0)) (fun hb=>(sm (bT hb e)).symm)<|za ?_
     refine zh j0 (fun m=>?_) (fun m=>?_)
     ·
      replace h:=bT m h
      refine rg j0<|u<|asg j0<|za ?_
      refine zj ?_
      obtain rfl:=sm h
      exact ⟨_,j0,_,j0,[],ci j0,j0,j5,j0,j1⟩
     ·
      replace h:=bF m h
      refine zk ?_
      refine rl j0<|u<|add ti3 j0 j0<|u<|mv j0<|za ?_
      obtain rfl:=sm h
      exact ⟨_,j0,[.old 0],ce j0 j0<|cv j0 (.msl j0)<|ce j0 j0<|ce j0 j0<|cn,j0,⟨⟨_,j0,zd (fun _=>j0)⟩,j5⟩,j0,j1⟩
    ·
     replace h:=bF i h
     refine zz ?_
     obtain rfl:=sm h
     exact ⟨j0,_,j0,[],cn,j0,j5,j0,j1⟩
   ·
    rintro ⟨⟩ rfl
    replace h:zgk=some r:=h
    unfold zgk at h
    refine zv ?_
    refine rg j0<|u<|asg j0<|za ?_
    refine zj ?_
    obtain rfl:=sm h
    exact ⟨_,j0,[],ci j0,j0,j5,j0,j1⟩
   ·
    rintro r' rfl env st hp
    obtain rfl:=sm h
    exact hp
  ·
   rintro r' rfl env st hp
   obtain rfl:=sm h
   exact hp
def ze8 (a:List UInt8):Bool :=
  false
theorem zgT (a:List UInt8) {r:Bool} (h:ze8 a=r):zu Tryz.prog 102 [.lit (.pointer none),sA a] (bA r):=by
 refine zn Tryz.func102 j0 (by kernel_rfl) j0 j0 ?_
 unfold ze8 at h
 refine rg j0<|u<|asg j0<|za ?_
 refine zl ?_
 refine rg j0<|u<|mv j0<|u<|eqp zez j0 j0 j0 j0 j0 j0<|za ?_
 refine zh j0 (fun _=>?_) (fun hx=>by cases hx)
 refine rg j0<|u<|asg j0<|za ?_
 refine zj ?_
 obtain rfl:=h
 exact ⟨_,j0,[],ci j0,j0,j5,j0,j1⟩
def zfg:Option ((List (List UInt8))) :=
  some []
def zfh (a:List UInt8):Option (Sum (Unit) (Sum (Unit) ((List (List UInt8))))) :=
  cond (ze8 a) ((zjq 16 ([]:List (List UInt8)) [a]).bind fun b=>none) (some (.inr (.inl ())))
def zgq (a:List UInt8):Option ((List (List UInt8))) :=
  (zab (fun z=>zfh a) ()).bind fun o=>zaJ o (fun b=>zfg) some
theorem zjP (a:List UInt8) {r:(List (List UInt8))} (h:zgq a=some r):zu Tryz.prog 109 [.lit (.pointer none),sA a] (.isl 1 (List.map zi r)):=by
 refine zn Tryz.func109 j0 (by kernel_rfl) j0 j0 ?_
 unfold zgq at h
 refine rg j0<|u<|asg j0<|za ?_
 refine rg j0<|u<|asg j0<|za ?_
 obtain ⟨o,ho,h⟩:=bs h
 refine zue (X:=Unit) (B:=Unit) (R:=(List (List UInt8))) (fun z=>[(0,.lit (.pointer none)),(1,sA a),(5,.lit (.slice none 0 0))]) (fun z=>[]) (fun b=>[(5,.lit (.slice none 0 0))]) (fun b=>[]) (fun r env st=>zaC Tryz.prog Tryz.f109 0 (.isl 1 (List.map zi r)) [] env st) ho ⟨[],ce j0 j0<|ce j0 j0<|ce j0 j0<|cn,j0,j5,j0,j1⟩ ?_ ?_ ?_
 ·
  rintro ⟨⟩ r h
  replace h:zfh a=some r:=h
  unfold zfh at h
  refine zl ?_
  refine rg j0<|u<|mv j0<|u<|mv j0<|u<|pc (zgT a j0) j0 j0 j0<|za ?_
  refine zh j0 (fun c=>?_) (fun c=>?_)
  ·
   replace h:=bT c h
   refine zk ?_
   refine zq ?_
   obtain ⟨e,d,h⟩:=bs h
   refine rg j0<|u<|mv j0<|u<|mv j0<|u<|bl 0 zM j0 ti9 j0 (by decide) (by decide) j0 j0 j0<|u<|apN (f:=zi) 1 zM j0 ti9 j0 j0 (by decide) zM j0 j0 j0 (roX (f:=zi) (z:=[a]) j0 j0) (fun _=>j0) j0 d<|u<|asg j0<|za ?_
   cases h
  ·
   replace h:=bF c h
   refine zz ?_
   obtain rfl:=sm h
   exact ⟨j0,_,j0,[],ce j0 j0<|cn,j0,j5,j0,j1⟩
 ·
  rintro ⟨⟩ rfl
  replace h:zfg=some r:=h
  unfold zfg at h
  refine rg j0<|u<|mv j0<|u<|asg j0<|za ?_
  refine zj ?_
  obtain rfl:=sm h
  exact ⟨_,j0,[],.nil,j0,j5,j0,j1⟩
 ·
  rintro r' rfl env st hp
  obtain rfl:=sm h
  exact hp
def zfE (a:List UInt8):Option (zc×Bool) :=
  cond (!(ze8 a)) (some ((zc.mk [] [] false [] [] []),false)) (none)
theorem ziP (b:List UInt8) {r:zc×Bool} (h:zfE b=some r):zu Tryz.prog 106 [.lit (.pointer none),sA b] (.tup [.agg (zb r.1),bA r.2]):=by
 refine zn Tryz.func106 j0 (by kernel_rfl) j0 j0 ?_
 unfold zfE at h
 refine rg j0<|u<|al 0 zaf j0<|u<|asg j0<|za ?_
 refine zl ?_
 refine rg j0<|u<|mv j0<|u<|mv j0<|u<|pc (zgT b j0) j0 j0 j0<|u<|nt j0<|za ?_
 refine zh j0 (fun a=>?_) (fun a=>?_)
 ·
  replace h:=bT a h
  refine rg j0<|u<|bd zaf j0 j0 j0<|u<|sto zaf j0 j0 j0<|u<|asg j0<|za ?_
  refine zj ?_
  obtain rfl:=sm h
  exact ⟨_,j0,[],z8 ⟨(zoA ⟨ci j0,ci j0,ci j0,(.nil),(.nil),(.nil),j5⟩),(ci j0),j5⟩,j0,j5,j0,j1⟩
 ·
  replace h:=bF a h
  refine zk ?_
  cases h
def zgW:Option ((List UInt8)×ze×Bool) :=
  some ([],(ze.mk [] [] [] false false 0 0 [] [] []),false)
def zgX (e:List (List UInt8)) (l:List UInt8) (a:Int):Option (Sum (Int) (Sum (Unit) ((List UInt8)×ze×Bool))) :=
  cond (decide (a < (List.length e:Int))) ((idx e a).bind fun d=>(zfE d).bind fun b=>(zfv b.1 l).bind fun c=>(cond (decide (0≤c)) ((idx b.1.Methods c).bind fun f=>some (zgE f)) (some false)).bind fun i=>cond i ((idx b.1.Methods c).bind fun j=>some (.inr (.inr (d,j,true)))) (some (.inl (IntKind.i64.wrap (a+1))))) (some (.inr (.inl ())))
def ziY (a:List (List UInt8)) (c:List UInt8):Option ((List UInt8)×ze×Bool) :=
  (zab (fun z=>zgX a c z) 0).bind fun o=>zaJ o (fun b=>zgW) some
theorem zmg (i:List (List UInt8)) (l:List UInt8) {r:(List UInt8)×ze×Bool} (h:ziY i l=some r):zu Tryz.prog 218 [.lit (.pointer none),.isl 1 (List.map zi i),sA l,.fn (.func 219) [] []] (.tup [sA r.1,.agg (zf r.2.1),bA r.2.2]):=by
 refine zn Tryz.func218 j0 (by kernel_rfl) j0 j0 ?_
 unfold ziY at h
 refine rg j0<|u<|asg j0<|u<|al 0 zN j0<|u<|asg j0<|za ?_
 refine zl ?_
 refine rg j0<|u<|mv j0<|u<|lnI zM j0 j0<|u<|mv j0<|za ?_
 obtain ⟨o,ho,h⟩:=bs h
 refine zT (X:=Int) (B:=Unit) (R:=(List UInt8)×ze×Bool) (fun z=>[(0,.lit (.pointer none)),(2,sA l),(3,.fn (.func 219) [] []),(9,.mpt 0 0 0),(16,.isl 1 (List.map zi i)),(17,iA (List.length i:Int)),(18,iA z)]) (fun z=>[some (10,[[sA [],.lit (.slice none 0 0),sA [],bA false,bA false,iA 0,iA 0,.lit (.slice none 0 0),.lit (.slice none 0 0),.lit (.slice none 0 0)]])]) (fun b=>[(9,.mpt 0 0 0)]) (fun b=>[some (10,[[sA [],.lit (.slice none 0 0),sA [],bA false,bA false,iA 0,iA 0,.lit (.slice none 0 0),.lit (.slice none 0 0),.lit (.slice none 0 0)]])]) (fun r env st=>zaC Tryz.prog Tryz.f218 0 (.tup [sA r.1,.agg (zf r.2.1),bA r.2.2]) [] env st) ho ⟨[.old 0],ce j0 j0<|ce j0 j0<|ce j0 j0<|cv j0 (.mpt j0)<|ce j0 j0<|ce j0 j0<|ce j0 j0<|cn,j0,⟨⟨_,j0,zg (ciL j0)⟩,j5⟩,j0,j1⟩ ?_ ?_ ?_
 ·
  rintro C r h
  replace h:zgX i l C=some r:=h
  unfold zgX at h
  refine rg j0<|u<|lss ti3 j0 j0<|za ?_
  refine zl ?_
  refine zh j0 (fun d=>?_) (fun d=>?_)
  ·
   replace h:=bT d h
   refine zk ?_
   refine zl ?_
   refine zq ?_
   obtain ⟨f,n,h⟩:=bs h
   refine rg j0<|u<|ixI zM j0 ti9 j0 j0 j0 n<|u<|ldI ti9 j0 (zp n).2.2 j0<|u<|asg j0<|za ?_
   obtain ⟨m,D,h⟩:=bs h
   refine rg j0<|u<|mv j0<|u<|mv j0<|u<|pc (ziP f D) j0 j0 j0<|u<|mv j0<|u<|ex j0 j0<|u<|ex j0 j0<|u<|al 1 zaf j0<|u<|sto zaf j0 j0 j0<|u<|asg j0<|za ?_
   obtain ⟨p,E,h⟩:=bs h
   refine rg j0<|u<|ld zaf j0 j0<|u<|mv j0<|u<|pc (zfz m.1 l E) j0 j0 j0<|u<|asg j0<|za ?_
   obtain ⟨F,c,h⟩:=bs h
   refine rg j0<|u<|mv j0<|u<|geq ti3 j0 j0<|u<|mv j0<|za7 (x:=F) (j:=2) 7 j0 j0 j0 j0 j0 gpn (fun a=>by replace c:=bT a c; obtain ⟨G,q,c⟩:=bs c; obtain rfl:=sm c; exact g j0 a<|mv j0<|g j0 a<|fa zaf j0 j0 j0<|g j0 a<|ld zc7 j0 j0<|g j0 a<|mv j0<|g j0 a<|ixI zc7 j0 zN j0 j0 j0 q<|g j0 a<|ldI zN j0 (zp q).2.2 j0<|g j0 a<|pc (zil G j0) j0 j0 j0<|za (eg [34,35,36,37,38,39,40] 7 j0 j0 j0 j0)) (fun hb=>(sm (bF hb c)).symm)<|za ?_
   refine zh j0 (fun e=>?_) (fun e=>?_)
   ·
    replace h:=bT e h
    obtain ⟨s,v,h⟩:=bs h
    refine rd [(8,sA f),(9,.mpt 0 0 0),(10,bA true)] [some (10,[(zf s)])] [7] [6,5,4,3,2,1,0] [(8,sA f),(47,.agg (zf s)),(46,.ipt 10 (List.map zf m.1.Methods) (Int.toNat p) 0),(45,iA p),(44,.isl 10 (List.map zf m.1.Methods)),(43,.mpt 1 0 5),(42,sA f)] 1 (by kernel_rfl) (by kernel_rfl) j0 (by kernel_rfl) (dtS ⟨(fun _=>pa j0 j0 j0 j0 (asg j0<|j4)),(fun _=>pa j0 j0 j0 j0 (ldI zN j0 (zp v).2.2 j0<|j4)),(fun _=>pa j0 j0 j0 j0 (ixI zc7 j0 zN j0 j0 j0 v<|j4)),(fun _=>pa j0 j0 j0 j0 (mv j0<|j4)),(fun _=>pa j0 j0 j0 j0 (ld zc7 j0 j0<|j4)),(fun _=>pa j0 j0 j0 j0 (fa zaf j0 j0 j0<|j4)),(fun _=>pa j0 j0 j0 j0 (mv j0<|j4)),j5⟩ (by kernel_rfl) j0 ⟨(fun _ _=>⟨_,j0,j0,sto zN j0 j0 j0<|⟨.any,[8],[(10,bA true)],j0,j0,by kernel_rfl,j5,dt0 ⟨(fun _=>pa j0 j0 j0 j0 (asg j0<|j4)),(fun h=>by cases h),(fun h=>by cases h),(fun h=>by cases h),(fun h=>by cases h),(fun h=>by cases h),(fun h=>by cases h),(fun h=>by cases h),j5⟩ (by kernel_rfl) j0 ⟨[.old 0],ce j0 j0<|cv j0 (.mpt j0)<|ce j0 j0<|cn,j0,⟨⟨_,j0,zg (ciL j0)⟩,j5⟩,j0,j1⟩⟩⟩),j5⟩) ?_
    refine zj ?_
    obtain rfl:=sm h
    exact ⟨_,j0,_,j0,[],z8 ⟨(ci j0),(ci j0),(ci j0),j5⟩,j0,j5,j0,j1⟩
   ·
    replace h:=bF e h
    refine zk ?_
    refine rl j0<|u<|add ti3 j0 j0<|u<|mv j0<|za ?_
    obtain rfl:=sm h
    exact ⟨_,j0,[.old 0],ce j0 j0<|ce j0 j0<|ce j0 j0<|cv j0 (.mpt j0)<|ce j0 j0<|ce j0 j0<|ce j0 j0<|cn,j0,⟨⟨_,j0,zg (ciL j0)⟩,j5⟩,j0,j1⟩
  ·
   replace h:=bF d h
   refine zz ?_
   obtain rfl:=sm h
   exact ⟨j0,_,j0,[.old 0],cv j0 (.mpt j0)<|cn,j0,⟨⟨_,j0,zg (ciL j0)⟩,j5⟩,j0,j1⟩
 ·
  rintro ⟨⟩ rfl
  replace h:zgW=some r:=h
  unfold zgW at h
  refine zv ?_
  refine rg j0<|u<|bd zN j0 j0 j0<|u<|asg j0<|u<|sto zN j0 j0 j0<|u<|asg j0<|za ?_
  refine zj ?_
  obtain rfl:=sm h
  exact ⟨_,j0,[],z8 ⟨(ci j0),(zoA ⟨ci j0,(.nil),ci j0,ci j0,ci j0,ci j0,ci j0,(.nil),(.nil),(.nil),j5⟩),(ci j0),j5⟩,j0,j5,j0,j1⟩
 ·
  rintro r' rfl env st hp
  obtain rfl:=sm h
  exact hp
def zj2 (f:Option zK) (d:List UInt8) (e:List UInt8):Option ((List UInt8)×ze×Bool) :=
  zst f ((zgq d).bind fun i=>(ziY i e).bind fun b=>some (b.1,b.2.1,b.2.2)) (fun a=>(z6 a.l a.at_ d).bind fun j=>(zhg a.l a.at_ j e).bind fun c=>some (c.1,c.2.1,c.2.2))
theorem zmH (e:Option zK) (c:List UInt8) (b:List UInt8) {r:(List UInt8)×ze×Bool} (h:zj2 e c b=some r):zu Tryz.prog 124 [zk8 2 zcG e,sA c,sA b] (.tup [sA r.1,.agg (zf r.2.1),bA r.2.2]):=by
 refine zn Tryz.func124 j0 (by kernel_rfl) j0 j0 ?_
 unfold zj2 at h
 rcases e with _ | a
 ·
  replace h:=oeN h
  refine rg j0<|u<|asg j0<|u<|al 0 zN j0<|u<|asg j0<|za ?_
  obtain ⟨f,i,h⟩:=bs h
  obtain ⟨o,j,h⟩:=bs h
  refine rg j0<|u<|mv j0<|u<|mv j0<|u<|mv j0<|u<|pc (zjP c i) j0 j0 j0<|u<|mv j0<|u<|pc (zmg f b j) j0 j0 j0<|u<|ex j0 j0<|u<|ex j0 j0<|u<|ex j0 j0<|u<|asg j0<|u<|sto zN j0 j0 j0<|u<|asg j0<|za ?_
  refine zj ?_
  obtain rfl:=sm h
  exact ⟨_,j0,[],z8 ⟨(ci j0),(ci j0),(ci j0),j5⟩,j0,j5,j0,j1⟩
 ·
  replace h:=oeS h
  refine rg j0<|u<|asg j0<|u<|al 0 zN j0<|u<|asg j0<|za ?_
  obtain ⟨d,m,h⟩:=bs h
  obtain ⟨p,n,h⟩:=bs h
  refine rg j0<|u<|mv j0<|u<|mv j0<|u<|mv j0<|u<|sc [] (z7 a.l a.at_ c m) j0 j0 j0 j0 ⟨(rnI j0),(rnI j0),j5⟩ j5<|zB (env0:=[(2,sA b),(7,.mpt 0 0 0),(9,.ipt 2 [[.isl 6 (List.map zb a.l),.imp (List.map (rKV (fun x=>iA x)) a.at_)]] 0 0),(12,.msl 1 0 (List.length d))]) (st0:=[some (10,[[sA [],.lit (.slice none 0 0),sA [],bA false,bA false,iA 0,iA 0,.lit (.slice none 0 0),.lit (.slice none 0 0),.lit (.slice none 0 0)]]),some (1,List.map zi d)]) ⟨[.old 0,.old 1],ce j0 j0<|cv j0 (.mpt j0)<|ce j0 j0<|cv j0 (.msl j0)<|cn,j0,⟨⟨_,j0,zg (ciL j0)⟩,⟨_,j0,zd (fun _=>j0)⟩,j5⟩,j0,j1⟩<|u<|mv j0<|zB (env0:=[(7,.mpt 0 0 0),(9,.ipt 2 [[.isl 6 (List.map zb a.l),.imp (List.map (rKV (fun x=>iA x)) a.at_)]] 0 0),(12,.isl 1 (List.map zi d)),(13,sA b)]) (st0:=[some (10,[[sA [],.lit (.slice none 0 0),sA [],bA false,bA false,iA 0,iA 0,.lit (.slice none 0 0),.lit (.slice none 0 0),.lit (.slice none 0 0)]])]) ⟨[.old 0],cv j0 (.mpt j0)<|ce j0 j0<|cv j0 (zjy j0 j0 (fun _=>j0))<|ce j0 j0<|cn,j0,⟨⟨_,j0,zg (ciL j0)⟩,j5⟩,j0,j1⟩<|u<|pc (ziZ a.l a.at_ d b n) j0 j0 j0<|u<|ex j0 j0<|u<|ex j0 j0<|u<|ex j0 j0<|u<|asg j0<|u<|sto zN j0 j0 j0<|u<|asg j0<|za ?_
  refine zj ?_
  obtain rfl:=sm h
  exact ⟨_,j0,[],z8 ⟨(ci j0),(ci j0),(ci j0),j5⟩,j0,j5,j0,j1⟩
def zg7 (a:List UInt8) (b:List zc) (c:List (List UInt8×Int)):Option (Bool) :=
  (zcJ b c a).bind fun d=>some d
theorem zkC (a:List UInt8) (b:List zc) (c:List (List UInt8×Int)) {r:Bool} (h:zg7 a b c=some r):zu Tryz.prog 192 [sA a,.ipt 1 [[.ipt 2 [[.isl 6 (List.map zb b),.imp (List.map (rKV (fun x=>iA x)) c)]] 0 0]] 0 0] (bA r):=by
 refine zn Tryz.func192 j0 (by kernel_rfl) j0 j0 ?_
 unfold zg7 at h
 refine rg j0<|u<|asg j0<|za ?_
 obtain ⟨e,d,h⟩:=bs h
 refine rg j0<|u<|ld zez j0 j0<|u<|mv j0<|u<|pc (zcK b c a d) j0 j0 j0<|u<|asg j0<|za ?_
 refine zj ?_
 obtain rfl:=sm h
 exact ⟨_,j0,[],ci j0,j0,j5,j0,j1⟩
def zja (a:List UInt8) (b:List zc) (c:List (List UInt8×Int)):Option (Bool) :=
  (zg7 a b c).bind fun d=>some (!d)
theorem zmr (a:List UInt8) (b:List zc) (c:List (List UInt8×Int)) {r:Bool} (h:zja a b c=some r):zu Tryz.prog 274 [sA a,.ipt 1 [[.fn (.func 192) [] [.ipt 1 [[.ipt 2 [[.isl 6 (List.map zb b),.imp (List.map (rKV (fun x=>iA x)) c)]] 0 0]] 0 0]]] 0 0] (bA r):=by
 refine zn Tryz.func274 j0 (by kernel_rfl) j0 j0 ?_
 unfold zja at h
 refine rg j0<|u<|asg j0<|za ?_
 obtain ⟨e,d,h⟩:=bs h
 refine rg j0<|u<|ld zmp j0 j0<|u<|mv j0<|u<|pc (zkC a b c d) j0 j0 j0<|u<|nt j0<|u<|asg j0<|za ?_
 refine zj ?_
 obtain rfl:=sm h
 exact ⟨_,j0,[],ci j0,j0,j5,j0,j1⟩
def zbC:Option (Int) :=
  some (-1)
def zbD (b:List (List UInt8)) (c:List zc) (d:List (List UInt8×Int)) (a:Int):Option (Sum (Int) (Sum (Unit) (Int))) :=
  cond (decide (a < (List.length b:Int))) ((idx b a).bind fun e=>(zja e c d).bind fun f=>cond f (some (.inr (.inr a))) (some (.inl (IntKind.i64.wrap (a+1))))) (some (.inr (.inl ())))
def zb0 (a:List (List UInt8)) (c:List zc) (d:List (List UInt8×Int)):Option (Int) :=
  (zab (fun z=>zbD a c d z) 0).bind fun o=>zaJ o (fun b=>zbC) some
theorem ze4 (a:List (List UInt8)) (c:List zc) (d:List (List UInt8×Int)) {r:Int} (h:zb0 a c d=some r):zu Tryz.prog 181 [.isl 1 (List.map zi a),.fn (.func 274) [] [.ipt 1 [[.fn (.func 192) [] [.ipt 1 [[.ipt 2 [[.isl 6 (List.map zb c),.imp (List.map (rKV (fun x=>iA x)) d)]] 0 0]] 0 0]]] 0 0]] (iA r):=by
 refine zn Tryz.func181 j0 (by kernel_rfl) j0 j0 ?_
 unfold zb0 at h
 refine rg j0<|u<|asg j0<|za ?_
 refine zl ?_
 refine rg j0<|u<|mv j0<|u<|lnI zM j0 j0<|u<|mv j0<|za ?_
 obtain ⟨o,ho,h⟩:=bs h
 refine zT (X:=Int) (B:=Unit) (R:=Int) (fun z=>[(0,.isl 1 (List.map zi a)),(1,.fn (.func 274) [] [.ipt 1 [[.fn (.func 192) [] [.ipt 1 [[.ipt 2 [[.isl 6 (List.map zb c),.imp (List.map (rKV (fun x=>iA x)) d)]] 0 0]] 0 0]]] 0 0]),(7,iA (List.length a:Int)),(8,iA z)]) (fun z=>[]) (fun b=>[]) (fun b=>[]) (fun r env st=>zaC Tryz.prog Tryz.f181 0 (iA r) [] env st) ho ⟨[],ce j0 j0<|ce j0 j0<|ce j0 j0<|ce j0 j0<|cn,j0,j5,j0,j1⟩ ?_ ?_ ?_
 ·
  rintro j r h
  replace h:zbD a c d j=some r:=h
  unfold zbD at h
  refine rg j0<|u<|lss ti3 j0 j0<|za ?_
  refine zl ?_
  refine zh j0 (fun e=>?_) (fun e=>?_)
  ·
   replace h:=bT e h
   refine zk ?_
   refine zl ?_
   refine zq ?_
   refine rg j0<|u<|mv j0<|u<|asg j0<|za ?_
   obtain ⟨l,i,h⟩:=bs h
   obtain ⟨n,m,h⟩:=bs h
   refine rg j0<|u<|mv j0<|u<|mv j0<|u<|mv j0<|u<|ixI zM j0 ti9 j0 j0 j0 i<|u<|ldI ti9 j0 (zp i).2.2 j0<|u<|pc (zmr l c d m) j0 j0 j0<|za ?_
   refine zh j0 (fun f=>?_) (fun f=>?_)
   ·
    replace h:=bT f h
    refine rg j0<|u<|mv j0<|u<|asg j0<|za ?_
    refine zj ?_
    obtain rfl:=sm h
    exact ⟨_,j0,_,j0,[],ci j0,j0,j5,j0,j1⟩
   ·
    replace h:=bF f h
    refine zk ?_
    refine rl j0<|u<|add ti3 j0 j0<|u<|mv j0<|za ?_
    obtain rfl:=sm h
    exact ⟨_,j0,[],ce j0 j0<|ce j0 j0<|ce j0 j0<|ce j0 j0<|cn,j0,j5,j0,j1⟩
  ·
   replace h:=bF e h
   refine zz ?_
   obtain rfl:=sm h
   exact ⟨j0,_,j0,[],cn,j0,j5,j0,j1⟩
 ·
  rintro ⟨⟩ rfl
  replace h:zbC=some r:=h
  unfold zbC at h
  refine zv ?_
  refine rg j0<|u<|asg j0<|za ?_
  refine zj ?_
  obtain rfl:=sm h
  exact ⟨_,j0,[],ci j0,j0,j5,j0,j1⟩
 ·
  rintro r' rfl env st hp
  obtain rfl:=sm h
  exact hp
def zbp (a:List (List UInt8)) (b:List zc) (c:List (List UInt8×Int)):Option (Bool) :=
  (zb0 a b c).bind fun d=>some (decide (0≤d))
theorem zet (a:List (List UInt8)) (b:List zc) (c:List (List UInt8×Int)) {r:Bool} (h:zbp a b c=some r):zu Tryz.prog 99 [.isl 1 (List.map zi a),.fn (.func 274) [] [.ipt 1 [[.fn (.func 192) [] [.ipt 1 [[.ipt 2 [[.isl 6 (List.map zb b),.imp (List.map (rKV (fun x=>iA x)) c)]] 0 0]] 0 0]]] 0 0]] (bA r):=by
 refine zn Tryz.func99 j0 (by kernel_rfl) j0 j0 ?_
 unfold zbp at h
 refine rg j0<|u<|asg j0<|za ?_
 obtain ⟨e,d,h⟩:=bs h
 refine rg j0<|u<|mv j0<|u<|mv j0<|u<|pc (ze4 a b c d) j0 j0 j0<|u<|geq ti3 j0 j0<|u<|asg j0<|za ?_
 refine zj ?_
 obtain rfl:=sm h
 exact ⟨_,j0,[],ci j0,j0,j5,j0,j1⟩
def zjm (a:List (List UInt8)) (b:List zc) (c:List (List UInt8×Int)):Option (Bool) :=
  (zbp a b c).bind fun d=>some (!d)
theorem zkF (a:List (List UInt8)) (b:List zc) (c:List (List UInt8×Int)) {r:Bool} (h:zjm a b c=some r):zu Tryz.prog 195 [.isl 1 (List.map zi a),.fn (.func 192) [] [.ipt 1 [[.ipt 2 [[.isl 6 (List.map zb b),.imp (List.map (rKV (fun x=>iA x)) c)]] 0 0]] 0 0]] (bA r):=by
 refine zn Tryz.func195 j0 (by kernel_rfl) j0 j0 ?_
 unfold zjm at h
 refine rg j0<|u<|bx 0 1 j0 j0 j0 j0<|u<|asg j0<|za ?_
 obtain ⟨e,d,h⟩:=bs h
 refine rg j0<|u<|mv j0<|u<|mf j0 j0<|u<|pcs (zet a b c d) j0 j0 (.cons (si j0) (.cons (zdp j5 ⟨(zbe j0 ⟨(si j0),j5⟩),j5⟩) .nil)) zcq<|u<|nt j0<|u<|asg j0<|za ?_
 refine zj ?_
 obtain rfl:=sm h
 exact ⟨_,j0,[],ci j0,j0,j5,j0,j1⟩
def zha (a:List zc) (b:List (List UInt8×Int)) (c:List UInt8) (d:ze) (e:List (List UInt8)) (f:List (List UInt8)) (i:Bool) (j:Bool):Unit :=
  ()
theorem zo (d:List zc) (e:List (List UInt8×Int)) (f:List UInt8) (i:ze) (a:List (List UInt8)) (b:List (List UInt8)) (l:Bool) (m:Bool) {r:Unit} (h:zha d e f i a b l m=r):SC Tryz.prog 194 [.mpt 0 0 0,bA m] [.one 15 (vK d e f i (.msl 1 0 (List.length a)) (.msl 2 0 (List.length b)) (bA l)),.many 1 (List.map zi a),.many 1 (List.map zi b)] (.tup []) [.one 15 (vK d e f i (.msl 1 0 (List.length a)) (.msl 2 0 (List.length b)) (bA (l||(!m)))),.many 1 (List.map zi a),.many 1 (List.map zi b)]:=by
 refine ⟨⟨j5,zeU (sz:=1) (fun _=>j0),zeU (sz:=1) (fun _=>j0),j5⟩,zad Tryz.func194 j0 (by kernel_rfl) j0 ?_⟩
 unfold zha at h
 refine rl j0<|u<|mv j0<|u<|mv j0<|u<|nc j0 j0<|u<|fa zS j0 j0 j0<|u<|ld ti4 j0 j0<|u<|mv j0<|zfo (j:=5) 2 j0 j0 j0 j0 j0 gpn (fun c=>g j0 c<|mv j0<|g j0 c<|nt j0<|za (egO [10,11] 2 c j0 j0 j0 j0)) orT<|u<|nc j0 j0<|u<|fa zS j0 j0 j0<|u<|sto ti4 j0 j0 j0<|za ?_
 obtain rfl:=h
 exact ⟨_,j0,[.old 0,.old 1,.old 2],z8 j5,j0,⟨⟨_,j0,zg (zQ j0 (by exact ⟨.msl j0,.msl j0,ci j0,j5⟩))⟩,⟨_,j0,zd (fun _=>j0)⟩,⟨_,j0,zd (fun _=>j0)⟩,j5⟩,j0,j1⟩
def zg8 (a:List UInt8) (b:List zc) (c:List (List UInt8×Int)):Option (Bool) :=
  (zcx b c a a).bind fun d=>some d
theorem zkD (a:List UInt8) (b:List zc) (c:List (List UInt8×Int)) {r:Bool} (h:zg8 a b c=some r):zu Tryz.prog 197 [sA a,.ipt 1 [[.ipt 2 [[.isl 6 (List.map zb b),.imp (List.map (rKV (fun x=>iA x)) c)]] 0 0]] 0 0] (bA r):=by
 refine zn Tryz.func197 j0 (by kernel_rfl) j0 j0 ?_
 unfold zg8 at h
 refine rg j0<|u<|asg j0<|za ?_
 obtain ⟨e,d,h⟩:=bs h
 refine rg j0<|u<|ld zez j0 j0<|u<|mv j0<|u<|mv j0<|u<|pc (zcg b c a a d) j0 j0 j0<|u<|asg j0<|za ?_
 refine zj ?_
 obtain rfl:=sm h
 exact ⟨_,j0,[],ci j0,j0,j5,j0,j1⟩
def zg9 (a:List UInt8) (b:List zc) (c:List (List UInt8×Int)):Option (Bool) :=
  (zg8 a b c).bind fun d=>some (!d)
theorem zkE (a:List UInt8) (b:List zc) (c:List (List UInt8×Int)) {r:Bool} (h:zg9 a b c=some r):zu Tryz.prog 274 [sA a,.ipt 1 [[.fn (.func 197) [] [.ipt 1 [[.ipt 2 [[.isl 6 (List.map zb b),.imp (List.map (rKV (fun x=>iA x)) c)]] 0 0]] 0 0]]] 0 0] (bA r):=by
 refine zn Tryz.func274 j0 (by kernel_rfl) j0 j0 ?_
 unfold zg9 at h
 refine rg j0<|u<|asg j0<|za ?_
 obtain ⟨e,d,h⟩:=bs h
 refine rg j0<|u<|ld zmp j0 j0<|u<|mv j0<|u<|pc (zkD a b c d) j0 j0 j0<|u<|nt j0<|u<|asg j0<|za ?_
 refine zj ?_
 obtain rfl:=sm h
 exact ⟨_,j0,[],ci j0,j0,j5,j0,j1⟩
def zbE:Option (Int) :=
  some (-1)
def zbF (b:List (List UInt8)) (c:List zc) (d:List (List UInt8×Int)) (a:Int):Option (Sum (Int) (Sum (Unit) (Int))) :=
  cond (decide (a < (List.length b:Int))) ((idx b a).bind fun e=>(zg9 e c d).bind fun f=>cond f (some (.inr (.inr a))) (some (.inl (IntKind.i64.wrap (a+1))))) (some (.inr (.inl ())))
def zb1 (a:List (List UInt8)) (c:List zc) (d:List (List UInt8×Int)):Option (Int) :=
  (zab (fun z=>zbF a c d z) 0).bind fun o=>zaJ o (fun b=>zbE) some
theorem ze5 (a:List (List UInt8)) (c:List zc) (d:List (List UInt8×Int)) {r:Int} (h:zb1 a c d=some r):zu Tryz.prog 181 [.isl 1 (List.map zi a),.fn (.func 274) [] [.ipt 1 [[.fn (.func 197) [] [.ipt 1 [[.ipt 2 [[.isl 6 (List.map zb c),.imp (List.map (rKV (fun x=>iA x)) d)]] 0 0]] 0 0]]] 0 0]] (iA r):=by
 refine zn Tryz.func181 j0 (by kernel_rfl) j0 j0 ?_
 unfold zb1 at h
 refine rg j0<|u<|asg j0<|za ?_
 refine zl ?_
 refine rg j0<|u<|mv j0<|u<|lnI zM j0 j0<|u<|mv j0<|za ?_
 obtain ⟨o,ho,h⟩:=bs h
 refine zT (X:=Int) (B:=Unit) (R:=Int) (fun z=>[(0,.isl 1 (List.map zi a)),(1,.fn (.func 274) [] [.ipt 1 [[.fn (.func 197) [] [.ipt 1 [[.ipt 2 [[.isl 6 (List.map zb c),.imp (List.map (rKV (fun x=>iA x)) d)]] 0 0]] 0 0]]] 0 0]),(7,iA (List.length a:Int)),(8,iA z)]) (fun z=>[]) (fun b=>[]) (fun b=>[]) (fun r env st=>zaC Tryz.prog Tryz.f181 0 (iA r) [] env st) ho ⟨[],ce j0 j0<|ce j0 j0<|ce j0 j0<|ce j0 j0<|cn,j0,j5,j0,j1⟩ ?_ ?_ ?_
 ·
  rintro j r h
  replace h:zbF a c d j=some r:=h
  unfold zbF at h
  refine rg j0<|u<|lss ti3 j0 j0<|za ?_
  refine zl ?_
  refine zh j0 (fun e=>?_) (fun e=>?_)
  ·
   replace h:=bT e h
   refine zk ?_
   refine zl ?_
   refine zq ?_
   refine rg j0<|u<|mv j0<|u<|asg j0<|za ?_
   obtain ⟨l,i,h⟩:=bs h
   obtain ⟨n,m,h⟩:=bs h
   refine rg j0<|u<|mv j0<|u<|mv j0<|u<|mv j0<|u<|ixI zM j0 ti9 j0 j0 j0 i<|u<|ldI ti9 j0 (zp i).2.2 j0<|u<|pc (zkE l c d m) j0 j0 j0<|za ?_
   refine zh j0 (fun f=>?_) (fun f=>?_)
   ·
    replace h:=bT f h
    refine rg j0<|u<|mv j0<|u<|asg j0<|za ?_
    refine zj ?_
    obtain rfl:=sm h
    exact ⟨_,j0,_,j0,[],ci j0,j0,j5,j0,j1⟩
   ·
    replace h:=bF f h
    refine zk ?_
    refine rl j0<|u<|add ti3 j0 j0<|u<|mv j0<|za ?_
    obtain rfl:=sm h
    exact ⟨_,j0,[],ce j0 j0<|ce j0 j0<|ce j0 j0<|ce j0 j0<|cn,j0,j5,j0,j1⟩
  ·
   replace h:=bF e h
   refine zz ?_
   obtain rfl:=sm h
   exact ⟨j0,_,j0,[],cn,j0,j5,j0,j1⟩
 ·
  rintro ⟨⟩ rfl
  replace h:zbE=some r:=h
  unfold zbE at h
  refine zv ?_
  refine rg j0<|u<|asg j0<|za ?_
  refine zj ?_
  obtain rfl:=sm h
  exact ⟨_,j0,[],ci j0,j0,j5,j0,j1⟩
 ·
  rintro r' rfl env st hp
  obtain rfl:=sm h
  exact hp
def zbq (a:List (List UInt8)) (b:List zc) (c:List (List UInt8×Int)):Option (Bool) :=
  (zb1 a b c).bind fun d=>some (decide (0≤d))
theorem zeu (a:List (List UInt8)) (b:List zc) (c:List (List UInt8×Int)) {r:Bool} (h:zbq a b c=some r):zu Tryz.prog 99 [.isl 1 (List.map zi a),.fn (.func 274) [] [.ipt 1 [[.fn (.func 197) [] [.ipt 1 [[.ipt 2 [[.isl 6 (List.map zb b),.imp (List.map (rKV (fun x=>iA x)) c)]] 0 0]] 0 0]]] 0 0]] (bA r):=by
 refine zn Tryz.func99 j0 (by kernel_rfl) j0 j0 ?_
 unfold zbq at h
 refine rg j0<|u<|asg j0<|za ?_
 obtain ⟨e,d,h⟩:=bs h
 refine rg j0<|u<|mv j0<|u<|mv j0<|u<|pc (ze5 a b c d) j0 j0 j0<|u<|geq ti3 j0 j0<|u<|asg j0<|za ?_
 refine zj ?_
 obtain rfl:=sm h
 exact ⟨_,j0,[],ci j0,j0,j5,j0,j1⟩
def zig (a:List (List UInt8)) (b:List zc) (c:List (List UInt8×Int)):Option (Bool) :=
  (zbq a b c).bind fun d=>some (!d)
theorem zlE (a:List (List UInt8)) (b:List zc) (c:List (List UInt8×Int)) {r:Bool} (h:zig a b c=some r):zu Tryz.prog 195 [.isl 1 (List.map zi a),.fn (.func 197) [] [.ipt 1 [[.ipt 2 [[.isl 6 (List.map zb b),.imp (List.map (rKV (fun x=>iA x)) c)]] 0 0]] 0 0]] (bA r):=by
 refine zn Tryz.func195 j0 (by kernel_rfl) j0 j0 ?_
 unfold zig at h
 refine rg j0<|u<|bx 0 1 j0 j0 j0 j0<|u<|asg j0<|za ?_
 obtain ⟨e,d,h⟩:=bs h
 refine rg j0<|u<|mv j0<|u<|mf j0 j0<|u<|pcs (zeu a b c d) j0 j0 (.cons (si j0) (.cons (zdp j5 ⟨(zbe j0 ⟨(si j0),j5⟩),j5⟩) .nil)) zcq<|u<|nt j0<|u<|asg j0<|za ?_
 refine zj ?_
 obtain rfl:=sm h
 exact ⟨_,j0,[],ci j0,j0,j5,j0,j1⟩
def zex (a:zaX) (b:Int):Bool :=
  (a.At == b)
theorem zhS (a:zaX) (b:Int) {r:Bool} (h:zex a b=r):zu Tryz.prog 340 [.agg (zac a),.ipt 1 [[iA b]] 0 0] (bA r):=by
 refine zn Tryz.func340 j0 (by kernel_rfl) j0 j0 ?_
 unfold zex at h
 refine rg j0<|u<|bx 0 3 j0 j0 j0 j0<|u<|asg j0<|za ?_
 refine rg j0<|u<|fa zin j0 j0 j0<|u<|ld ti3 j0 j0<|u<|ld ti3 j0 j0<|u<|eql ti3 j0 j0<|u<|asg j0<|za ?_
 refine zj ?_
 obtain rfl:=h
 exact ⟨_,j0,[],ci j0,j0,j5,j0,j1⟩
def zbN:Option (Int) :=
  some (-1)
def zbO (b:List zaX) (c:Int) (a:Int):Option (Sum (Int) (Sum (Unit) (Int))) :=
  cond (decide (a < (List.length b:Int))) ((idx b a).bind fun d=>cond (zex d c) (some (.inr (.inr a))) (some (.inl (IntKind.i64.wrap (a+1))))) (some (.inr (.inl ())))
def zb7 (a:List zaX) (c:Int):Option (Int) :=
  (zab (fun z=>zbO a c z) 0).bind fun o=>zaJ o (fun b=>zbN) some
theorem zfq (a:List zaX) (c:Int) {r:Int} (h:zb7 a c=some r):zu Tryz.prog 339 [.isl 3 (List.map zac a),.fn (.func 340) [] [.ipt 1 [[iA c]] 0 0]] (iA r):=by
 refine zn Tryz.func339 j0 (by kernel_rfl) j0 j0 ?_
 unfold zb7 at h
 refine rg j0<|u<|asg j0<|za ?_
 refine zl ?_
 refine rg j0<|u<|mv j0<|u<|lnI zoF j0 j0<|u<|mv j0<|za ?_
 obtain ⟨o,ho,h⟩:=bs h
 refine zT (X:=Int) (B:=Unit) (R:=Int) (fun z=>[(0,.isl 3 (List.map zac a)),(1,.fn (.func 340) [] [.ipt 1 [[iA c]] 0 0]),(7,iA (List.length a:Int)),(8,iA z)]) (fun z=>[]) (fun b=>[]) (fun b=>[]) (fun r env st=>zaC Tryz.prog Tryz.f339 0 (iA r) [] env st) ho ⟨[],ce j0 j0<|ce j0 j0<|ce j0 j0<|ce j0 j0<|cn,j0,j5,j0,j1⟩ ?_ ?_ ?_
 ·
  rintro i r h
  replace h:zbO a c i=some r:=h
  unfold zbO at h
  refine rg j0<|u<|lss ti3 j0 j0<|za ?_
  refine zl ?_
  refine zh j0 (fun d=>?_) (fun d=>?_)
  ·
   replace h:=bT d h
   refine zk ?_
   refine zl ?_
   refine zq ?_
   refine rg j0<|u<|mv j0<|u<|asg j0<|za ?_
   obtain ⟨j,f,h⟩:=bs h
   refine rg j0<|u<|mv j0<|u<|mv j0<|u<|mv j0<|u<|ixI zoF j0 zin j0 j0 j0 f<|u<|ldI zin j0 (zp f).2.2 j0<|u<|pc (zhS j c j0) j0 j0 j0<|za ?_
   refine zh j0 (fun e=>?_) (fun e=>?_)
   ·
    replace h:=bT e h
    refine rg j0<|u<|mv j0<|u<|asg j0<|za ?_
    refine zj ?_
    obtain rfl:=sm h
    exact ⟨_,j0,_,j0,[],ci j0,j0,j5,j0,j1⟩
   ·
    replace h:=bF e h
    refine zk ?_
    refine rl j0<|u<|add ti3 j0 j0<|u<|mv j0<|za ?_
    obtain rfl:=sm h
    exact ⟨_,j0,[],ce j0 j0<|ce j0 j0<|ce j0 j0<|ce j0 j0<|cn,j0,j5,j0,j1⟩
  ·
   replace h:=bF d h
   refine zz ?_
   obtain rfl:=sm h
   exact ⟨j0,_,j0,[],cn,j0,j5,j0,j1⟩
 ·
  rintro ⟨⟩ rfl
  replace h:zbN=some r:=h
  unfold zbN at h
  refine zv ?_
  refine rg j0<|u<|asg j0<|za ?_
  refine zj ?_
  obtain rfl:=sm h
  exact ⟨_,j0,[],ci j0,j0,j5,j0,j1⟩
 ·
  rintro r' rfl env st hp
  obtain rfl:=sm h
  exact hp
def zcQ (e:List zc) (f:List (List UInt8×Int)) (i:List UInt8) (a:ze) (j:List (List UInt8)) (l:List (List UInt8)) (m:Bool) (d:Int):Option ((Option zaX)) :=
  (zb7 a.Maps d).bind fun b=>cond (decide (b < 0)) (some none) ((idx a.Maps b).bind fun c=>some (some c))
theorem zd1 (e:List zc) (f:List (List UInt8×Int)) (i:List UInt8) (d:ze) (a:List (List UInt8)) (b:List (List UInt8)) (j:Bool) (l:Int) {r:(Option zaX)} (h:zcQ e f i d a b j l=some r):SC Tryz.prog 277 [.mpt 0 0 0,iA l] [.one 15 (vK e f i d (.msl 1 0 (List.length a)) (.msl 2 0 (List.length b)) (bA j)),.many 1 (List.map zi a),.many 1 (List.map zi b)] (zk8 3 zac r) [.one 15 (vK e f i d (.msl 1 0 (List.length a)) (.msl 2 0 (List.length b)) (bA j)),.many 1 (List.map zi a),.many 1 (List.map zi b)]:=by
 refine ⟨⟨j5,zeU (sz:=1) (fun _=>j0),zeU (sz:=1) (fun _=>j0),j5⟩,zad Tryz.func277 j0 (by kernel_rfl) j0 ?_⟩
 unfold zcQ at h
 refine rg j0<|u<|bx 3 1 j0 j0 j0 j0<|u<|asg j0<|za ?_
 obtain ⟨p,n,h⟩:=bs h
 refine rg j0<|u<|mv j0<|u<|nc j0 j0<|u<|fa zS j0 j0 j0<|u<|fa zN j0 j0 j0<|u<|ld zoF j0 j0<|u<|mf j0 j0<|u<|pcs (zfq d.Maps l n) j0 j0 (.cons (si j0) (.cons (zdp j5 ⟨(zbe j0 ⟨(si j0),j5⟩),j5⟩) .nil)) zcq<|u<|asg j0<|za ?_
 refine zl ?_
 refine rg j0<|u<|mv j0<|u<|lss ti3 j0 j0<|za ?_
 refine zh j0 (fun c=>?_) (fun c=>?_)
 ·
  replace h:=bT c h
  refine rg j0<|u<|asg j0<|za ?_
  refine zj ?_
  obtain rfl:=sm h
  exact ⟨_,j0,[.old 0,.old 1,.old 2],ci j0,j0,⟨⟨_,j0,zg (zQ j0 (by exact ⟨.msl j0,.msl j0,ci j0,j5⟩))⟩,⟨_,j0,zd (fun _=>j0)⟩,⟨_,j0,zd (fun _=>j0)⟩,j5⟩,j0,j1⟩
 ·
  replace h:=bF c h
  refine zk ?_
  obtain ⟨o,m,h⟩:=bs h
  refine rg j0<|u<|mv j0<|u<|nc j0 j0<|u<|fa zS j0 j0 j0<|u<|fa zN j0 j0 j0<|u<|ld zoF j0 j0<|u<|mv j0<|u<|ixI zoF j0 zin j0 j0 j0 m<|zwM m<|u<|asg j0<|za ?_
  refine zj ?_
  obtain rfl:=sm h
  exact ⟨_,j0,[.old 0,.old 1,.old 2],ci j0,j0,⟨⟨_,j0,zg (zQ j0 (by exact ⟨.msl j0,.msl j0,ci j0,j5⟩))⟩,⟨_,j0,zd (fun _=>j0)⟩,⟨_,j0,zd (fun _=>j0)⟩,j5⟩,j0,j1⟩
def zgf (b:List zc) (c:List (List UInt8×Int)) (a:List UInt8):Option (Bool) :=
  (cond (!(a == [73])) ((zcx b c a a).bind fun d=>some d) (some false)).bind fun e=>some e
theorem zg6 (d:List zc) (e:List (List UInt8×Int)) (c:List UInt8) {r:Bool} (h:zgf d e c=some r):zu Tryz.prog 337 [.ipt 2 [[.isl 6 (List.map zb d),.imp (List.map (rKV (fun x=>iA x)) e)]] 0 0,sA c] (bA r):=by
 refine zn Tryz.func337 j0 (by kernel_rfl) j0 j0 ?_
 unfold zgf at h
 refine rg j0<|u<|asg j0<|za ?_
 obtain ⟨f,b,h⟩:=bs h
 refine rg j0<|u<|mv j0<|u<|sne ti9 j0 j0<|u<|mv j0<|za7 (x:=f) (j:=2) 4 j0 j0 j0 j0 j0 gpn (fun a=>by replace b:=bT a b; obtain ⟨l,i,b⟩:=bs b; obtain rfl:=sm b; exact g j0 a<|mv j0<|g j0 a<|mv j0<|g j0 a<|mv j0<|g j0 a<|pc (zcg d e c c i) j0 j0 j0<|za (eg [8,9,10,11] 4 j0 j0 j0 j0)) (fun hb=>(sm (bF hb b)).symm)<|u<|asg j0<|za ?_
 refine zj ?_
 obtain rfl:=sm h
 exact ⟨_,j0,[],ci j0,j0,j5,j0,j1⟩
end
end Go.Proofs.YthmnlfenkhmmhaaGreat
namespace Go.Proofs.YthmnlfenkhmmhaaGreat
noncomputable section
set_option linter.unusedSimpArgs false
set_option linter.unusedVariables false
set_option maxRecDepth 100000
set_option maxHeartbeats 4000000
def zeJ (a:List zc) (b:List (List UInt8×Int)) (d:List UInt8) (c:List UInt8):Option (Bool) :=
  (zcJ a b d).bind fun m=>(cond (!m) (some true) ((zcJ a b c).bind fun n=>some (!n))).bind fun o=>cond o (some false) (cond ((c == [84])||(d == c)) (some true) (cond (d == [78]) ((zgf a b c).bind fun p=>some p) ((zgf a b d).bind fun q=>(cond (!q) (some true) ((zgf a b c).bind fun e=>some (!e))).bind fun f=>cond f (some false) ((zE a b c).bind fun i=>(cond i.1.Interface (some true) ((zcx a b d c).bind fun j=>some j)).bind fun l=>some l))))
theorem zZ (e:List zc) (f:List (List UInt8×Int)) (p:List UInt8) (l:List UInt8) {r:Bool} (h:zeJ e f p l=some r):zu Tryz.prog 271 [.ipt 2 [[.isl 6 (List.map zb e),.imp (List.map (rKV (fun x=>iA x)) f)]] 0 0,sA p,sA l] (bA r):=by
 refine zn Tryz.func271 j0 (by kernel_rfl) j0 j0 ?_
 unfold zeJ at h
 refine rg j0<|u<|asg j0<|za ?_
 refine zl ?_
 refine zq ?_
 obtain ⟨O,H,h⟩:=bs h
 obtain ⟨I,o,h⟩:=bs h
 refine rg j0<|u<|mv j0<|u<|mv j0<|u<|pc (zcK e f p H) j0 j0 j0<|u<|nt j0<|u<|mv j0<|zfo (x:=I) (j:=4) 4 j0 j0 j0 j0 j0 gpn (fun i=>by replace o:=bF i o; obtain ⟨P,J,o⟩:=bs o; obtain rfl:=sm o; exact g j0 i<|mv j0<|g j0 i<|mv j0<|g j0 i<|pc (zcK e f l J) j0 j0 j0<|g j0 i<|nt j0<|za (eg [15,16,17,18] 4 j0 j0 j0 j0)) (fun hb=>(sm (bT hb o)).symm)<|u<|asg j0<|za ?_
 refine zh j0 (fun q=>?_) (fun q=>?_)
 ·
  replace h:=bT q h
  refine rg j0<|u<|asg j0<|za ?_
  refine zj ?_
  obtain rfl:=sm h
  exact ⟨_,j0,[],ci j0,j0,j5,j0,j1⟩
 ·
  replace h:=bF q h
  refine rg j0<|u<|mv j0<|u<|seq ti9 j0 j0<|u<|mv j0<|zfo (j:=2) 3 j0 j0 j0 j0 j0 gpn (fun n=>g j0 n<|mv j0<|g j0 n<|mv j0<|g j0 n<|seq ti9 j0 j0<|za (egO [24,25,26] 3 n j0 j0 j0 j0)) orT<|u<|asg j0<|za ?_
  refine zh j0 (fun s=>?_) (fun s=>?_)
  ·
   replace h:=bT s h
   refine rg j0<|u<|asg j0<|za ?_
   refine zj ?_
   obtain rfl:=sm h
   exact ⟨_,j0,[],ci j0,j0,j5,j0,j1⟩
  ·
   replace h:=bF s h
   refine rg j0<|u<|mv j0<|u<|seq ti9 j0 j0<|u<|asg j0<|za ?_
   refine zh j0 (fun v=>?_) (fun v=>?_)
   ·
    replace h:=bT v h
    obtain ⟨Q,K,h⟩:=bs h
    refine rg j0<|u<|mv j0<|u<|mv j0<|u<|pc (zg6 e f l K) j0 j0 j0<|u<|asg j0<|za ?_
    refine zj ?_
    obtain rfl:=sm h
    exact ⟨_,j0,[],ci j0,j0,j5,j0,j1⟩
   ·
    replace h:=bF v h
    obtain ⟨R,B,h⟩:=bs h
    obtain ⟨C,c,h⟩:=bs h
    refine rg j0<|u<|mv j0<|u<|mv j0<|u<|pc (zg6 e f p B) j0 j0 j0<|u<|nt j0<|u<|mv j0<|zfo (x:=C) (j:=4) 4 j0 j0 j0 j0 j0 gpn (fun a=>by replace c:=bF a c; obtain ⟨L,D,c⟩:=bs c; obtain rfl:=sm c; exact g j0 a<|mv j0<|g j0 a<|mv j0<|g j0 a<|pc (zg6 e f l D) j0 j0 j0<|g j0 a<|nt j0<|za (eg [40,41,42,43] 4 j0 j0 j0 j0)) (fun hb=>(sm (bT hb c)).symm)<|u<|asg j0<|za ?_
    refine zh j0 (fun m=>?_) (fun m=>?_)
    ·
     replace h:=bT m h
     refine rg j0<|u<|asg j0<|za ?_
     refine zj ?_
     obtain rfl:=sm h
     exact ⟨_,j0,[],ci j0,j0,j5,j0,j1⟩
    ·
     replace h:=bF m h
     refine zk ?_
     obtain ⟨M,E,h⟩:=bs h
     refine rg j0<|u<|mv j0<|u<|mv j0<|u<|pc (zy e f l E) j0 j0 j0<|u<|mv j0<|u<|ex j0 j0<|u<|ex j0 j0<|u<|al 0 zaf j0<|u<|sto zaf j0 j0 j0<|u<|asg j0<|za ?_
     obtain ⟨F,d,h⟩:=bs h
     refine rg j0<|u<|fa zaf j0 j0 j0<|u<|ld ti4 j0 j0<|u<|mv j0<|zfo (x:=F) (j:=2) 4 j0 j0 j0 j0 j0 gpn (fun b=>by replace d:=bF b d; obtain ⟨N,G,d⟩:=bs d; obtain rfl:=sm d; exact g j0 b<|mv j0<|g j0 b<|mv j0<|g j0 b<|mv j0<|g j0 b<|pc (zcg e f p l G) j0 j0 j0<|za (eg [54,55,56,57] 4 j0 j0 j0 j0)) (fun hb=>(sm (bT hb d)).symm)<|u<|asg j0<|za ?_
     refine zj ?_
     obtain rfl:=sm h
     exact ⟨_,j0,[],ci j0,j0,j5,j0,j1⟩
def zg4:Option (Bool) :=
  some true
def zg5 (f:List zc) (i:List (List UInt8×Int)) (b:List (List UInt8)) (j:List (List UInt8)) (a:Int):Option (Sum (Int) (Sum (Unit) (Bool))) :=
  cond (decide (a < (List.length b:Int))) ((idx b a).bind fun c=>(idx j a).bind fun d=>(zeJ f i c d).bind fun e=>cond (!e) (some (.inr (.inr false))) (some (.inl (IntKind.i64.wrap (a+1))))) (some (.inr (.inl ())))
def zhk (d:List zc) (e:List (List UInt8×Int)) (a:List (List UInt8)) (c:List (List UInt8)):Option (Bool) :=
  cond (!((List.length a:Int) == (List.length c:Int))) (some false) ((zab (fun z=>zg5 d e a c z) 0).bind fun o=>zaJ o (fun b=>zg4) some)
theorem zi9 (c:List zc) (d:List (List UInt8×Int)) (a:List (List UInt8)) (e:List (List UInt8)) {r:Bool} (h:zhk c d a e=some r):zu Tryz.prog 272 [.ipt 2 [[.isl 6 (List.map zb c),.imp (List.map (rKV (fun x=>iA x)) d)]] 0 0,.isl 1 (List.map zi a),.isl 1 (List.map zi e)] (bA r):=by
 refine zn Tryz.func272 j0 (by kernel_rfl) j0 j0 ?_
 unfold zhk at h
 refine rg j0<|u<|asg j0<|za ?_
 refine zl ?_
 refine rg j0<|u<|mv j0<|u<|lnI zM j0 j0<|u<|mv j0<|u<|lnI zM j0 j0<|u<|neq ti3 j0 j0<|za ?_
 refine zh j0 (fun j=>?_) (fun j=>?_)
 ·
  replace h:=bT j h
  refine rg j0<|u<|asg j0<|za ?_
  refine zj ?_
  obtain rfl:=sm h
  exact ⟨_,j0,[],ci j0,j0,j5,j0,j1⟩
 ·
  replace h:=bF j h
  refine zk ?_
  refine zl ?_
  refine rg j0<|u<|mv j0<|u<|lnI zM j0 j0<|u<|mv j0<|za ?_
  obtain ⟨o,ho,h⟩:=bs h
  refine zT (X:=Int) (B:=Unit) (R:=Bool) (fun z=>[(0,.ipt 2 [[.isl 6 (List.map zb c),.imp (List.map (rKV (fun x=>iA x)) d)]] 0 0),(1,.isl 1 (List.map zi a)),(2,.isl 1 (List.map zi e)),(14,iA (List.length a:Int)),(15,iA z)]) (fun z=>[]) (fun b=>[]) (fun b=>[]) (fun r env st=>zaC Tryz.prog Tryz.f272 0 (bA r) [] env st) ho ⟨[],ce j0 j0<|ce j0 j0<|ce j0 j0<|ce j0 j0<|ce j0 j0<|cn,j0,j5,j0,j1⟩ ?_ ?_ ?_
  ·
   rintro i r h
   replace h:zg5 c d a e i=some r:=h
   unfold zg5 at h
   refine rg j0<|u<|lss ti3 j0 j0<|za ?_
   refine zl ?_
   refine zh j0 (fun l=>?_) (fun l=>?_)
   ·
    replace h:=bT l h
    refine zk ?_
    refine zl ?_
    refine zq ?_
    refine rg j0<|u<|mv j0<|u<|asg j0<|za ?_
    obtain ⟨n,q,h⟩:=bs h
    obtain ⟨p,s,h⟩:=bs h
    obtain ⟨m,v,h⟩:=bs h
    refine rd [(0,.ipt 2 [[.isl 6 (List.map zb c),.imp (List.map (rKV (fun x=>iA x)) d)]] 0 0),(1,.isl 1 (List.map zi a)),(2,.isl 1 (List.map zi e)),(14,iA (List.length a:Int)),(15,iA i),(28,bA (!m))] [] [] [10,9,8,7,6,5,4,3,2,1,0] [(28,bA (!m)),(27,bA m),(26,sA p),(25,.ipt 1 (List.map zi e) (Int.toNat i) 0),(24,iA i),(23,.isl 1 (List.map zi e)),(22,sA n),(21,.ipt 1 (List.map zi a) (Int.toNat i) 0),(20,iA i),(19,.isl 1 (List.map zi a)),(18,.ipt 2 [[.isl 6 (List.map zb c),.imp (List.map (rKV (fun x=>iA x)) d)]] 0 0)] 0 (by kernel_rfl) (by kernel_rfl) j0 (by kernel_rfl) (dt0 ⟨(fun _=>pa j0 j0 j0 j0 (nt j0<|j4)),(fun _=>pa j0 j0 j0 j0 (pc (zZ c d n p v) j0 j0 j0<|j4)),(fun _=>pa j0 j0 j0 j0 (ldI ti9 j0 (zp s).2.2 j0<|j4)),(fun _=>pa j0 j0 j0 j0 (ixI zM j0 ti9 j0 j0 j0 s<|j4)),(fun _=>pa j0 j0 j0 j0 (mv j0<|j4)),(fun _=>pa j0 j0 j0 j0 (mv j0<|j4)),(fun _=>pa j0 j0 j0 j0 (ldI ti9 j0 (zp q).2.2 j0<|j4)),(fun _=>pa j0 j0 j0 j0 (ixI zM j0 ti9 j0 j0 j0 q<|j4)),(fun _=>pa j0 j0 j0 j0 (mv j0<|j4)),(fun _=>pa j0 j0 j0 j0 (mv j0<|j4)),(fun _=>pa j0 j0 j0 j0 (mv j0<|j4)),j5⟩ (by kernel_rfl) j0 ⟨[],ce j0 j0<|ce j0 j0<|ce j0 j0<|ce j0 j0<|ce j0 j0<|ce j0 j0<|cn,j0,j5,j0,j1⟩) ?_
    refine zh j0 (fun f=>?_) (fun f=>?_)
    ·
     replace h:=bT f h
     refine rg j0<|u<|asg j0<|za ?_
     refine zj ?_
     obtain rfl:=sm h
     exact ⟨_,j0,_,j0,[],ci j0,j0,j5,j0,j1⟩
    ·
     replace h:=bF f h
     refine zk ?_
     refine rl j0<|u<|add ti3 j0 j0<|u<|mv j0<|za ?_
     obtain rfl:=sm h
     exact ⟨_,j0,[],ce j0 j0<|ce j0 j0<|ce j0 j0<|ce j0 j0<|ce j0 j0<|cn,j0,j5,j0,j1⟩
   ·
    replace h:=bF l h
    refine zz ?_
    obtain rfl:=sm h
    exact ⟨j0,_,j0,[],cn,j0,j5,j0,j1⟩
  ·
   rintro ⟨⟩ rfl
   replace h:zg4=some r:=h
   unfold zg4 at h
   refine zv ?_
   refine rg j0<|u<|asg j0<|za ?_
   refine zj ?_
   obtain rfl:=sm h
   exact ⟨_,j0,[],ci j0,j0,j5,j0,j1⟩
  ·
   rintro r' rfl env st hp
   obtain rfl:=sm h
   exact hp
def zgH (a:List zc) (b:List (List UInt8×Int)) (c:zaX) (d:List (List UInt8)) (e:List (List UInt8)):Option (Bool) :=
  (zhk a b d c.Locals).bind fun f=>(cond f ((zhk a b e c.Stack).bind fun i=>some i) (some false)).bind fun j=>some j
theorem zip (c:List zc) (d:List (List UInt8×Int)) (e:zaX) (f:List (List UInt8)) (i:List (List UInt8)) {r:Bool} (h:zgH c d e f i=some r):zu Tryz.prog 273 [.ipt 2 [[.isl 6 (List.map zb c),.imp (List.map (rKV (fun x=>iA x)) d)]] 0 0,.agg (zac e),.isl 1 (List.map zi f),.isl 1 (List.map zi i)] (bA r):=by
 refine zn Tryz.func273 j0 (by kernel_rfl) j0 j0 ?_
 unfold zgH at h
 refine rg j0<|u<|bx 0 3 j0 j0 j0 j0<|u<|asg j0<|za ?_
 obtain ⟨o,l,h⟩:=bs h
 obtain ⟨m,b,h⟩:=bs h
 refine rg j0<|u<|mv j0<|u<|mv j0<|u<|fa zin j0 j0 j0<|u<|ld zM j0 j0<|u<|pc (zi9 c d f e.Locals l) j0 j0 j0<|u<|mv j0<|za7 (x:=m) (j:=5) 5 j0 j0 j0 j0 j0 gpn (fun a=>by replace b:=bT a b; obtain ⟨p,n,b⟩:=bs b; obtain rfl:=sm b; exact g j0 a<|mv j0<|g j0 a<|mv j0<|g j0 a<|fa zin j0 j0 j0<|g j0 a<|ld zM j0 j0<|g j0 a<|pc (zi9 c d i e.Stack n) j0 j0 j0<|za (eg [15,16,17,18,19] 5 j0 j0 j0 j0)) (fun hb=>(sm (bF hb b)).symm)<|u<|asg j0<|za ?_
 refine zj ?_
 obtain rfl:=sm h
 exact ⟨_,j0,[],ci j0,j0,j5,j0,j1⟩
def zdx (b:List zc) (c:List (List UInt8×Int)) (j:List UInt8) (l:ze) (d:List (List UInt8)) (e:List (List UInt8)) (a:Bool) (m:Int):Option (Bool) :=
  (zcQ b c j l d e a m).bind fun n=>zst n (some (a||(!false))) (fun f=>(zgH b c f d e).bind fun i=>some (a||(!i)))
theorem zfR (e:List zc) (f:List (List UInt8×Int)) (i:List UInt8) (j:ze) (d:List (List UInt8)) (a:List (List UInt8)) (l:Bool) (n:Int) {r:Bool} (h:zdx e f i j d a l n=some r):SC Tryz.prog 202 [.mpt 0 0 0,iA n,.msl 2 0 (List.length a)] [.one 15 (vK e f i j (.msl 1 0 (List.length d)) (.msl 2 0 (List.length a)) (bA l)),.many 1 (List.map zi d),.many 1 (List.map zi a)] (.tup []) [.one 15 (vK e f i j (.msl 1 0 (List.length d)) (.msl 2 0 (List.length a)) (bA r)),.many 1 (List.map zi d),.many 1 (List.map zi a)]:=by
 refine ⟨⟨j5,zeU (sz:=1) (fun _=>j0),zeU (sz:=1) (fun _=>j0),j5⟩,zad Tryz.func202 j0 (by kernel_rfl) j0 ?_⟩
 unfold zdx at h
 obtain ⟨o,p,h⟩:=bs h
 refine rg j0<|u<|mv j0<|u<|mv j0<|u<|sc [0,1,2] (zd1 e f i j d a l n p) j0 j0 j0 j0 ⟨(.mpt j0),(rnI j0),j5⟩ ⟨⟨_,j0,(zcH j0 ⟨(.msl j0),(.msl j0),(rnI j0),j5⟩)⟩,⟨j0,mkI (fun _=>j0)⟩,⟨j0,mkI (fun _=>j0)⟩,j5⟩<|zvX zrE<|zB (env0:=[(0,.mpt 0 0 0),(2,.msl 2 0 (List.length a)),(9,zk8 3 zac o)]) (st0:=[some (15,[(vK e f i j (.msl 1 0 (List.length d)) (.msl 2 0 (List.length a)) (bA l))]),some (1,List.map zi d),some (1,List.map zi a)]) ⟨[.old 0,.old 1,.old 2],cv j0 (.mpt j0)<|cv j0 (.msl j0)<|cv j0 (ci (znq (fun _=>j0)))<|cn,j0,⟨⟨_,j0,zg (zQ j0 (by exact ⟨.msl j0,.msl j0,ci j0,j5⟩))⟩,⟨_,j0,zd (fun _=>j0)⟩,⟨_,j0,zd (fun _=>j0)⟩,j5⟩,j0,j1⟩<|u<|asg j0<|za ?_
 rcases o with _ | c
 ·
  replace h:=oeN h
  refine rdL [] [some (15,[(vK e f i j (.msl 1 0 (List.length d)) (.msl 2 0 (List.length a)) (bA (l||(!false))))]),some (1,List.map zi d),some (1,List.map zi a)] [18] [17,16,15,14,13,12,11,10,9,8,7,6,5,4,3,2,1,0] [(27,bA false),(26,.lit undef),(25,.lit undef),(24,.lit undef),(23,.lit undef),(22,.lit undef),(21,.lit undef),(20,.lit undef),(19,.lit undef),(18,.lit undef),(17,.lit undef),(16,.lit undef),(15,.lit undef),(14,.lit undef),(13,bA false),(12,bA false),(11,.lit (.pointer none)),(10,.mpt 0 0 0)] 1 (by kernel_rfl) (by kernel_rfl) j0 (by kernel_rfl) (dtS ⟨(fun _=>pa j0 j0 j0 j0 (pk (b:=false) j0 j0<|j4)),(fun _=>pas (b:=false) j0 j0 j0 j0 j0 j0),(fun _=>pas (b:=false) j0 j0 j0 j0 j0 j0),(fun _=>pas (b:=false) j0 j0 j0 j0 j0 j0),(fun _=>pas (b:=false) j0 j0 j0 j0 j0 j0),(fun _=>pas (b:=false) j0 j0 j0 j0 j0 j0),(fun _=>pas (b:=false) j0 j0 j0 j0 j0 j0),(fun _=>pas (b:=false) j0 j0 j0 j0 j0 j0),(fun _=>pas (b:=false) j0 j0 j0 j0 j0 j0),(fun _=>pas (b:=false) j0 j0 j0 j0 j0 j0),(fun _=>pas (b:=false) j0 j0 j0 j0 j0 j0),(fun _=>pas (b:=false) j0 j0 j0 j0 j0 j0),(fun _=>pas (b:=false) j0 j0 j0 j0 j0 j0),(fun _=>pas (b:=false) j0 j0 j0 j0 j0 j0),(fun _=>pa j0 j0 j0 j0 (mv j0<|j4)),(fun _=>pa j0 j0 j0 j0 (nep znL j0 j0 j0 j0 j0 j0<|j4)),(fun _=>pa j0 j0 j0 j0 (mv j0<|j4)),(fun _=>pa j0 j0 j0 j0 (mv j0<|j4)),j5⟩ (by kernel_rfl) j0 ⟨(fun _ _=>⟨_,j0,j0,sc [0,1,2] (args:=[.mpt 0 0 0,bA false]) (zo e f i j d a l false j0) j0 j0 j0 j0 ⟨(.mpt j0),(rnI j0),j5⟩ ⟨⟨_,j0,(zcH j0 ⟨(.msl j0),(.msl j0),(rnI j0),j5⟩)⟩,⟨j0,mkI (fun _=>j0)⟩,⟨j0,mkI (fun _=>j0)⟩,j5⟩<|⟨(.tup []),[],[(28,.tup [])],j0,j0,by kernel_rfl,j0,dt0 ⟨(fun h=>by cases h),(fun h=>by cases h),(fun _=>pas (b:=false) j0 j0 j0 j0 j0 j0),(fun _=>pas (b:=false) j0 j0 j0 j0 j0 j0),(fun _=>pas (b:=false) j0 j0 j0 j0 j0 j0),(fun _=>pas (b:=false) j0 j0 j0 j0 j0 j0),(fun _=>pas (b:=false) j0 j0 j0 j0 j0 j0),(fun _=>pas (b:=false) j0 j0 j0 j0 j0 j0),(fun _=>pas (b:=false) j0 j0 j0 j0 j0 j0),(fun _=>pas (b:=false) j0 j0 j0 j0 j0 j0),(fun _=>pas (b:=false) j0 j0 j0 j0 j0 j0),(fun _=>pas (b:=false) j0 j0 j0 j0 j0 j0),(fun _=>pas (b:=false) j0 j0 j0 j0 j0 j0),(fun _=>pas (b:=false) j0 j0 j0 j0 j0 j0),(fun _=>pa j0 j0 j0 j0 (mv j0<|j4)),(fun _=>pa j0 j0 j0 j0 (nep znL j0 j0 j0 j0 j0 j0<|j4)),(fun _=>pa j0 j0 j0 j0 (mv j0<|j4)),(fun h=>by cases h),j5⟩ (by kernel_rfl) j0 ⟨[.old 0,.old 1,.old 2],cn,j0,⟨⟨_,j0,zg (zQ j0 (by exact ⟨.msl j0,.msl j0,ci j0,j5⟩))⟩,⟨_,j0,zd (fun _=>j0)⟩,⟨_,j0,zd (fun _=>j0)⟩,j5⟩,j0,j1⟩⟩⟩),j5⟩) ?_
  obtain rfl:=sm h
  exact ⟨_,j0,[.old 0,.old 1,.old 2],z8 j5,j0,⟨⟨_,j0,zg (zQ j0 (by exact ⟨.msl j0,.msl j0,ci j0,j5⟩))⟩,⟨_,j0,zd (fun _=>j0)⟩,⟨_,j0,zd (fun _=>j0)⟩,j5⟩,j0,j1⟩
 ·
  replace h:=oeS h
  obtain ⟨m,q,h⟩:=bs h
  refine rdL [] [some (15,[(vK e f i j (.msl 1 0 (List.length d)) (.msl 2 0 (List.length a)) (bA (l||(!m))))]),some (1,List.map zi d),some (1,List.map zi a)] [18] [17,16,15,14,13,12,11,10,9,8,7,6,5,4,3,2,1,0] [(27,bA m),(26,bA m),(25,.msl 2 0 (List.length a)),(24,.msl 1 0 (List.length d)),(23,.mpt 0 0 12),(22,.mpt 0 0 0),(21,.mpt 0 0 0),(20,.agg (zac c)),(19,.ipt 3 [[iA c.At,.isl 1 (List.map zi c.Locals),.isl 1 (List.map zi c.Stack)]] 0 0),(18,.ipt 3 [[iA c.At,.isl 1 (List.map zi c.Locals),.isl 1 (List.map zi c.Stack)]] 0 0),(17,.ipt 2 [[.isl 6 (List.map zb e),.imp (List.map (rKV (fun x=>iA x)) f)]] 0 0),(16,.mpt 0 0 0),(15,.mpt 0 0 0),(14,.mpt 0 0 0),(13,bA true),(12,bA true),(11,.ipt 3 [[iA c.At,.isl 1 (List.map zi c.Locals),.isl 1 (List.map zi c.Stack)]] 0 0),(10,.mpt 0 0 0)] 1 (by kernel_rfl) (by kernel_rfl) j0 (by kernel_rfl) (dtS ⟨(fun _=>pa j0 j0 j0 j0 (pk (b:=true) j0 j0<|j4)),(fun _=>pag (b:=true) j0 j0 j0 j0 j0 j0 (pcs (zip e f c d a q) j0 j0 (.cons (si j0) (.cons (si j0) (.cons (zi5 j0 (fun _=>j0)) (.cons (zi5 j0 (fun _=>j0)) .nil)))) zcq<|j4)),(fun _=>pag (b:=true) j0 j0 j0 j0 j0 j0 (mv j0<|j4)),(fun _=>pag (b:=true) j0 j0 j0 j0 j0 j0 (ld zM j0 j0<|j4)),(fun _=>pag (b:=true) j0 j0 j0 j0 j0 j0 (fa zS j0 j0 j0<|j4)),(fun _=>pag (b:=true) j0 j0 j0 j0 j0 j0 (nc j0 j0<|j4)),(fun _=>pag (b:=true) j0 j0 j0 j0 j0 j0 (mv j0<|j4)),(fun _=>pag (b:=true) j0 j0 j0 j0 j0 j0 (ld zin j0 j0<|j4)),(fun _=>pag (b:=true) j0 j0 j0 j0 j0 j0 (nc j0 j0<|j4)),(fun _=>pag (b:=true) j0 j0 j0 j0 j0 j0 (mv j0<|j4)),(fun _=>pag (b:=true) j0 j0 j0 j0 j0 j0 (ld zez j0 j0<|j4)),(fun _=>pag (b:=true) j0 j0 j0 j0 j0 j0 (fa zS j0 j0 j0<|j4)),(fun _=>pag (b:=true) j0 j0 j0 j0 j0 j0 (nc j0 j0<|j4)),(fun _=>pag (b:=true) j0 j0 j0 j0 j0 j0 (mv j0<|j4)),(fun _=>pa j0 j0 j0 j0 (mv j0<|j4)),(fun _=>pa j0 j0 j0 j0 (nep znL j0 j0 j0 j0 j0 j0<|j4)),(fun _=>pa j0 j0 j0 j0 (mv j0<|j4)),(fun _=>pa j0 j0 j0 j0 (mv j0<|j4)),j5⟩ (by kernel_rfl) j0 ⟨(fun _ _=>⟨_,j0,j0,sc [0,1,2] (args:=[.mpt 0 0 0,bA m]) (zo e f i j d a l m j0) j0 j0 j0 j0 ⟨(.mpt j0),(rnI j0),j5⟩ ⟨⟨_,j0,(zcH j0 ⟨(.msl j0),(.msl j0),(rnI j0),j5⟩)⟩,⟨j0,mkI (fun _=>j0)⟩,⟨j0,mkI (fun _=>j0)⟩,j5⟩<|⟨(.tup []),[],[(28,.tup [])],j0,j0,by kernel_rfl,j0,dt0 ⟨(fun h=>by cases h),(fun h=>by cases h),(fun _=>pag (b:=true) j0 j0 j0 j0 j0 j0 (mv j0<|j4)),(fun _=>pag (b:=true) j0 j0 j0 j0 j0 j0 (ld zM j0 j0<|j4)),(fun _=>pag (b:=true) j0 j0 j0 j0 j0 j0 (fa zS j0 j0 j0<|j4)),(fun _=>pag (b:=true) j0 j0 j0 j0 j0 j0 (nc j0 j0<|j4)),(fun _=>pag (b:=true) j0 j0 j0 j0 j0 j0 (mv j0<|j4)),(fun _=>pag (b:=true) j0 j0 j0 j0 j0 j0 (ld zin j0 j0<|j4)),(fun _=>pag (b:=true) j0 j0 j0 j0 j0 j0 (nc j0 j0<|j4)),(fun _=>pag (b:=true) j0 j0 j0 j0 j0 j0 (mv j0<|j4)),(fun _=>pag (b:=true) j0 j0 j0 j0 j0 j0 (ld zez j0 j0<|j4)),(fun _=>pag (b:=true) j0 j0 j0 j0 j0 j0 (fa zS j0 j0 j0<|j4)),(fun _=>pag (b:=true) j0 j0 j0 j0 j0 j0 (nc j0 j0<|j4)),(fun _=>pag (b:=true) j0 j0 j0 j0 j0 j0 (mv j0<|j4)),(fun _=>pa j0 j0 j0 j0 (mv j0<|j4)),(fun _=>pa j0 j0 j0 j0 (nep znL j0 j0 j0 j0 j0 j0<|j4)),(fun _=>pa j0 j0 j0 j0 (mv j0<|j4)),(fun h=>by cases h),j5⟩ (by kernel_rfl) j0 ⟨[.old 0,.old 1,.old 2],cn,j0,⟨⟨_,j0,zg (zQ j0 (by exact ⟨.msl j0,.msl j0,ci j0,j5⟩))⟩,⟨_,j0,zd (fun _=>j0)⟩,⟨_,j0,zd (fun _=>j0)⟩,j5⟩,j0,j1⟩⟩⟩),j5⟩) ?_
  obtain rfl:=sm h
  exact ⟨_,j0,[.old 0,.old 1,.old 2],z8 j5,j0,⟨⟨_,j0,zg (zQ j0 (by exact ⟨.msl j0,.msl j0,ci j0,j5⟩))⟩,⟨_,j0,zd (fun _=>j0)⟩,⟨_,j0,zd (fun _=>j0)⟩,j5⟩,j0,j1⟩
def zoe (a:List (List UInt8)):Option (List (List UInt8)):=zjq 16 ([]:List (List UInt8)) a
theorem zl2 (a:List (List UInt8)) {r:List (List UInt8)} (h:zoe a=some r):SC Tryz.prog 130 [.isl 1 (List.map zi a)] [] (.msl 0 0 (List.length r)) [.many 1 (List.map zi r)]:=by
 refine ⟨⟨zeU (sz:=1) (fun _=>j0),j5⟩,zad Tryz.func130 j0 (by kernel_rfl) j0 ?_⟩
 unfold zoe at h
 refine rg j0<|u<|asg j0<|za ?_
 refine zl ?_
 refine rg j0<|u<|mv j0<|zvV zM j0 j0 j0<|And.intro ?_ ?_
 · intro hl
   refine za ?_
   subst hl
   obtain rfl:[]=r:=by simpa [zjq] using h
   refine zh j0 (fun _=>?_) (fun hx=>by cases hx)
   refine rg j0<|u<|asg j0<|za ?_
   refine zj ?_
   exact ⟨_,j0,[.fresh 1],.nilown j0,j0,⟨j4,j5⟩,j0,j1⟩
 · refine za ?_
   refine zh j0 (fun hx=>by cases hx) (fun _=>?_)
   refine zk ?_
   refine rg j0<|u<|bl 0 zM j0 ti9 j0 (by decide) (by decide) j0 j0 j0<|u<|mv j0<|u<|apM (l:=([]:List (List UInt8))) (f:=zi) 1 zM j0 ti9 j0 j0 (by decide) zM j0 j0 j0 j0 roI (fun _=>j0) j0 h<|u<|asg j0<|za ?_
   refine zj ?_
   exact ⟨_,j0,[.old 1],.msl j0,j0,⟨⟨_,j0,zd (fun _=>j0)⟩,j5⟩,j0,j1⟩
def zb2 (b:(Option zaX)) (c:Bool):Option ((List (List UInt8))×(List (List UInt8))×Bool) :=
  zst b (none) (fun a=>(zoe a.Locals).bind fun d=>(zoe a.Stack).bind fun e=>some (d,e,c))
def zeQ (e:List zc) (f:List (List UInt8×Int)) (i:List UInt8) (j:ze) (c:List (List UInt8)) (d:List (List UInt8)) (b:Bool) (l:Int) (m:Bool):Option ((List (List UInt8))×(List (List UInt8))×Bool) :=
  (zcQ e f i j c d b l).bind fun a=>cond (Option.isNone a) (some (c,d,(b||(!m)))) (cond m ((zdx e f i j c d b l).bind fun n=>zb2 a n) (zb2 a b))
theorem zih (d:List zc) (e:List (List UInt8×Int)) (f:List UInt8) (i:ze) (b:List (List UInt8)) (c:List (List UInt8)) (l:Bool) (o:Int) (p:Bool) {r:(List (List UInt8))×(List (List UInt8))×Bool} (h:zeQ d e f i b c l o p=some r):SC Tryz.prog 198 [.mpt 0 0 0,iA o,bA p] [.one 15 (vK d e f i (.msl 1 0 (List.length b)) (.msl 2 0 (List.length c)) (bA l)),.many 1 (List.map zi b),.many 1 (List.map zi c)] (.tup []) [.one 15 (vK d e f i (.msl 3 0 (List.length r.1)) (.msl 4 0 (List.length r.2.1)) (bA r.2.2)),.no,.no,.many 1 (List.map zi r.1),.many 1 (List.map zi r.2.1)]:=by
 refine ⟨⟨j5,j5,j5,zeU (sz:=1) (fun _=>j0),zeU (sz:=1) (fun _=>j0),j5⟩,zad Tryz.func198 j0 (by kernel_rfl) j0 ?_⟩
 unfold zeQ at h
 obtain ⟨j,B,h⟩:=bs h
 refine rg j0<|u<|mv j0<|u<|mv j0<|u<|sc [0,1,2] (zd1 d e f i b c l o B) j0 j0 j0 j0 ⟨(.mpt j0),(rnI j0),j5⟩ ⟨⟨_,j0,(zcH j0 ⟨(.msl j0),(.msl j0),(rnI j0),j5⟩)⟩,⟨j0,mkI (fun _=>j0)⟩,⟨j0,mkI (fun _=>j0)⟩,j5⟩<|zvX zrE<|zB (env0:=[(0,.mpt 0 0 0),(1,iA o),(2,bA p),(9,zk8 3 zac j)]) (st0:=[some (15,[(vK d e f i (.msl 1 0 (List.length b)) (.msl 2 0 (List.length c)) (bA l))]),some (1,List.map zi b),some (1,List.map zi c)]) ⟨[.old 0,.old 1,.old 2],cv j0 (.mpt j0)<|ce j0 j0<|ce j0 j0<|cv j0 (ci (znq (fun _=>j0)))<|cn,j0,⟨⟨_,j0,zg (zQ j0 (by exact ⟨.msl j0,.msl j0,ci j0,j5⟩))⟩,⟨_,j0,zd (fun _=>j0)⟩,⟨_,j0,zd (fun _=>j0)⟩,j5⟩,j0,j1⟩<|u<|asg j0<|za ?_
 refine zl ?_
 refine rg j0<|u<|mv j0<|u<|zwr znL j0 j0 j0<|za ?_
 refine zh j0 (fun q=>?_) (fun q=>?_)
 ·
  replace h:=bT q h
  refine rg j0<|u<|mv j0<|u<|mv j0<|u<|sc [0,1,2] (zo d e f i b c l p j0) j0 j0 j0 j0 ⟨(.mpt j0),(rnI j0),j5⟩ ⟨⟨_,j0,(zcH j0 ⟨(.msl j0),(.msl j0),(rnI j0),j5⟩)⟩,⟨j0,mkI (fun _=>j0)⟩,⟨j0,mkI (fun _=>j0)⟩,j5⟩<|zB (env0:=[]) (st0:=[some (15,[(vK d e f i (.msl 1 0 (List.length b)) (.msl 2 0 (List.length c)) (bA (l||(!p))))]),some (1,List.map zi b),some (1,List.map zi c)]) ⟨[.old 0,.old 1,.old 2],cn,j0,⟨⟨_,j0,zg (zQ j0 (by exact ⟨.msl j0,.msl j0,ci j0,j5⟩))⟩,⟨_,j0,zd (fun _=>j0)⟩,⟨_,j0,zd (fun _=>j0)⟩,j5⟩,j0,j1⟩<|za ?_
  refine zj ?_
  obtain rfl:=sm h
  exact ⟨_,j0,[.old 0,.dead,.dead,.old 1,.old 2],z8 j5,j0,⟨⟨_,j0,zg (zQ j0 (by exact ⟨.msl j0,.msl j0,ci j0,j5⟩))⟩,⟨_,j0,zd (fun _=>j0)⟩,⟨_,j0,zd (fun _=>j0)⟩,j5⟩,j0,j1⟩
 ·
  replace h:=bF q h
  refine zk ?_
  refine zcD (X:=Bool) (fun z=>[(0,.mpt 0 0 0),(6,zk8 3 zac j)]) (fun z=>[some (15,[(vK d e f i (.msl 1 0 (List.length b)) (.msl 2 0 (List.length c)) (bA z))]),some (1,List.map zi b),some (1,List.map zi c)]) (fun z=>zb2 j z=some r) ?_ ?_
  ·
   refine rg j0<|u<|mv j0<|za ?_
   refine zh j0 (fun s=>?_) (fun s=>?_)
   ·
    replace h:=bT s h
    obtain ⟨v,C,h⟩:=bs h
    exact rl j0<|u<|mv j0<|u<|mv j0<|u<|mv j0<|u<|nc j0 j0<|u<|fa zS j0 j0 j0<|u<|ld zM j0 j0<|u<|sc [0,1,2] (zfR d e f i b c l o C) j0 j0 j0 j0 ⟨(.mpt j0),(rnI j0),(.msl j0),j5⟩ ⟨⟨_,j0,(zcH j0 ⟨(.msl j0),(.msl j0),(rnI j0),j5⟩)⟩,⟨j0,mkI (fun _=>j0)⟩,⟨j0,mkI (fun _=>j0)⟩,j5⟩<|zB (env0:=[(0,.mpt 0 0 0),(6,zk8 3 zac j)]) (st0:=[some (15,[(vK d e f i (.msl 1 0 (List.length b)) (.msl 2 0 (List.length c)) (bA v))]),some (1,List.map zi b),some (1,List.map zi c)]) ⟨[.old 0,.old 1,.old 2],cv j0 (.mpt j0)<|cv j0 (ci (znq (fun _=>j0)))<|cn,j0,⟨⟨_,j0,zg (zQ j0 (by exact ⟨.msl j0,.msl j0,ci j0,j5⟩))⟩,⟨_,j0,zd (fun _=>j0)⟩,⟨_,j0,zd (fun _=>j0)⟩,j5⟩,j0,j1⟩<|za (⟨v,h,[.old 0,.old 1,.old 2],cv j0 (.mpt j0)<|cv j0 (ci (znq (fun _=>j0)))<|cn,j0,⟨⟨_,j0,zg (zQ j0 (by exact ⟨.msl j0,.msl j0,ci j0,j5⟩))⟩,⟨_,j0,zd (fun _=>j0)⟩,⟨_,j0,zd (fun _=>j0)⟩,j5⟩,j0,j1⟩)
   ·
    replace h:=bF s h
    refine zk ?_
    exact ⟨l,h,[.old 0,.old 1,.old 2],cv j0 (.mpt j0)<|cv j0 (ci (znq (fun _=>j0)))<|cn,j0,⟨⟨_,j0,zg (zQ j0 (by exact ⟨.msl j0,.msl j0,ci j0,j5⟩))⟩,⟨_,j0,zd (fun _=>j0)⟩,⟨_,j0,zd (fun _=>j0)⟩,j5⟩,j0,j1⟩
  ·
   rintro x h
   replace h:zb2 j x=some r:=h
   unfold zb2 at h
   rcases j with _ | a
   ·
    replace h:=oeN h
    cases h
   ·
    replace h:=oeS h
    obtain ⟨m,D,h⟩:=bs h
    obtain ⟨n,E,h⟩:=bs h
    refine rdL [] [some (15,[(vK d e f i (.msl 3 0 (List.length m)) (.msl 4 0 (List.length n)) (bA x))]),some (1,List.map zi b),some (1,List.map zi c),some (1,List.map zi m),some (1,List.map zi n)] [6,11,14,17] [10,9,8,7,5,4,3,2,1,0] [(33,.isl 1 (List.map zi a.Stack)),(32,.ipt 3 [[iA a.At,.isl 1 (List.map zi a.Locals),.isl 1 (List.map zi a.Stack)]] 0 2),(31,.ipt 3 [[iA a.At,.isl 1 (List.map zi a.Locals),.isl 1 (List.map zi a.Stack)]] 0 0),(30,.ipt 3 [[iA a.At,.isl 1 (List.map zi a.Locals),.isl 1 (List.map zi a.Stack)]] 0 0),(28,.isl 1 (List.map zi a.Locals)),(27,.ipt 3 [[iA a.At,.isl 1 (List.map zi a.Locals),.isl 1 (List.map zi a.Stack)]] 0 1),(26,.ipt 3 [[iA a.At,.isl 1 (List.map zi a.Locals),.isl 1 (List.map zi a.Stack)]] 0 0),(25,.ipt 3 [[iA a.At,.isl 1 (List.map zi a.Locals),.isl 1 (List.map zi a.Stack)]] 0 0),(24,.mpt 0 0 0),(23,.mpt 0 0 0)] 4 (by kernel_rfl) (by kernel_rfl) j0 (by kernel_rfl) (dtS ⟨(fun _=>pa j0 j0 j0 j0 (ld zM j0 j0<|j4)),(fun _=>pa j0 j0 j0 j0 (fa zin j0 j0 j0<|j4)),(fun _=>pa j0 j0 j0 j0 (nc j0 j0<|j4)),(fun _=>pa j0 j0 j0 j0 (mv j0<|j4)),(fun _=>pa j0 j0 j0 j0 (ld zM j0 j0<|j4)),(fun _=>pa j0 j0 j0 j0 (fa zin j0 j0 j0<|j4)),(fun _=>pa j0 j0 j0 j0 (nc j0 j0<|j4)),(fun _=>pa j0 j0 j0 j0 (mv j0<|j4)),(fun _=>pa j0 j0 j0 j0 (mv j0<|j4)),(fun _=>pa j0 j0 j0 j0 (mv j0<|j4)),j5⟩ (by kernel_rfl) j0 ⟨(fun _ _=>⟨_,j0,j0,sc [] (zl2 a.Locals D) j0 j0 j0 j0 ⟨(rnI j0),j5⟩ j5<|⟨(.msl 3 0 (List.length m)),[],[(29,.msl 3 0 (List.length m))],j0,j0,by kernel_rfl,j0,dtS ⟨(fun _=>pa j0 j0 j0 j0 (ld zM j0 j0<|j4)),(fun _=>pa j0 j0 j0 j0 (fa zin j0 j0 j0<|j4)),(fun _=>pa j0 j0 j0 j0 (nc j0 j0<|j4)),(fun _=>pa j0 j0 j0 j0 (mv j0<|j4)),(fun h=>by cases h),(fun _=>pa j0 j0 j0 j0 (fa zin j0 j0 j0<|j4)),(fun _=>pa j0 j0 j0 j0 (nc j0 j0<|j4)),(fun _=>pa j0 j0 j0 j0 (mv j0<|j4)),(fun _=>pa j0 j0 j0 j0 (mv j0<|j4)),(fun _=>pa j0 j0 j0 j0 (mv j0<|j4)),j5⟩ (by kernel_rfl) j0 ⟨(fun h=>by cases h),(fun _ _=>⟨_,j0,j0,sc [] (zl2 a.Stack E) j0 j0 j0 j0 ⟨(rnI j0),j5⟩ j5<|⟨(.msl 4 0 (List.length n)),[13,12],[(36,.mpt 0 0 12),(35,.mpt 0 0 0),(34,.msl 4 0 (List.length n))],j0,j0,by kernel_rfl,j0,dtS ⟨(fun _=>pa j0 j0 j0 j0 (fa zS j0 j0 j0<|j4)),(fun _=>pa j0 j0 j0 j0 (nc j0 j0<|j4)),(fun h=>by cases h),(fun _=>pa j0 j0 j0 j0 (fa zin j0 j0 j0<|j4)),(fun _=>pa j0 j0 j0 j0 (nc j0 j0<|j4)),(fun _=>pa j0 j0 j0 j0 (mv j0<|j4)),(fun h=>by cases h),(fun _=>pa j0 j0 j0 j0 (fa zin j0 j0 j0<|j4)),(fun _=>pa j0 j0 j0 j0 (nc j0 j0<|j4)),(fun _=>pa j0 j0 j0 j0 (mv j0<|j4)),(fun _=>pa j0 j0 j0 j0 (mv j0<|j4)),(fun _=>pa j0 j0 j0 j0 (mv j0<|j4)),j5⟩ (by kernel_rfl) j0 ⟨(fun h=>by cases h),(fun h=>by cases h),(fun _ _=>⟨_,j0,j0,sto zM j0 j0 j0<|⟨.any,[16,15],[(38,.mpt 0 0 13),(37,.mpt 0 0 0)],j0,j0,by kernel_rfl,j5,dtS ⟨(fun _=>pa j0 j0 j0 j0 (fa zS j0 j0 j0<|j4)),(fun _=>pa j0 j0 j0 j0 (nc j0 j0<|j4)),(fun h=>by cases h),(fun _=>pa j0 j0 j0 j0 (nc j0 j0<|j4)),(fun h=>by cases h),(fun _=>pa j0 j0 j0 j0 (fa zin j0 j0 j0<|j4)),(fun _=>pa j0 j0 j0 j0 (nc j0 j0<|j4)),(fun _=>pa j0 j0 j0 j0 (mv j0<|j4)),(fun h=>by cases h),(fun h=>by cases h),(fun h=>by cases h),(fun h=>by cases h),(fun _=>pa j0 j0 j0 j0 (mv j0<|j4)),(fun h=>by cases h),j5⟩ (by kernel_rfl) j0 ⟨(fun h=>by cases h),(fun h=>by cases h),(fun h=>by cases h),(fun _ _=>⟨_,j0,j0,sto zM j0 j0 j0<|⟨.any,[],[],j0,j0,by kernel_rfl,j5,dt0 ⟨(fun h=>by cases h),(fun _=>pa j0 j0 j0 j0 (nc j0 j0<|j4)),(fun h=>by cases h),(fun h=>by cases h),(fun h=>by cases h),(fun h=>by cases h),(fun h=>by cases h),(fun h=>by cases h),(fun h=>by cases h),(fun h=>by cases h),(fun h=>by cases h),(fun h=>by cases h),(fun h=>by cases h),(fun h=>by cases h),j5⟩ (by kernel_rfl) j0 ⟨[.old 0,.old 1,.old 2,.old 3,.old 4],cn,j0,⟨⟨_,j0,zg (zQ j0 (by exact ⟨.msl j0,.msl j0,ci j0,j5⟩))⟩,⟨_,j0,zd (fun _=>j0)⟩,⟨_,j0,zd (fun _=>j0)⟩,⟨_,j0,zd (fun _=>j0)⟩,⟨_,j0,zd (fun _=>j0)⟩,j5⟩,j0,j1⟩⟩⟩),j5⟩⟩⟩),(fun _ h=>by cases h),j5⟩⟩⟩),(fun _ h=>by cases h),(fun _ h=>by cases h),j5⟩⟩⟩),(fun _ h=>by cases h),(fun _ h=>by cases h),(fun _ h=>by cases h),j5⟩) ?_
    obtain rfl:=sm h
    exact ⟨_,j0,[.old 0,.dead,.dead,.old 3,.old 4],z8 j5,j0,⟨⟨_,j0,zg (zQ j0 (by exact ⟨.msl j0,.msl j0,ci j0,j5⟩))⟩,⟨_,j0,zd (fun _=>j0)⟩,⟨_,j0,zd (fun _=>j0)⟩,j5⟩,j0,j1⟩
def zd2 (b:List zc) (c:List (List UInt8×Int)) (j:List UInt8) (l:ze) (d:List (List UInt8)) (m:List (List UInt8)) (a:Bool) (n:Int) (o:List (List UInt8)):Option (Bool) :=
  (zcQ b c j l d m a n).bind fun e=>zst e (some (a||(!false))) (fun f=>(zgH b c f d o).bind fun i=>some (a||(!i)))
theorem zhF (e:List zc) (f:List (List UInt8×Int)) (j:List UInt8) (l:ze) (c:List (List UInt8)) (d:List (List UInt8)) (m:Bool) (p:Int) (i:List (List UInt8)) {r:Bool} (h:zd2 e f j l c d m p i=some r):SC Tryz.prog 202 [.mpt 0 0 0,iA p,.msl 3 0 (List.length i)] [.one 15 (vK e f j l (.msl 1 0 (List.length c)) (.msl 2 0 (List.length d)) (bA m)),.many 1 (List.map zi c),.many 1 (List.map zi d),.many 1 (List.map zi i)] (.tup []) [.one 15 (vK e f j l (.msl 1 0 (List.length c)) (.msl 2 0 (List.length d)) (bA r)),.many 1 (List.map zi c),.many 1 (List.map zi d),.many 1 (List.map zi i)]:=by
 refine ⟨⟨j5,zeU (sz:=1) (fun _=>j0),zeU (sz:=1) (fun _=>j0),zeU (sz:=1) (fun _=>j0),j5⟩,zad Tryz.func202 j0 (by kernel_rfl) j0 ?_⟩
 unfold zd2 at h
 obtain ⟨o,q,h⟩:=bs h
 refine rg j0<|u<|mv j0<|u<|mv j0<|u<|sc [0,1,2] (zd1 e f j l c d m p q) j0 j0 j0 j0 ⟨(.mpt j0),(rnI j0),j5⟩ ⟨⟨_,j0,(zcH j0 ⟨(.msl j0),(.msl j0),(rnI j0),j5⟩)⟩,⟨j0,mkI (fun _=>j0)⟩,⟨j0,mkI (fun _=>j0)⟩,j5⟩<|zvX zrE<|zB (env0:=[(0,.mpt 0 0 0),(2,.msl 3 0 (List.length i)),(9,zk8 3 zac o)]) (st0:=[some (15,[(vK e f j l (.msl 1 0 (List.length c)) (.msl 2 0 (List.length d)) (bA m))]),some (1,List.map zi c),some (1,List.map zi d),some (1,List.map zi i)]) ⟨[.old 0,.old 1,.old 2,.old 3],cv j0 (.mpt j0)<|cv j0 (.msl j0)<|cv j0 (ci (znq (fun _=>j0)))<|cn,j0,⟨⟨_,j0,zg (zQ j0 (by exact ⟨.msl j0,.msl j0,ci j0,j5⟩))⟩,⟨_,j0,zd (fun _=>j0)⟩,⟨_,j0,zd (fun _=>j0)⟩,⟨_,j0,zd (fun _=>j0)⟩,j5⟩,j0,j1⟩<|u<|asg j0<|za ?_
 rcases o with _ | a
 ·
  replace h:=oeN h
  refine rdL [] [some (15,[(vK e f j l (.msl 1 0 (List.length c)) (.msl 2 0 (List.length d)) (bA (m||(!false))))]),some (1,List.map zi c),some (1,List.map zi d),some (1,List.map zi i)] [18] [17,16,15,14,13,12,11,10,9,8,7,6,5,4,3,2,1,0] [(27,bA false),(26,.lit undef),(25,.lit undef),(24,.lit undef),(23,.lit undef),(22,.lit undef),(21,.lit undef),(20,.lit undef),(19,.lit undef),(18,.lit undef),(17,.lit undef),(16,.lit undef),(15,.lit undef),(14,.lit undef),(13,bA false),(12,bA false),(11,.lit (.pointer none)),(10,.mpt 0 0 0)] 1 (by kernel_rfl) (by kernel_rfl) j0 (by kernel_rfl) (dtS ⟨(fun _=>pa j0 j0 j0 j0 (pk (b:=false) j0 j0<|j4)),(fun _=>pas (b:=false) j0 j0 j0 j0 j0 j0),(fun _=>pas (b:=false) j0 j0 j0 j0 j0 j0),(fun _=>pas (b:=false) j0 j0 j0 j0 j0 j0),(fun _=>pas (b:=false) j0 j0 j0 j0 j0 j0),(fun _=>pas (b:=false) j0 j0 j0 j0 j0 j0),(fun _=>pas (b:=false) j0 j0 j0 j0 j0 j0),(fun _=>pas (b:=false) j0 j0 j0 j0 j0 j0),(fun _=>pas (b:=false) j0 j0 j0 j0 j0 j0),(fun _=>pas (b:=false) j0 j0 j0 j0 j0 j0),(fun _=>pas (b:=false) j0 j0 j0 j0 j0 j0),(fun _=>pas (b:=false) j0 j0 j0 j0 j0 j0),(fun _=>pas (b:=false) j0 j0 j0 j0 j0 j0),(fun _=>pas (b:=false) j0 j0 j0 j0 j0 j0),(fun _=>pa j0 j0 j0 j0 (mv j0<|j4)),(fun _=>pa j0 j0 j0 j0 (nep znL j0 j0 j0 j0 j0 j0<|j4)),(fun _=>pa j0 j0 j0 j0 (mv j0<|j4)),(fun _=>pa j0 j0 j0 j0 (mv j0<|j4)),j5⟩ (by kernel_rfl) j0 ⟨(fun _ _=>⟨_,j0,j0,sc [0,1,2] (args:=[.mpt 0 0 0,bA false]) (zo e f j l c d m false j0) j0 j0 j0 j0 ⟨(.mpt j0),(rnI j0),j5⟩ ⟨⟨_,j0,(zcH j0 ⟨(.msl j0),(.msl j0),(rnI j0),j5⟩)⟩,⟨j0,mkI (fun _=>j0)⟩,⟨j0,mkI (fun _=>j0)⟩,j5⟩<|⟨(.tup []),[],[(28,.tup [])],j0,j0,by kernel_rfl,j0,dt0 ⟨(fun h=>by cases h),(fun h=>by cases h),(fun _=>pas (b:=false) j0 j0 j0 j0 j0 j0),(fun _=>pas (b:=false) j0 j0 j0 j0 j0 j0),(fun _=>pas (b:=false) j0 j0 j0 j0 j0 j0),(fun _=>pas (b:=false) j0 j0 j0 j0 j0 j0),(fun _=>pas (b:=false) j0 j0 j0 j0 j0 j0),(fun _=>pas (b:=false) j0 j0 j0 j0 j0 j0),(fun _=>pas (b:=false) j0 j0 j0 j0 j0 j0),(fun _=>pas (b:=false) j0 j0 j0 j0 j0 j0),(fun _=>pas (b:=false) j0 j0 j0 j0 j0 j0),(fun _=>pas (b:=false) j0 j0 j0 j0 j0 j0),(fun _=>pas (b:=false) j0 j0 j0 j0 j0 j0),(fun _=>pas (b:=false) j0 j0 j0 j0 j0 j0),(fun _=>pa j0 j0 j0 j0 (mv j0<|j4)),(fun _=>pa j0 j0 j0 j0 (nep znL j0 j0 j0 j0 j0 j0<|j4)),(fun _=>pa j0 j0 j0 j0 (mv j0<|j4)),(fun h=>by cases h),j5⟩ (by kernel_rfl) j0 ⟨[.old 0,.old 1,.old 2,.old 3],cn,j0,⟨⟨_,j0,zg (zQ j0 (by exact ⟨.msl j0,.msl j0,ci j0,j5⟩))⟩,⟨_,j0,zd (fun _=>j0)⟩,⟨_,j0,zd (fun _=>j0)⟩,⟨_,j0,zd (fun _=>j0)⟩,j5⟩,j0,j1⟩⟩⟩),j5⟩) ?_
  obtain rfl:=sm h
  exact ⟨_,j0,[.old 0,.old 1,.old 2,.old 3],z8 j5,j0,⟨⟨_,j0,zg (zQ j0 (by exact ⟨.msl j0,.msl j0,ci j0,j5⟩))⟩,⟨_,j0,zd (fun _=>j0)⟩,⟨_,j0,zd (fun _=>j0)⟩,⟨_,j0,zd (fun _=>j0)⟩,j5⟩,j0,j1⟩
 ·
  replace h:=oeS h
  obtain ⟨n,s,h⟩:=bs h
  refine rdL [] [some (15,[(vK e f j l (.msl 1 0 (List.length c)) (.msl 2 0 (List.length d)) (bA (m||(!n))))]),some (1,List.map zi c),some (1,List.map zi d),some (1,List.map zi i)] [18] [17,16,15,14,13,12,11,10,9,8,7,6,5,4,3,2,1,0] [(27,bA n),(26,bA n),(25,.msl 3 0 (List.length i)),(24,.msl 1 0 (List.length c)),(23,.mpt 0 0 12),(22,.mpt 0 0 0),(21,.mpt 0 0 0),(20,.agg (zac a)),(19,.ipt 3 [[iA a.At,.isl 1 (List.map zi a.Locals),.isl 1 (List.map zi a.Stack)]] 0 0),(18,.ipt 3 [[iA a.At,.isl 1 (List.map zi a.Locals),.isl 1 (List.map zi a.Stack)]] 0 0),(17,.ipt 2 [[.isl 6 (List.map zb e),.imp (List.map (rKV (fun x=>iA x)) f)]] 0 0),(16,.mpt 0 0 0),(15,.mpt 0 0 0),(14,.mpt 0 0 0),(13,bA true),(12,bA true),(11,.ipt 3 [[iA a.At,.isl 1 (List.map zi a.Locals),.isl 1 (List.map zi a.Stack)]] 0 0),(10,.mpt 0 0 0)] 1 (by kernel_rfl) (by kernel_rfl) j0 (by kernel_rfl) (dtS ⟨(fun _=>pa j0 j0 j0 j0 (pk (b:=true) j0 j0<|j4)),(fun _=>pag (b:=true) j0 j0 j0 j0 j0 j0 (pcs (zip e f a c i s) j0 j0 (.cons (si j0) (.cons (si j0) (.cons (zi5 j0 (fun _=>j0)) (.cons (zi5 j0 (fun _=>j0)) .nil)))) zcq<|j4)),(fun _=>pag (b:=true) j0 j0 j0 j0 j0 j0 (mv j0<|j4)),(fun _=>pag (b:=true) j0 j0 j0 j0 j0 j0 (ld zM j0 j0<|j4)),(fun _=>pag (b:=true) j0 j0 j0 j0 j0 j0 (fa zS j0 j0 j0<|j4)),(fun _=>pag (b:=true) j0 j0 j0 j0 j0 j0 (nc j0 j0<|j4)),(fun _=>pag (b:=true) j0 j0 j0 j0 j0 j0 (mv j0<|j4)),(fun _=>pag (b:=true) j0 j0 j0 j0 j0 j0 (ld zin j0 j0<|j4)),(fun _=>pag (b:=true) j0 j0 j0 j0 j0 j0 (nc j0 j0<|j4)),(fun _=>pag (b:=true) j0 j0 j0 j0 j0 j0 (mv j0<|j4)),(fun _=>pag (b:=true) j0 j0 j0 j0 j0 j0 (ld zez j0 j0<|j4)),(fun _=>pag (b:=true) j0 j0 j0 j0 j0 j0 (fa zS j0 j0 j0<|j4)),(fun _=>pag (b:=true) j0 j0 j0 j0 j0 j0 (nc j0 j0<|j4)),(fun _=>pag (b:=true) j0 j0 j0 j0 j0 j0 (mv j0<|j4)),(fun _=>pa j0 j0 j0 j0 (mv j0<|j4)),(fun _=>pa j0 j0 j0 j0 (nep znL j0 j0 j0 j0 j0 j0<|j4)),(fun _=>pa j0 j0 j0 j0 (mv j0<|j4)),(fun _=>pa j0 j0 j0 j0 (mv j0<|j4)),j5⟩ (by kernel_rfl) j0 ⟨(fun _ _=>⟨_,j0,j0,sc [0,1,2] (args:=[.mpt 0 0 0,bA n]) (zo e f j l c d m n j0) j0 j0 j0 j0 ⟨(.mpt j0),(rnI j0),j5⟩ ⟨⟨_,j0,(zcH j0 ⟨(.msl j0),(.msl j0),(rnI j0),j5⟩)⟩,⟨j0,mkI (fun _=>j0)⟩,⟨j0,mkI (fun _=>j0)⟩,j5⟩<|⟨(.tup []),[],[(28,.tup [])],j0,j0,by kernel_rfl,j0,dt0 ⟨(fun h=>by cases h),(fun h=>by cases h),(fun _=>pag (b:=true) j0 j0 j0 j0 j0 j0 (mv j0<|j4)),(fun _=>pag (b:=true) j0 j0 j0 j0 j0 j0 (ld zM j0 j0<|j4)),(fun _=>pag (b:=true) j0 j0 j0 j0 j0 j0 (fa zS j0 j0 j0<|j4)),(fun _=>pag (b:=true) j0 j0 j0 j0 j0 j0 (nc j0 j0<|j4)),(fun _=>pag (b:=true) j0 j0 j0 j0 j0 j0 (mv j0<|j4)),(fun _=>pag (b:=true) j0 j0 j0 j0 j0 j0 (ld zin j0 j0<|j4)),(fun _=>pag (b:=true) j0 j0 j0 j0 j0 j0 (nc j0 j0<|j4)),(fun _=>pag (b:=true) j0 j0 j0 j0 j0 j0 (mv j0<|j4)),(fun _=>pag (b:=true) j0 j0 j0 j0 j0 j0 (ld zez j0 j0<|j4)),(fun _=>pag (b:=true) j0 j0 j0 j0 j0 j0 (fa zS j0 j0 j0<|j4)),(fun _=>pag (b:=true) j0 j0 j0 j0 j0 j0 (nc j0 j0<|j4)),(fun _=>pag (b:=true) j0 j0 j0 j0 j0 j0 (mv j0<|j4)),(fun _=>pa j0 j0 j0 j0 (mv j0<|j4)),(fun _=>pa j0 j0 j0 j0 (nep znL j0 j0 j0 j0 j0 j0<|j4)),(fun _=>pa j0 j0 j0 j0 (mv j0<|j4)),(fun h=>by cases h),j5⟩ (by kernel_rfl) j0 ⟨[.old 0,.old 1,.old 2,.old 3],cn,j0,⟨⟨_,j0,zg (zQ j0 (by exact ⟨.msl j0,.msl j0,ci j0,j5⟩))⟩,⟨_,j0,zd (fun _=>j0)⟩,⟨_,j0,zd (fun _=>j0)⟩,⟨_,j0,zd (fun _=>j0)⟩,j5⟩,j0,j1⟩⟩⟩),j5⟩) ?_
  obtain rfl:=sm h
  exact ⟨_,j0,[.old 0,.old 1,.old 2,.old 3],z8 j5,j0,⟨⟨_,j0,zg (zQ j0 (by exact ⟨.msl j0,.msl j0,ci j0,j5⟩))⟩,⟨_,j0,zd (fun _=>j0)⟩,⟨_,j0,zd (fun _=>j0)⟩,⟨_,j0,zd (fun _=>j0)⟩,j5⟩,j0,j1⟩
def zdy (a:Bool):Option (Bool) :=
  some a
def zb5 (a:Int) (b:Bool):Option (Sum (Bool×Int) (Sum (Bool) (Bool))) :=
  some (.inl (b,(IntKind.i64.wrap (a+1))))
def zb4 (f:List zc) (i:List (List UInt8×Int)) (m:List UInt8) (n:ze) (o:List (List UInt8)) (p:List (List UInt8)) (j:Int) (b:Bool) (c:Int) (a:zU) (d:List UInt8):Option (Sum (Bool×Int) (Sum (Bool) (Bool))) :=
  (zcx f i d [84,104,114,111,119,110]).bind fun e=>cond ((decide (a.From≤j))&&(decide (j < a.To))) ((zd2 f i m n o p (b||(!e)) a.At [d]).bind fun l=>zb5 c l) (zb5 c (b||(!e)))
def zdz (e:List zc) (f:List (List UInt8×Int)) (i:List UInt8) (d:ze) (j:List (List UInt8)) (l:List (List UInt8)) (m:Int) (c:Bool) (a:Int):Option (Sum (Bool×Int) (Sum (Bool) (Bool))) :=
  cond (decide (a < (List.length d.Traps:Int))) ((idx d.Traps a).bind fun b=>cond (b.C == []) (zb4 e f i d j l m c a b [84,104,114,111,119,110]) (zb4 e f i d j l m c a b b.C)) (some (.inr (.inl c)))
def zeS (a:List zc) (c:List (List UInt8×Int)) (d:List UInt8) (e:ze) (f:List (List UInt8)) (i:List (List UInt8)) (j:Bool) (l:Int):Option (Bool) :=
  (zab (fun z=>zdz a c d e f i l z.1 z.2) (j,0)).bind fun o=>zaJ o (fun b=>zdy b) some
theorem zij (e:List zc) (f:List (List UInt8×Int)) (i:List UInt8) (a:ze) (c:List (List UInt8)) (d:List (List UInt8)) (G:Bool) (p:Int) {r:Bool} (h:zeS e f i a c d G p=some r):SC Tryz.prog 199 [.mpt 0 0 0,iA p] [.one 15 (vK e f i a (.msl 1 0 (List.length c)) (.msl 2 0 (List.length d)) (bA G)),.many 1 (List.map zi c),.many 1 (List.map zi d)] (.tup []) [.one 15 (vK e f i a (.msl 1 0 (List.length c)) (.msl 2 0 (List.length d)) (bA r)),.many 1 (List.map zi c),.many 1 (List.map zi d)]:=by
 refine ⟨⟨j5,zeU (sz:=1) (fun _=>j0),zeU (sz:=1) (fun _=>j0),j5⟩,zad Tryz.func199 j0 (by kernel_rfl) j0 ?_⟩
 unfold zeS at h
 refine rg j0<|u<|mv j0<|u<|nc j0 j0<|u<|fa zS j0 j0 j0<|u<|fa zN j0 j0 j0<|u<|ld zqp j0 j0<|u<|lnI zqp j0 j0<|u<|mv j0<|za ?_
 obtain ⟨o,ho,h⟩:=bs h
 refine zT (X:=Bool×Int) (B:=Bool) (R:=Bool) (fun z=>[(0,.mpt 0 0 0),(1,iA p),(11,.isl 4 (List.map zW a.Traps)),(12,iA (List.length a.Traps:Int)),(13,iA z.2)]) (fun z=>[some (15,[(vK e f i a (.msl 1 0 (List.length c)) (.msl 2 0 (List.length d)) (bA z.1))]),some (1,List.map zi c),some (1,List.map zi d)]) (fun b=>[]) (fun b=>[some (15,[(vK e f i a (.msl 1 0 (List.length c)) (.msl 2 0 (List.length d)) (bA b))]),some (1,List.map zi c),some (1,List.map zi d)]) (fun r env st=>zaC Tryz.prog Tryz.f199 3 (.tup []) [some (15,[(vK e f i a (.msl 1 0 (List.length c)) (.msl 2 0 (List.length d)) (bA r))]),some (1,List.map zi c),some (1,List.map zi d)] env st) ho ⟨[.old 0,.old 1,.old 2],cv j0 (.mpt j0)<|ce j0 j0<|ce j0 j0<|ce j0 j0<|ce j0 j0<|cn,j0,⟨⟨_,j0,zg (zQ j0 (by exact ⟨.msl j0,.msl j0,ci j0,j5⟩))⟩,⟨_,j0,zd (fun _=>j0)⟩,⟨_,j0,zd (fun _=>j0)⟩,j5⟩,j0,j1⟩ ?_ ?_ ?_
 ·
  rintro ⟨m,l⟩ r h
  replace h:zdz e f i a c d p m l=some r:=h
  unfold zdz at h
  refine rg j0<|u<|lss ti3 j0 j0<|za ?_
  refine zl ?_
  refine zh j0 (fun E=>?_) (fun E=>?_)
  ·
   replace h:=bT E h
   refine zk ?_
   refine zcD (X:=Bool) (fun z=>[(0,.mpt 0 0 0),(1,iA p),(11,.isl 4 (List.map zW a.Traps)),(12,iA (List.length a.Traps:Int)),(13,iA l)]) (fun z=>[some (15,[(vK e f i a (.msl 1 0 (List.length c)) (.msl 2 0 (List.length d)) (bA z))]),some (1,List.map zi c),some (1,List.map zi d)]) (fun z=>zb5 l z=some r) ?_ ?_
   ·
    refine zq ?_
    obtain ⟨q,H,h⟩:=bs h
    refine rg j0<|u<|ixI zqp j0 zm1 j0 j0 j0 H<|u<|ldI zm1 j0 (zp H).2.2 j0<|u<|al 3 zm1 j0<|u<|sto zm1 j0 j0 j0<|za ?_
    refine rg j0<|u<|fa zm1 j0 j0 j0<|u<|ld ti9 j0 j0<|u<|asg j0<|za ?_
    refine zcD (X:=(List UInt8)) (fun z=>[(0,.mpt 0 0 0),(1,iA p),(5,.mpt 3 0 0),(6,sA z),(11,.isl 4 (List.map zW a.Traps)),(12,iA (List.length a.Traps:Int)),(13,iA l)]) (fun z=>[some (15,[(vK e f i a (.msl 1 0 (List.length c)) (.msl 2 0 (List.length d)) (bA m))]),some (1,List.map zi c),some (1,List.map zi d),some (4,[(zW q)])]) (fun z=>zb4 e f i a c d p m l q z=some r) ?_ ?_
    ·
     refine rg j0<|u<|mv j0<|u<|seq ti9 j0 j0<|za ?_
     refine zh j0 (fun s=>?_) (fun s=>?_)
     ·
      replace h:=bT s h
      exact rl j0<|u<|asg j0<|za (⟨[84,104,114,111,119,110],h,[.old 0,.old 1,.old 2,.old 3],cv j0 (.mpt j0)<|ce j0 j0<|cv j0 (.mpt j0)<|ce j0 j0<|ce j0 j0<|ce j0 j0<|ce j0 j0<|cn,j0,⟨⟨_,j0,zg (zQ j0 (by exact ⟨.msl j0,.msl j0,ci j0,j5⟩))⟩,⟨_,j0,zd (fun _=>j0)⟩,⟨_,j0,zd (fun _=>j0)⟩,⟨_,j0,zg (ciL j0)⟩,j5⟩,j0,j1⟩)
     ·
      replace h:=bF s h
      refine zk ?_
      exact ⟨q.C,h,[.old 0,.old 1,.old 2,.old 3],cv j0 (.mpt j0)<|ce j0 j0<|cv j0 (.mpt j0)<|ce j0 j0<|ce j0 j0<|ce j0 j0<|ce j0 j0<|cn,j0,⟨⟨_,j0,zg (zQ j0 (by exact ⟨.msl j0,.msl j0,ci j0,j5⟩))⟩,⟨_,j0,zd (fun _=>j0)⟩,⟨_,j0,zd (fun _=>j0)⟩,⟨_,j0,zg (ciL j0)⟩,j5⟩,j0,j1⟩
    ·
     rintro x h
     replace h:zb4 e f i a c d p m l q x=some r:=h
     unfold zb4 at h
     obtain ⟨D,I,h⟩:=bs h
     refine rg j0<|u<|mv j0<|u<|mv j0<|u<|nc j0 j0<|u<|fa zS j0 j0 j0<|u<|ld zez j0 j0<|u<|mv j0<|u<|pc (zcg e f x [84,104,114,111,119,110] I) j0 j0 j0<|u<|sc [0,1,2] (zo e f i a c d m D j0) j0 j0 j0 j0 ⟨(.mpt j0),(rnI j0),j5⟩ ⟨⟨_,j0,(zcH j0 ⟨(.msl j0),(.msl j0),(rnI j0),j5⟩)⟩,⟨j0,mkI (fun _=>j0)⟩,⟨j0,mkI (fun _=>j0)⟩,j5⟩<|zB (env0:=[(0,.mpt 0 0 0),(1,iA p),(5,.mpt 3 0 0),(6,sA x),(11,.isl 4 (List.map zW a.Traps)),(12,iA (List.length a.Traps:Int)),(13,iA l)]) (st0:=[some (15,[(vK e f i a (.msl 1 0 (List.length c)) (.msl 2 0 (List.length d)) (bA (m||(!D))))]),some (1,List.map zi c),some (1,List.map zi d),some (4,[(zW q)])]) ⟨[.old 0,.old 1,.old 2,.old 3],cv j0 (.mpt j0)<|ce j0 j0<|cv j0 (.mpt j0)<|ce j0 j0<|ce j0 j0<|ce j0 j0<|ce j0 j0<|cn,j0,⟨⟨_,j0,zg (zQ j0 (by exact ⟨.msl j0,.msl j0,ci j0,j5⟩))⟩,⟨_,j0,zd (fun _=>j0)⟩,⟨_,j0,zd (fun _=>j0)⟩,⟨_,j0,zg (ciL j0)⟩,j5⟩,j0,j1⟩<|za ?_
     refine rg j0<|u<|fa zm1 j0 j0 j0<|u<|ld ti3 j0 j0<|u<|mv j0<|u<|leq ti3 j0 j0<|u<|mv j0<|za7 (j:=4) 4 j0 j0 j0 j0 j0 gpn (fun n=>g j0 n<|mv j0<|g j0 n<|fa zm1 j0 j0 j0<|g j0 n<|ld ti3 j0 j0<|g j0 n<|lss ti3 j0 j0<|za (egA [34,35,36,37] 4 n j0 j0 j0 j0)) ziy<|za ?_
     refine zh j0 (fun v=>?_) (fun v=>?_)
     ·
      replace h:=bT v h
      obtain ⟨F,J,h⟩:=bs h
      exact rl j0<|u<|mv j0<|u<|fa zm1 j0 j0 j0<|u<|ld ti3 j0 j0<|u<|mv j0<|u<|bl 4 zM j0 ti9 j0 (by decide) (by decide) j0 j0 j0<|u<|sc [0,1,2,4] (zhF e f i a c d (m||(!D)) q.At [x] J) j0 j0 j0 j0 ⟨(.mpt j0),(rnI j0),(.msl j0),j5⟩ ⟨⟨_,j0,(zcH j0 ⟨(.msl j0),(.msl j0),(rnI j0),j5⟩)⟩,⟨j0,mkI (fun _=>j0)⟩,⟨j0,mkI (fun _=>j0)⟩,⟨j0,mkI (fun _=>j0)⟩,j5⟩<|zB (env0:=[(0,.mpt 0 0 0),(1,iA p),(11,.isl 4 (List.map zW a.Traps)),(12,iA (List.length a.Traps:Int)),(13,iA l)]) (st0:=[some (15,[(vK e f i a (.msl 1 0 (List.length c)) (.msl 2 0 (List.length d)) (bA F))]),some (1,List.map zi c),some (1,List.map zi d)]) ⟨[.old 0,.old 1,.old 2],cv j0 (.mpt j0)<|ce j0 j0<|ce j0 j0<|ce j0 j0<|ce j0 j0<|cn,j0,⟨⟨_,j0,zg (zQ j0 (by exact ⟨.msl j0,.msl j0,ci j0,j5⟩))⟩,⟨_,j0,zd (fun _=>j0)⟩,⟨_,j0,zd (fun _=>j0)⟩,j5⟩,j0,j1⟩<|za (⟨F,h,[.old 0,.old 1,.old 2],cv j0 (.mpt j0)<|ce j0 j0<|ce j0 j0<|ce j0 j0<|ce j0 j0<|cn,j0,⟨⟨_,j0,zg (zQ j0 (by exact ⟨.msl j0,.msl j0,ci j0,j5⟩))⟩,⟨_,j0,zd (fun _=>j0)⟩,⟨_,j0,zd (fun _=>j0)⟩,j5⟩,j0,j1⟩)
     ·
      replace h:=bF v h
      refine zk ?_
      exact ⟨(m||(!D)),h,[.old 0,.old 1,.old 2],cv j0 (.mpt j0)<|ce j0 j0<|ce j0 j0<|ce j0 j0<|ce j0 j0<|cn,j0,⟨⟨_,j0,zg (zQ j0 (by exact ⟨.msl j0,.msl j0,ci j0,j5⟩))⟩,⟨_,j0,zd (fun _=>j0)⟩,⟨_,j0,zd (fun _=>j0)⟩,j5⟩,j0,j1⟩
   ·
    rintro K h
    replace h:zb5 l K=some r:=h
    unfold zb5 at h
    refine rl j0<|u<|add ti3 j0 j0<|u<|mv j0<|za ?_
    obtain rfl:=sm h
    exact ⟨_,j0,[.old 0,.old 1,.old 2],cv j0 (.mpt j0)<|ce j0 j0<|ce j0 j0<|ce j0 j0<|ce j0 j0<|cn,j0,⟨⟨_,j0,zg (zQ j0 (by exact ⟨.msl j0,.msl j0,ci j0,j5⟩))⟩,⟨_,j0,zd (fun _=>j0)⟩,⟨_,j0,zd (fun _=>j0)⟩,j5⟩,j0,j1⟩
  ·
   replace h:=bF E h
   refine zz ?_
   obtain rfl:=sm h
   exact ⟨j0,_,j0,[.old 0,.old 1,.old 2],cn,j0,⟨⟨_,j0,zg (zQ j0 (by exact ⟨.msl j0,.msl j0,ci j0,j5⟩))⟩,⟨_,j0,zd (fun _=>j0)⟩,⟨_,j0,zd (fun _=>j0)⟩,j5⟩,j0,j1⟩
 ·
  rintro L rfl
  replace h:zdy L=some r:=h
  unfold zdy at h
  refine zv ?_
  obtain rfl:=sm h
  exact ⟨_,j0,[.old 0,.old 1,.old 2],z8 j5,j0,⟨⟨_,j0,zg (zQ j0 (by exact ⟨.msl j0,.msl j0,ci j0,j5⟩))⟩,⟨_,j0,zd (fun _=>j0)⟩,⟨_,j0,zd (fun _=>j0)⟩,j5⟩,j0,j1⟩
 ·
  rintro r' rfl env st hp
  obtain rfl:=sm h
  exact hp
def za5 (a:Int) (b:Int) (c:Int):Bool :=
  ((decide (b≤a))&&(decide (a≤c)))
theorem zaI (b:Int) (c:Int) (d:Int) {r:Bool} (h:za5 b c d=r):zu Tryz.prog 278 [iA b,iA c,iA d] (bA r):=by
 refine zn Tryz.func278 j0 (by kernel_rfl) j0 j0 ?_
 unfold za5 at h
 refine rg j0<|u<|asg j0<|za ?_
 refine rg j0<|u<|mv j0<|u<|mv j0<|u<|geq ti3 j0 j0<|u<|mv j0<|za7 (j:=3) 3 j0 j0 j0 j0 j0 gpn (fun a=>g j0 a<|mv j0<|g j0 a<|mv j0<|g j0 a<|leq ti3 j0 j0<|za (egA [11,12,13] 3 a j0 j0 j0 j0)) ziy<|u<|asg j0<|za ?_
 refine zj ?_
 obtain rfl:=h
 exact ⟨_,j0,[],ci j0,j0,j5,j0,j1⟩
end
end Go.Proofs.YthmnlfenkhmmhaaGreat
