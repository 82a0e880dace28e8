/- VerifyTurn: for every input the law returns true, and each argument reads as it read before. No further condition. Part 4 of 8. -/
import Derived.Test.YthmnlfenkhmmhaaGreatTv3
namespace Go.Proofs.YthmnlfenkhmmhaaGreat
noncomputable section
open List (length map)
set_option linter.unusedSimpArgs false
set_option linter.unusedVariables false
set_option maxRecDepth 100000
set_option maxHeartbeats 4000000
variable [Flo]
structure zT where
  L:List za
def zez(x:zT):List AV:=[.isl 6 (map zc x.L)]
def zqN(a:List za):Option ((List za)):=
  some a
def zjN(c:List za)(d:Int)(e:T0)(a:T0):Option (Sum ((List za)×Int) (Sum ((List za)) ((List za)))):=
  (zfY 112 c ([(za.mk e a false [] [] [])])).bind fun b=>some (.inl (b,(IntKind.i64.wrap (d+1))))
def zjM(b:List za)(a:Int)(c:T0)(d:T0):Option (Sum ((List za)×Int) (Sum ((List za)) ((List za)))):=
  cond (a == (1:Int)) (zjN b a c [79,98,106,101,99,116]) (zjN b a c d)
def zqO(b:List za)(a:Int):Option (Sum ((List za)×Int) (Sum ((List za)) ((List za)))):=
  cond (decide (a<((length (zc4)):Int))) ((idx (zc4) a).bind fun c=>cond (a == (0:Int)) (zjM b a c []) (zjM b a c [84,104,114,111,119,110])) (some (.inr (.inl b)))
def znh:Option ((List za)):=
  (zs (fun z=>zqO z.1 z.2) ([],0)).bind fun o=>zQ o (fun b=>zqN b) some
theorem zqP{r:(List za)}(h:znh=some r):SC Tryz.prog 110 [] [] (.msl 0 0 (length r)) [.many 6 (map zc r)]:=by
 refine ⟨⟨zgu (sz:=6) (fun _=>y),t⟩,zP Tryz.func110 y kz y ?_⟩
 refine A ?_
 refine rg y<|u<|sx [] (zqL y)<|zv (env0:=[(5,.msl 0 0 (length (zc4)))]) (st0:=[some (1,map zt (zc4))]) (zp [.old 0])<|A ?_
 refine A ?_
 refine zf<|A ?_
 obtain ⟨o,ho,h⟩:=bs h
 refine lpB ho (fun z=>[(1,.msl 0 0 (length (zc4))),(2,.msl 1 0 (length z.1)),(3,iA z.2)]) (fun z=>[some (1,map zt (zc4)),some (6,map zc z.1)]) (fun b=>[(2,.msl 0 0 (length b))]) (fun b=>[some (6,map zc b)]) (pF Tryz.f110 (fun r=>.msl 0 0 (length r)) fun r=>[some (6,map zc r)]) ⟨[.old 0,.fresh 6],cv y (.msl y)<|cv y (.nilown y)<|ce y y<|cn,y,⟨⟨_,y,zbs (fun _=>y)⟩,w,t⟩,y,k⟩ ?_ ?_
 ·rintro ⟨a,d⟩ r h
  refine zf<|A ?_
  refine zeh h y (fun f h=>?_) fun f h=>?_
  ·refine ze<|zf<|zj ?_
   obtain ⟨c,q,h⟩:=bs h
   refine A ?_
   refine zaA (X:=T0) (fun z=>[(1,.msl 0 0 (length (zc4))),(2,.msl 1 0 (length a)),(3,iA d),(4,.mpt 2 0 0)]) (fun z=>[some (1,map zt (zc4)),some (6,map zc a),some (6,[[sA c,sA z,bA false,.lit (.slice none 0 0),.lit (.slice none 0 0),.lit (.slice none 0 0)]])]) (fun z=>zjM a d c z=some r) ?_ ?_
   ·refine A ?_
    refine zeh h y (fun i h=>?_) fun i h=>?_
    ·refine A ?_
     exact (⟨[],h,zp [.old 0,.old 1,.old 2]⟩)
    ·refine ze ?_
     exact ⟨[84,104,114,111,119,110],h,zp [.old 0,.old 1,.old 2]⟩
   ·rintro j h
    refine zaA (X:=T0) (fun z=>[(1,.msl 0 0 (length (zc4))),(2,.msl 1 0 (length a)),(3,iA d),(4,.mpt 2 0 0)]) (fun z=>[some (1,map zt (zc4)),some (6,map zc a),some (6,[[sA c,sA z,bA false,.lit (.slice none 0 0),.lit (.slice none 0 0),.lit (.slice none 0 0)]])]) (fun z=>zjN a d c z=some r) ?_ ?_
    ·refine A ?_
     refine zeh h y (fun l h=>?_) fun l h=>?_
     ·refine A ?_
      exact (⟨[79,98,106,101,99,116],h,zp [.old 0,.old 1,.old 2]⟩)
     ·refine ze ?_
      exact ⟨j,h,zp [.old 0,.old 1,.old 2]⟩
    ·rintro e h
     obtain ⟨n,m,h⟩:=bs h
     refine A ?_
     refine zv (env0:=[(1,.msl 0 0 (length (zc4))),(3,iA d),(23,.msl 1 0 (length a)),(25,.msl 2 0 (length ([(za.mk c e false [] [] [])])))]) (st0:=[some (1,map zt (zc4)),some (6,map zc a),some (6,map zc ([(za.mk c e false [] [] [])]))]) (zp [.old 0,.old 1,.old 3])<|u<|apM 3 ti y ti y y (by decide) ti y y y y (roM y) (fun _=>y) y m<|A ?_
     refine A ?_
     obtain rfl:=sm h
     exact ⟨_,y,zp [.old 0,.old 3]⟩
  ·refine zy ?_
   obtain rfl:=sm h
   exact ⟨y,_,y,zp [.old 1]⟩
 ·rintro p rfl
  refine zu<|A ?_
  exact RT1
def zkC:Option (Int):=
  some (-1)
def zgD(b:List za)(c:T0)(a:Int):Option (Sum (Int) (Sum (Unit) (Int))):=
  cond (decide (a<(length b:Int))) ((idx b a).bind fun d=>cond (d.Name == c) (some (.inr (.inr a))) (some (.inl (IntKind.i64.wrap (a+1))))) (some (.inr (.inl ())))
def zae(a:List za)(c:T0):Option (Int):=
  (zs (fun z=>zgD a c z) 0).bind fun o=>zQ o (fun b=>zkC) some
theorem zcM(a:List za)(c:T0){r:Int}(h:zae a c=some r):zaF Tryz.prog 56 [.ipt 1 [[.isl 6 (map zc a)]] 0 0,sA c] (iA r):=by
 refine zl Tryz.func56 y kz y y<|A ?_
 refine zf<|A ?_
 obtain ⟨o,ho,h⟩:=bs h
 refine lpB ho (fun z=>[(0,.ipt 1 [[.isl 6 (map zc a)]] 0 0),(1,sA c),(5,iA z)]) (fun z=>[]) (fun b=>[]) (fun b=>[]) (pG Tryz.f56 iA) (zaE []) ?_ ?_
 ·rintro f r h
  refine zf<|A ?_
  refine zeh h y (fun d h=>?_) fun d h=>?_
  ·refine ze<|zf<|zj ?_
   obtain ⟨i,j,h⟩:=bs h
   refine A ?_
   refine zeh h y (fun e h=>?_) fun e h=>?_
   ·refine A ?_
    refine zD ?_
    obtain rfl:=sm h
    exact ⟨_,y,_,y,zab []⟩
   ·refine ze<|A ?_
    obtain rfl:=sm h
    exact ⟨_,y,zp []⟩
  ·refine zy ?_
   obtain rfl:=sm h
   exact ⟨y,_,y,zp []⟩
 ·rintro ⟨⟩ rfl
  refine zu<|A ?_
  exact RT0
instance (a:List za)(b:T0):PF Tryz.prog 56 [.ipt 1 [[.isl 6 (map zc a)]] 0 0,sA b] (zae a b) iA:=⟨fun _=>zcM a b⟩
def zl6(c:Int)(a:List Bool):Option (Bool):=
  (idx a c).bind fun b=>some b
def zif(a:List Bool)(b:Bool):Option (Sum ((List Bool)×Bool×Bool) (Sum ((List Bool)) (Bool))):=
  some (.inl (a,b,false))
def zeP(a:Int)(b:List Bool)(c:Bool):Option (Sum ((List Bool)×Bool×Int) (Sum ((List Bool)×Bool) (Bool))):=
  some (.inl (b,c,(IntKind.i64.wrap (a+1))))
def zeQ(a:Int)(b:List Bool)(c:Bool):Option (Sum ((List Bool)×Bool×Int) (Sum ((List Bool)×Bool) (Bool))):=
  zeP a b c
def zeO(a:Int)(b:List Bool)(c:Bool):Option (Sum ((List Bool)×Bool×Int) (Sum ((List Bool)×Bool) (Bool))):=
  some (.inl (b,c,(IntKind.i64.wrap (a+1))))
def zcu(l:List za)(d:T1)(a:List Bool)(e:Bool)(b:Int):Option (Sum ((List Bool)×Bool×Int) (Sum ((List Bool)×Bool) (Bool))):=
  cond (decide (b<((length d):Int))) ((idx d b).bind fun f=>(zae l f).bind fun c=>(cond (decide (0≤c)) ((idx a c).bind fun i=>some (!i)) (some false)).bind fun j=>cond j ((idx a c).bind fun m=>zeO b (List.set a (Int.toNat c) true) true) (zeO b a e)) (some (.inr (.inl (a,e))))
def zbH(e:List za)(n:Int)(m:Bool)(c:List Bool)(d:Bool)(a:Int):Option (Sum ((List Bool)×Bool×Int) (Sum ((List Bool)×Bool) (Bool))):=
  cond (decide (a<(length e:Int))) ((idx c a).bind fun f=>cond ((!f)&&(!(m&&(a == n)))) (zeP a c d) ((idx e a).bind fun i=>(idx e a).bind fun j=>(zfY 16 [i.Super] j.Impl).bind fun l=>(zs (fun z=>zcu e l z.1 z.2.1 z.2.2) (c,d,0)).bind fun o=>zQ o (fun b=>zeQ a b.1 b.2) (fun r=>some (.inr (.inr r))))) (some (.inr (.inl (c,d))))
def zbI(e:List za)(f:Int)(a:List Bool)(c:Bool)(d:Bool):Option (Sum ((List Bool)×Bool×Bool) (Sum ((List Bool)) (Bool))):=
  cond c ((zs (fun z=>zbH e f d z.1 z.2.1 z.2.2) (a,false,0)).bind fun o=>zQ o (fun b=>zif b.1 b.2) (fun r=>some (.inr (.inr r)))) (some (.inr (.inl a)))
def zfr(a:List za)(c:Int):Option (Bool):=
  (mkP 1 (length a:Int)).bind fun d=>(zs (fun z=>zbI a c z.1 z.2.1 z.2.2) ((List.replicate d false),true,true)).bind fun o=>zQ o (fun b=>zl6 c b) some
theorem ziB(c:List za)(e:Int){r:Bool}(h:zfr c e=some r):zaF Tryz.prog 112 [.ipt 1 [[.isl 6 (map zc c)]] 0 0,iA e] (bA r):=by
 refine zl Tryz.func112 y kz y y<|A ?_
 obtain ⟨v3,M,h⟩:=bs h
 refine A ?_
 refine u<|mks (f:=rB) (z:=false) 0 ti y ti y y y y y y M<|A ?_
 refine zf<|A ?_
 obtain ⟨o,ho,h⟩:=bs h
 refine lpB ho (fun z=>[(0,.ipt 1 [[.isl 6 (map zc c)]] 0 0),(1,iA e),(5,.msl 0 0 (length z.1)),(6,bA z.2.1),(7,bA z.2.2)]) (fun z=>[some (1,map rB z.1)]) (fun b=>[(1,iA e),(5,.msl 0 0 (length b))]) (fun b=>[some (1,map rB b)]) (pG Tryz.f112 bA) (zaE [.old 0]) ?_ ?_
 ·rintro ⟨v71,v72,i⟩ r h
  refine zf<|A ?_
  refine zeh h y (fun C h=>?_) fun C h=>?_
  ·refine ze<|zf<|zj<|A ?_
   refine A ?_
   obtain ⟨o,ho,h⟩:=bs h
   refine lpS ho (fun z=>[(0,.ipt 1 [[.isl 6 (map zc c)]] 0 0),(1,iA e),(5,.msl 0 0 (length z.1)),(6,bA z.2.1),(7,bA i),(8,iA z.2.2)]) (fun z=>[some (1,map rB z.1)]) (fun b=>[(0,.ipt 1 [[.isl 6 (map zc c)]] 0 0),(1,iA e),(5,.msl 0 0 (length b.1)),(6,bA b.2)]) (fun b=>[some (1,map rB b.1)]) (pG Tryz.f112 bA) (zaE [.old 0]) ?_ ?_ ?_
   ·rintro ⟨m,p,a⟩ r h
    refine zf<|A ?_
    refine zeh h y (fun D h=>?_) fun D h=>?_
    ·refine ze ?_
     refine zaA (X:=(List Bool)×Bool) (fun z=>[(0,.ipt 1 [[.isl 6 (map zc c)]] 0 0),(1,iA e),(5,.msl 0 0 (length z.1)),(6,bA z.2),(7,bA i),(8,iA a)]) (fun z=>[some (1,map rB z.1)]) (fun z=>zeP a z.1 z.2=some r) ?_ ?_
     ·refine zj<|zf ?_
      obtain ⟨N,q74,h⟩:=bs h
      refine A ?_
      refine zeh h y (fun E h=>?_) fun E h=>?_
      ·refine zy ?_
       exact ⟨⟨m,p⟩,h,zp [.old 0]⟩
      ·refine ze ?_
       obtain ⟨q,n,F,j,d,K,h⟩:=bs3 h
       refine rdA [(0,.ipt 1 [[.isl 6 (map zc c)]] 0 0),(1,iA e),(5,.msl 0 0 (length m)),(6,bA p),(7,bA i),(8,iA a),(9,.msl 1 0 (length d))] [some (1,map rB m),some (1,map zt d)] [8,17] [16,15,14,13,12,11,10,9,7,6,5,4,3,2,1,0] [(58,.isl 1 (map zt F.Impl)),(57,.ipt 6 (map zc c) (Int.toNat a) 3),(56,.ipt 6 (map zc c) (Int.toNat a) 0),(55,iA a),(54,.isl 6 (map zc c)),(53,.ipt 1 [[.isl 6 (map zc c)]] 0 0),(52,.ipt 1 [[.isl 6 (map zc c)]] 0 0),(51,.ipt 1 [[.isl 6 (map zc c)]] 0 0),(49,sA q.Super),(48,.ipt 6 (map zc c) (Int.toNat a) 1),(47,.ipt 6 (map zc c) (Int.toNat a) 0),(46,iA a),(45,.isl 6 (map zc c)),(44,.ipt 1 [[.isl 6 (map zc c)]] 0 0),(43,.ipt 1 [[.isl 6 (map zc c)]] 0 0),(42,.ipt 1 [[.isl 6 (map zc c)]] 0 0)] 2 (zvv ⟨(pb y (ldI ti y (zm j).2.2 y w)),(pb y (fa ti y y y w)),(pb y (ixI ti y ti y y y j w)),pe,(pb y (ld ti y y w)),(pb y (fa ti y y y w)),pe,pe,(pb y (ldI ti y (zm n).2.2 y w)),(pb y (fa ti y y y w)),(pb y (ixI ti y ti y y y n w)),pe,(pb y (ld ti y y w)),(pb y (fa ti y y y w)),pe,pe,t⟩ ⟨(fun _ _=>⟨_,y,y,bl 1 ti y ti y (by decide) (by decide) y y y<|⟨(.msl 1 0 1),[],[(50,.msl 1 0 1)],y,y,kz,y,zvv ⟨(pb y (ldI ti y (zm j).2.2 y w)),(pb y (fa ti y y y w)),(pb y (ixI ti y ti y y y j w)),pe,(pb y (ld ti y y w)),(pb y (fa ti y y y w)),pe,pe,pe,(pb y (fa ti y y y w)),(pb y (ixI ti y ti y y y n w)),pe,(pb y (ld ti y y w)),(pb y (fa ti y y y w)),pe,pe,t⟩ ⟨nv,(fun _ _=>⟨_,y,y,apM (l:=[q.Super]) (f:=zt) 2 ti y ti y y (by decide) ti y y y y roI (fun _=>y) y K<|⟨(.msl 2 0 (length d)),[18],[(9,.msl 2 0 (length d)),(59,.msl 2 0 (length d))],y,y,kz,y,zuJ ⟨pe,pe,(pb y (fa ti y y y w)),(pb y (ixI ti y ti y y y j w)),pe,(pb y (ld ti y y w)),(pb y (fa ti y y y w)),pe,pe,pe,(pb y (fa ti y y y w)),(pb y (ixI ti y ti y y y n w)),pe,(pb y (ld ti y y w)),(pb y (fa ti y y y w)),pe,pe,t⟩ (zp [.old 0,.old 2])⟩⟩),t⟩⟩⟩),nw,t⟩) ?_
       refine A ?_
       obtain ⟨o,ho,h⟩:=bs h
       refine lpS ho (fun z=>[(0,.ipt 1 [[.isl 6 (map zc c)]] 0 0),(1,iA e),(5,.msl 0 0 (length z.1)),(6,bA z.2.1),(7,bA i),(8,iA a),(9,.msl 1 0 (length d)),(10,iA z.2.2)]) (fun z=>[some (1,map rB z.1),some (1,map zt d)]) (fun b=>[(0,.ipt 1 [[.isl 6 (map zc c)]] 0 0),(1,iA e),(5,.msl 0 0 (length b.1)),(6,bA b.2),(7,bA i),(8,iA a)]) (fun b=>[some (1,map rB b.1)]) (pG Tryz.f112 bA) (zaE [.old 0,.old 1]) ?_ ?_ ?_
       ·rintro ⟨s,G,v⟩ r h
        refine zf<|A ?_
        refine zeh h y (fun H h=>?_) fun H h=>?_
        ·refine ze ?_
         refine zaA (X:=(List Bool)×Bool) (fun z=>[(0,.ipt 1 [[.isl 6 (map zc c)]] 0 0),(1,iA e),(5,.msl 0 0 (length z.1)),(6,bA z.2),(7,bA i),(8,iA a),(9,.msl 1 0 (length d)),(10,iA v)]) (fun z=>[some (1,map rB z.1),some (1,map zt d)]) (fun z=>zeO v z.1 z.2=some r) ?_ ?_
         ·refine zj ?_
          obtain ⟨O,q90,I,q91,h⟩:=bs2 h
          refine A ?_
          obtain ⟨P,q94,h⟩:=bs h
          refine A ?_
          refine zeh h y (fun J h=>?_) fun J h=>?_
          ·obtain ⟨Q,L,h⟩:=bs h
           refine A ?_
           refine u<|zB6 (c':=true) ti y y (zm L).2.2 y y y y y<|A ?_
           exact (⟨⟨(List.set s (Int.toNat I) true),true⟩,h,[.old 0,.old 1],ce y y<|ce y y<|cv y (zBK (by simp) y)<|ce y y<|ce y y<|ce y y<|cv y (.msl y)<|ce y y<|cn,y,⟨⟨_,y,zbs (fun _=>y)⟩,⟨_,y,zbs (fun _=>y)⟩,t⟩,y,k⟩)
          ·refine ze ?_
           exact ⟨⟨s,G⟩,h,zp [.old 0,.old 1]⟩
         ·rintro ⟨R,S⟩ h
          refine A ?_
          obtain rfl:=sm h
          exact ⟨_,y,zp [.old 0,.old 1]⟩
        ·refine zy ?_
         obtain rfl:=sm h
         exact ⟨y,_,y,zp [.old 0]⟩
       ·rintro ⟨x,B⟩ rfl
        replace h:zeQ a x B=some r:=h
        unfold zeQ at h
        refine zu ?_
        exact ⟨⟨x,B⟩,h,zp [.old 0]⟩
       ·rintro r' rfl env st hp
        obtain rfl:=sm h
        exact ⟨_,y,hp⟩
     ·rintro ⟨T,U⟩ h
      refine A ?_
      obtain rfl:=sm h
      exact ⟨_,y,zp [.old 0]⟩
    ·refine zy ?_
     obtain rfl:=sm h
     exact ⟨y,_,y,zp [.old 0]⟩
   ·rintro ⟨V,W⟩ rfl
    refine zu<|A ?_
    obtain rfl:=sm h
    exact ⟨_,y,zp [.old 0]⟩
   ·rintro r' rfl env st hp
    obtain rfl:=sm h
    exact ⟨_,y,hp⟩
  ·refine zy ?_
   obtain rfl:=sm h
   exact ⟨y,_,y,zp [.old 0]⟩
 ·rintro Y rfl
  refine zu ?_
  obtain ⟨Z,q97,h⟩:=bs h
  refine A ?_
  exact RT0
instance (a:List za)(b:Int):PF Tryz.prog 112 [.ipt 1 [[.isl 6 (map zc a)]] 0 0,iA b] (zfr a b) bA:=⟨fun _=>ziB a b⟩
def zrX(a:List za):Option ((Option zT)×Int):=
  some ((some (zT.mk a)),0)
def znG(a:Int)(b:Bool):Option (Sum (Int) (Sum (Unit) ((Option zT)×Int))):=
  cond b (some (.inr (.inr (none,1)))) (some (.inl (IntKind.i64.wrap (a+1))))
def zea(b:List za)(c:za)(d:Bool)(a:Int):Option (Sum (Bool×Int) (Sum (Bool) ((Option zT)×Int))):=
  cond (decide (a<(length c.Impl:Int))) (cond d (some (.inl (true,(IntKind.i64.wrap (a+1))))) ((idx c.Impl a).bind fun e=>(zae b e).bind fun f=>(idx b f).bind fun i=>some (.inl ((!i.Interface),(IntKind.i64.wrap (a+1)))))) (some (.inr (.inl d)))
def ziC(a:List za)(c:Int)(d:za)(e:Bool):Option (Sum (Int) (Sum (Unit) ((Option zT)×Int))):=
  (zs (fun z=>zea a d z.1 z.2) (e,0)).bind fun o=>zQ o (fun b=>znG c b) (fun r=>some (.inr (.inr r)))
def zgo(a:List za)(b:Int):Option (Sum (Int) (Sum (Unit) ((Option zT)×Int))):=
  cond (decide (b<((length a):Int))) ((idx a b).bind fun c=>(zae a c.Super).bind fun d=>(idx a d).bind fun e=>cond e.Interface (ziC a b c true) ((zfr a b).bind fun f=>ziC a b c f)) (some (.inr (.inl ())))
def zoX(a:List za):Option ((Option zT)×Int):=
  (zs (fun z=>zgo a z) 1).bind fun o=>zQ o (fun b=>zrX a) some
def zoW(a:Int):Option (Sum (Int) (Sum (Unit) ((Option zT)×Int))):=
  some (.inl (IntKind.i64.wrap (a+1)))
def zg0(c:List za)(b:za)(a:Int):Option (Sum (Int) (Sum (Unit) ((Option zT)×Int))):=
  cond (decide (a<(length b.Impl:Int))) ((idx b.Impl a).bind fun d=>(zae c d).bind fun e=>cond (decide (e<0)) (some (.inr (.inr (none,4)))) (some (.inl (IntKind.i64.wrap (a+1))))) (some (.inr (.inl ())))
def zg1(a:List za)(c:Int):Option (Sum (Int) (Sum (Unit) ((Option zT)×Int))):=
  cond (decide (c<((length a):Int))) ((idx a c).bind fun d=>(zae a d.Super).bind fun e=>cond (decide (e<0)) (some (.inr (.inr (none,4)))) ((zs (fun z=>zg0 a d z) 0).bind fun o=>zQ o (fun b=>zoW c) (fun r=>some (.inr (.inr r))))) (some (.inr (.inl ())))
def zoV(a:List za):Option ((Option zT)×Int):=
  (zs (fun z=>zg1 a z) 1).bind fun o=>zQ o (fun b=>zoX a) some
def zeR(c:List za)(b:List za)(a:Int):Option (Sum ((List za)×Int) (Sum ((List za)) ((Option zT)×Int))):=
  cond (decide (a<(length c:Int))) ((idx c a).bind fun d=>(zhN d).bind fun e=>(cond (!e) (some true) ((idx c a).bind fun f=>(zae b f.Name).bind fun i=>some (decide (0≤i)))).bind fun j=>cond j (some (.inr (.inr (none,1)))) ((idx c a).bind fun l=>(zfY 112 b [l]).bind fun m=>some (.inl (m,(IntKind.i64.wrap (a+1)))))) (some (.inr (.inl b)))
def zn5(a:List za):Option ((Option zT)×Int):=
  cond (decide (16<(length a:Int))) (some (none,3)) ((znh).bind fun c=>(zs (fun z=>zeR a z.1 z.2) (c,0)).bind fun o=>zQ o (fun b=>zoV b) some)
instance (p:List za):PF Tryz.prog 27 [.isl 6 (map zc p)] (zn5 p) (fun r=>(.tup [zjI 1 zez r.1,iA r.2])):=⟨fun r h=>by
 refine zl Tryz.func27 y kz y (zzz (zxY (zq2 (fun _=>y)) (y))) ?_
 refine A ?_
 refine zf<|A ?_
 refine zeh h y (fun N h=>?_) fun N h=>?_
 ·refine A ?_
  exact RT0
 ·refine ze ?_
  obtain ⟨O,q2,h⟩:=bs h
  refine rg y<|u<|sx [] (zqP q2)<|zv (env0:=[(0,.isl 6 (map zc p)),(16,.msl 0 0 (length O))]) (st0:=[some (6,map zc O)]) (zp [.old 0])<|A ?_
  refine zf<|A ?_
  obtain ⟨o,ho,h⟩:=bs h
  refine lpB ho (fun z=>[(0,.isl 6 (map zc p)),(4,.mpt 0 0 0),(5,iA z.2)]) (fun z=>[some (1,[[.msl 1 0 (length z.1)]]),some (6,map zc z.1)]) (fun b=>[(4,.mpt 0 0 0)]) (fun b=>[some (1,[[.msl 1 0 (length b)]]),some (6,map zc b)]) (pG Tryz.f27 (fun r=>.tup [zjI 1 zez r.1,iA r.2])) (zaE [.old 1,.old 0]) ?_ ?_
  ·rintro ⟨P,v13⟩ r h
   refine zf<|A ?_
   refine zeh h y (fun E h=>?_) fun E h=>?_
   ·refine ze<|zf<|zj<|zf ?_
    obtain ⟨v14,q14,v15,q15,Q,d,h⟩:=bs3 h
    refine A ?_
    refine zq3 (x:=Q) (j:=6) 8 y y y y y gpn (fun c=>by replace d:=bF c d;obtain ⟨R,q,d⟩:=bs d;obtain ⟨v17,S,d⟩:=bs d;obtain rfl:=sm d;exact g y c<|mv y<|g y c<|mv y<|g y c<|mv y<|g y c<|ixI ti y ti y y y q<|g y c<|fa ti y y y<|g y c<|ldI ti y (zm q).2.2 y<|g y c<|pcs (zcM P R.Name S) y y (.cons (zbO y ⟨(zgK y (fun _=>y)),t⟩) (.cons (si y) .nil)) zbF<|g y c<|geq ti y y<|zn (eg [32,33,34,35,36,37,38,39] 8 y y y y)) (fun hb=>(sm (bT hb d)).symm)<|zn ?_
    refine zeh h y (fun F h=>?_) fun F h=>?_
    ·refine A ?_
     refine zD ?_
     obtain rfl:=sm h
     exact ⟨_,y,_,y,zab []⟩
    ·refine ze ?_
     obtain ⟨T,q21,n,U,h⟩:=bs2 h
     refine ziy [(0,_),(4,_),(5,_)] [some (1,[[.msl 1 0 (length n)]]),some (6,map zc n)] [9,10,13] [0,1,2,3,4,5,6,7,8] [(49,_),(48,_),(47,_),(46,_),(45,_),(44,_),(43,_),(42,_),(41,_)] 3 (zcC (z:=by exact ⟨(fun _ _=>⟨_,y,y,bl 2 ti y ti y (by decide) (by decide) y y y<|⟨(.msl 2 0 1),[],[(50,_)],y,y,y,y,zcC (z:=by exact ⟨nv,(fun _ _=>⟨_,y,y,apM 3 ti y ti y y (by decide) ti y y y y (roX (f:=zc) (z:=[T]) y y) (fun _=>y) y U<|⟨(.msl 3 0 (length n)),[11,12],[(53,_),(52,_),(51,_)],y,y,y,y,zcC (z:=by exact ⟨nv,nv,(fun _ _=>⟨_,y,y,sto ti y y y<|⟨.any,[],[],y,y,y,t,zdg (z:=zaE [.old 0,.old 3])⟩⟩),t⟩)⟩⟩),nw,t⟩)⟩⟩),nw,nw,t⟩)) ?_
     refine A ?_
     obtain rfl:=sm h
     exact ⟨_,y,zp [.old 0,.old 1]⟩
   ·refine zy ?_
    obtain rfl:=sm h
    exact ⟨y,_,y,zp [.old 0,.old 1]⟩
  ·rintro a rfl
   refine zu<|zf<|A ?_
   obtain ⟨o,ho,h⟩:=bs h
   refine lpB ho (fun z=>[(4,.mpt 0 0 0),(6,iA z)]) (fun z=>[some (1,[[.msl 1 0 (length a)]]),some (6,map zc a)]) (fun b=>[(4,.mpt 0 0 0)]) (fun b=>[some (1,[[.msl 1 0 (length a)]]),some (6,map zc a)]) (pG Tryz.f27 (fun r=>.tup [zjI 1 zez r.1,iA r.2])) (zaE [.old 0,.old 1]) ?_ ?_
   ·rintro s r h
    refine zf<|A ?_
    refine zeh h y (fun G h=>?_) fun G h=>?_
    ·refine ze<|zf<|zj ?_
     obtain ⟨v,q36,h⟩:=bs h
     refine A ?_
     refine zf ?_
     obtain ⟨v33,V,h⟩:=bs h
     refine A ?_
     refine u<|pcs (zcM a v.Super V) y y (.cons (zbO y ⟨(zgK y (fun _=>y)),t⟩) (.cons (si y) .nil)) zbF<|A ?_
     refine zeh h y (fun H h=>?_) fun H h=>?_
     ·refine A ?_
      refine zD ?_
      obtain rfl:=sm h
      exact ⟨_,y,_,y,zab []⟩
     ·refine ze<|A ?_
      obtain ⟨o,ho,h⟩:=bs h
      refine lpS ho (fun z=>[(4,.mpt 0 0 0),(6,iA s),(7,.mpt 2 0 0),(8,iA z)]) (fun z=>[some (1,[[.msl 1 0 (length a)]]),some (6,map zc a),some (6,[(zc v)])]) (fun b=>[(4,.mpt 0 0 0),(6,iA s)]) (fun b=>[some (1,[[.msl 1 0 (length a)]]),some (6,map zc a)]) (pG Tryz.f27 (fun r=>.tup [zjI 1 zez r.1,iA r.2])) (zaE [.old 0,.old 1,.old 2]) ?_ ?_ ?_
      ·rintro v37 r h
       refine zf<|A ?_
       refine zeh h y (fun I h=>?_) fun I h=>?_
       ·refine ze<|zf<|zj ?_
        obtain ⟨W,q44,v39,Y,h⟩:=bs2 h
        refine A ?_
        refine u<|pcs (zcM a W Y) y y (.cons (zbO y ⟨(zgK y (fun _=>y)),t⟩) (.cons (si y) .nil)) zbF<|A ?_
        refine zeh h y (fun J h=>?_) fun J h=>?_
        ·refine A ?_
         refine zD ?_
         obtain rfl:=sm h
         exact ⟨_,y,_,y,zab []⟩
        ·refine ze<|A ?_
         obtain rfl:=sm h
         exact ⟨_,y,zp [.old 0,.old 1,.old 2]⟩
       ·refine zy ?_
        obtain rfl:=sm h
        exact ⟨y,_,y,zp [.old 0,.old 1]⟩
      ·rintro ⟨⟩ rfl
       refine zu<|A ?_
       obtain rfl:=sm h
       exact ⟨_,y,zp [.old 0,.old 1]⟩
      ·rintro r' rfl env st hp
       obtain rfl:=sm h
       exact ⟨_,y,hp⟩
    ·refine zy ?_
     obtain rfl:=sm h
     exact ⟨y,_,y,zp [.old 0,.old 1]⟩
   ·rintro ⟨⟩ rfl
    refine zu<|zf<|A ?_
    obtain ⟨o,ho,h⟩:=bs h
    refine lpB ho (fun z=>[(4,.mpt 0 0 0),(9,iA z)]) (fun z=>[some (1,[[.msl 1 0 (length a)]]),some (6,map zc a)]) (fun b=>[(4,.mpt 0 0 0)]) (fun b=>[some (1,[[.msl 1 0 (length a)]]),some (6,map zc a)]) (pG Tryz.f27 (fun r=>.tup [zjI 1 zez r.1,iA r.2])) (zaE [.old 0,.old 1]) ?_ ?_
    ·rintro m r h
     refine zf<|A ?_
     refine zeh h y (fun K h=>?_) fun K h=>?_
     ·refine ze<|zf<|zj ?_
      obtain ⟨e,q65,h⟩:=bs h
      refine A ?_
      refine zaA (X:=Bool) (fun z=>[(4,.mpt 0 0 0),(9,iA m),(10,.mpt 2 0 0),(11,bA z)]) (fun z=>[some (1,[[.msl 1 0 (length a)]]),some (6,map zc a),some (6,[(zc e)])]) (fun z=>ziC a m e z=some r) ?_ ?_
      ·obtain ⟨v59,B,C,q67,h⟩:=bs2 h
       rcases bb C.Interface with i |i
       ·replace h:=bT i h
        exact rdQ [] [0,1,2,3,4,5,6,7,8,9,10,11,12,13,14,15,16] [(11,_),(121,_),(120,_),(119,_),(118,_),(117,_),(116,_),(115,_),(114,_),(113,_),(112,_),(111,_),(110,_),(109,_),(108,_),(107,_),(106,_)] 0 (zdg ⟨peC,peC,peC,peC,peC,peC,peC,(by exact pb y (pcs (zcM a e.Super B) y y (.cons (zbO y ⟨(zgK y (fun _=>y)),t⟩) (.cons (si y) .nil)) zbF<|w)),peC,peC,peC,peC,peC,peC,peC,peC,peC,t⟩ (by exact ⟨true,h,zaE [.old 0,.old 1,.old 2]⟩))
       ·replace h:=bF i h
        obtain ⟨Z,q69,h⟩:=bs h
        exact rdQ [] [0,1,2,3,4,5,6,7,8,9,10,11,12,13,14,15,16] [(11,_),(121,_),(120,_),(119,_),(118,_),(117,_),(116,_),(115,_),(114,_),(113,_),(112,_),(111,_),(110,_),(109,_),(108,_),(107,_),(106,_)] 0 (zdg ⟨peC,peC,peC,peC,peC,peC,peC,(by exact pb y (pcs (zcM a e.Super B) y y (.cons (zbO y ⟨(zgK y (fun _=>y)),t⟩) (.cons (si y) .nil)) zbF<|w)),peC,peC,peC,peC,peC,peC,(by exact fun _=>pag (b:=C.Interface) y y y y i y (pcs (ziB a m q69) y y (.cons (zbO y ⟨(zgK y (fun _=>y)),t⟩) (.cons (si y) .nil)) zbF<|w)),peC,peC,t⟩ (by exact ⟨Z,h,zaE [.old 0,.old 1,.old 2]⟩))
      ·rintro v62 h
       refine zf<|A ?_
       obtain ⟨o,ho,h⟩:=bs h
       refine lpS ho (fun z=>[(4,.mpt 0 0 0),(9,iA m),(10,.mpt 2 0 0),(11,bA z.1),(12,iA z.2)]) (fun z=>[some (1,[[.msl 1 0 (length a)]]),some (6,map zc a),some (6,[(zc e)])]) (fun b=>[(4,.mpt 0 0 0),(9,iA m),(11,bA b)]) (fun b=>[some (1,[[.msl 1 0 (length a)]]),some (6,map zc a)]) (pG Tryz.f27 (fun r=>.tup [zjI 1 zez r.1,iA r.2])) (zaE [.old 0,.old 1,.old 2]) ?_ ?_ ?_
       ·rintro ⟨D,v69⟩ r h
        refine zf<|A ?_
        refine zeh h y (fun L h=>?_) fun L h=>?_
        ·refine ze<|zf<|zj ?_
         rcases bb D with l |l
         ·replace h:=bT l h
          refine ziy [(4,_),(9,_),(10,_),(11,_),(12,_)] [some (1,[[.msl 1 0 (length a)]]),some (6,map zc a),some (6,[(zc e)])] [] [0,1,2,3,4,5,6,7,8,9,10,11,12,13,14,15,16,17,18] [(11,_),(146,_),(145,_),(144,_),(143,_),(142,_),(141,_),(140,_),(139,_),(138,_),(137,_),(136,_),(135,_),(134,_),(133,_),(132,_),(131,_),(130,_),(129,_)] 0 (zdg (z:=zaE [.old 0,.old 1,.old 2])) ?_
          refine A ?_
          obtain rfl:=sm h
          exact ⟨_,y,zp [.old 0,.old 1,.old 2]⟩
         ·replace h:=bF l h
          obtain ⟨v70,q77,v71,q78,v72,q79,h⟩:=bs3 h
          refine ziy [(4,_),(9,_),(10,_),(11,_),(12,_)] [some (1,[[.msl 1 0 (length a)]]),some (6,map zc a),some (6,[(zc e)])] [] [0,1,2,3,4,5,6,7,8,9,10,11,12,13,14,15,16,17,18] [(11,_),(146,_),(145,_),(144,_),(143,_),(142,_),(141,_),(140,_),(139,_),(138,_),(137,_),(136,_),(135,_),(134,_),(133,_),(132,_),(131,_),(130,_),(129,_)] 0 (zdg ⟨peC,peC,peC,peC,peC,peC,peC,peC,peC,peC,peC,peC,(by exact fun _=>pag (b:=D) y y y y l y (pcs (zcM a v70 q78) y y (.cons (zbO y ⟨(zgK y (fun _=>y)),t⟩) (.cons (si y) .nil)) zbF<|w)),peC,peC,peC,peC,peC,peC,t⟩ (zaE [.old 0,.old 1,.old 2])) ?_
          refine A ?_
          obtain rfl:=sm h
          exact ⟨_,y,zp [.old 0,.old 1,.old 2]⟩
        ·refine zy ?_
         obtain rfl:=sm h
         exact ⟨y,_,y,zp [.old 0,.old 1]⟩
       ·rintro v73 rfl
        refine zu<|A ?_
        refine zeh h y (fun M h=>?_) fun M h=>?_
        ·refine A ?_
         refine zD ?_
         obtain rfl:=sm h
         exact ⟨_,y,_,y,zab []⟩
        ·refine ze<|A ?_
         obtain rfl:=sm h
         exact ⟨_,y,zp [.old 0,.old 1]⟩
       ·rintro r' rfl env st hp
        obtain rfl:=sm h
        exact ⟨_,y,hp⟩
     ·refine zy ?_
      obtain rfl:=sm h
      exact ⟨y,_,y,zp [.old 0,.old 1]⟩
    ·rintro ⟨⟩ rfl
     refine zu<|A ?_
     refine zD ?_
     obtain rfl:=sm h
     exact ⟨_,y,[],zo1 ⟨(rsP y y ⟨(zij y y (fun _=>y)),t⟩ y),(ci y),t⟩,y,t,y,k⟩⟩
def vK(h0:List za)(h1:T2)(c:T0)(m:zb)(x0:AV)(x1:AV)(x2:AV):List AV:=[.ipt 2 [[.isl 6 (map zc h0),.imp (map (rKV (fun x=>iA x)) h1)]] 0 0,sA c,sA m.Name,.isl 1 (map zt m.Params),sA m.Ret,bA m.Static,bA m.Abstract,iA m.Locals,iA m.Stack,.isl 4 (map zi m.Code),.isl 3 (map zx m.Maps),.isl 4 (map zap m.Traps),x0,x1,x2]
abbrev sV(h0:List za)(h1:T2)(c:T0)(m:zb)(x y:T1)(b:Bool)(t:St):St:=some (15,[vK h0 h1 c m (.msl 1 0 x.length) (.msl 2 0 y.length) (bA b)])::some (1,x.map zt)::some (1,y.map zt)::t
abbrev sU(h0:List za)(h1:T2)(c:T0)(m:zb)(x y:T1)(b:Bool)(t:St):St:=some (15,[vK h0 h1 c m (.msl 1 0 x.length) (.msl 3 0 y.length) (bA b)])::some (1,x.map zt)::none ::some (1,y.map zt)::t
abbrev tV(h0:List za)(h1:T2)(c:T0)(m:zb)(x y:T1)(b:Bool)(t:List SB):List SB:=.one 15 (vK h0 h1 c m (.msl 1 0 x.length) (.msl 2 0 y.length) (bA b)):: .many 1 (x.map zt):: .many 1 (y.map zt)::t
abbrev tU(h0:List za)(h1:T2)(c:T0)(m:zb)(x y:T1)(b:Bool)(t:List SB):List SB:=.one 15 (vK h0 h1 c m (.msl 1 0 x.length) (.msl 3 0 y.length) (bA b)):: .many 1 (x.map zt):: .no :: .many 1 (y.map zt)::t
def ztP(a:T0):Unit:=
  ()
theorem zsO(a:T0){r:Unit}(h:ztP a=r):SC Tryz.prog 21 [sA a] [] (.agg [sA a,sA [79,98,106,101,99,116],bA false,.lit (.slice none 0 0),.msl 0 0 1,.msl 1 0 1]) [.xs 3 [[sA [120],sA [73],bA false]],.xs 10 [[sA [109,97,105,110],.lit (.slice none 0 0),sA [86],bA true,bA false,iA 0,iA 0,.msl 2 0 1,.lit (.slice none 0 0),.lit (.slice none 0 0)]],.xs 4 [[iA 46,iA 0,sA [],sA []]]]:=by
 refine ⟨⟨t,t,t,t⟩,zP Tryz.func21 y kz y ?_⟩
 unfold ztP at h
 refine A ?_
 refine A ?_
 refine zD ?_
 obtain rfl:=h
 exact ⟨_,y,zab [.old 1,.old 3,.old 2]⟩
def ztQ:Unit:=
  ()
theorem zoD{r:Unit}(h:ztQ=r):SC Tryz.prog 93 [] [] (.msl 0 0 3) [.xs 6 [[sA [70,97,99,101],sA [79,98,106,101,99,116],bA true,.lit (.slice none 0 0),.lit (.slice none 0 0),.msl 1 0 1],[sA [65,97],sA [79,98,106,101,99,116],bA false,.msl 2 0 1,.msl 3 0 2,.msl 4 0 1],[sA [66,98],sA [65,97],bA false,.lit (.slice none 0 0),.msl 6 0 1,.msl 7 0 1]],.xs 10 [[sA [102],.lit (.slice none 0 0),sA [73],bA false,bA true,iA 0,iA 0,.lit (.slice none 0 0),.lit (.slice none 0 0),.lit (.slice none 0 0)]],.xs 1 [[sA [70,97,99,101]]],.xs 3 [[sA [120],sA [73],bA false],[sA [115],sA [73],bA true]],.xs 10 [[sA [102],.lit (.slice none 0 0),sA [73],bA false,bA false,iA 1,iA 1,.msl 5 0 2,.lit (.slice none 0 0),.lit (.slice none 0 0)]],.xs 4 [[iA 1,iA 5,sA [],sA []],[iA 47,iA 0,sA [],sA []]],.xs 3 [[sA [121],sA [91,65,97],bA false]],.xs 10 [[sA [109,97,105,110],.lit (.slice none 0 0),sA [86],bA true,bA false,iA 0,iA 0,.msl 8 0 1,.lit (.slice none 0 0),.lit (.slice none 0 0)]],.xs 4 [[iA 46,iA 0,sA [],sA []]]]:=by
 refine ⟨⟨t,t,t,t,t,t,t,t,t,t⟩,zP Tryz.func93 y kz y ?_⟩
 unfold ztQ at h
 refine A ?_
 refine A ?_
 refine rg y<|u<|bl 2 ti y ti y (by decide) (by decide) y y y<|u<|bd ti y y y<|u<|bd ti y y y<|u<|bl 3 ti y ti y (by decide) (by decide) y y y<|u<|bd ti y y y<|u<|bd ti y y y<|u<|bl 4 ti y ti y (by decide) (by decide) y y y<|u<|bd (parts:=[(0,sA [102]),(2,sA [73]),(5,iA 1),(6,iA 1),(7,.msl 4 0 2)]) (cs:=[sA [102],.lit (.slice none 0 0),sA [73],bA false,bA false,iA 1,iA 1,.msl 4 0 2,.lit (.slice none 0 0),.lit (.slice none 0 0)]) ti y y kz<|u<|bl 5 ti y ti y (by decide) (by decide) y y y<|u<|bd (parts:=[(0,sA [65,97]),(1,sA [79,98,106,101,99,116]),(3,.msl 2 0 1),(4,.msl 3 0 2),(5,.msl 5 0 1)]) (cs:=[sA [65,97],sA [79,98,106,101,99,116],bA false,.msl 2 0 1,.msl 3 0 2,.msl 5 0 1]) ti y y kz<|u<|al 6 ti y<|u<|sto ti y y y<|zn ?_
 refine rg y<|u<|sx [] (zsO [66,98] y)<|u<|al 10 ti y<|A ?_
 refine A ?_
 refine A ?_
 refine u<|bl 11 ti y ti y (by decide) (by decide) y y y<|A ?_
 refine A ?_
 refine u<|bl 12 ti y ti y (by decide) (by decide) y y y<|A ?_
 refine zD ?_
 obtain rfl:=h
 exact ⟨_,y,zab [.old 12,.old 0,.old 2,.old 3,.old 5,.old 4,.old 11,.old 8,.old 9]⟩
def zao(a:List za)(b:T2)(c:T0):Option (za×Bool):=
  cond (!(zaY a b c)) (some ((za.mk [] [] false [] [] []),false)) ((zcA a b c).bind fun d=>some (d,true))
theorem zhj(a:List za)(b:T2)(c:T0){r:za×Bool}(h:zao a b c=some r):zaF Tryz.prog 106 [.ipt 2 [[.isl 6 (map zc a),.imp (map (rKV (fun x=>iA x)) b)]] 0 0,sA c] (.tup [.agg (zc r.1),bA r.2]):=by
 refine zl Tryz.func106 y kz y y<|A ?_
 refine zf<|A ?_
 refine zeh h y (fun d h=>?_) fun d h=>?_
 ·refine A ?_
  exact RT0
 ·refine ze ?_
  obtain ⟨e,f,h⟩:=bs h
  refine A ?_
  exact RT0
instance (a:List za)(b:T2)(c:T0):PF Tryz.prog 106 [.ipt 2 [[.isl 6 (map zc a),.imp (map (rKV (fun x=>iA x)) b)]] 0 0,sA c] (zao a b c) (fun r=>(.tup [.agg (zc r.1),bA r.2])):=⟨fun _=>zhj a b c⟩
def zhl(b:List za)(c:T2)(a:T0):Option (Bool):=
  some ((a == [73])||(zaY b c a))
def zcJ(d:T0)(a:T0)(c:Bool):Option (Sum (T0×T0×Bool) (Sum (T0) (Bool))):=
  cond c ((zfR a).bind fun b=>some (.inl (a,b.1,b.2))) (some (.inr (.inl d)))
def zd5(d:List za)(e:T2)(a:T0):Option (Bool):=
  (zfR a).bind fun c=>(zs (fun z=>zcJ z.1 z.2.1 z.2.2) (a,c.1,c.2)).bind fun o=>zQ o (fun b=>zhl d e b) some
instance (c:List za)(d:T2)(e:T0):PF Tryz.prog 275 [.ipt 2 [[.isl 6 (map zc c),.imp (map (rKV (fun x=>iA x)) d)]] 0 0,sA e] (zd5 c d e) bA:=⟨fun r h=>by
 refine zl Tryz.func275 y kz y y<|A ?_
 refine zf ?_
 obtain ⟨p,q,h⟩:=bs h
 refine A ?_
 obtain ⟨o,ho,h⟩:=bs h
 refine lpB ho (fun z=>[(0,.ipt 2 [[.isl 6 (map zc c),.imp (map (rKV (fun x=>iA x)) d)]] 0 0),(1,sA z.1),(5,sA z.2.1),(6,bA z.2.2)]) (fun z=>[]) (fun b=>[(0,.ipt 2 [[.isl 6 (map zc c),.imp (map (rKV (fun x=>iA x)) d)]] 0 0),(1,sA b)]) (fun b=>[]) (pG Tryz.f275 bA) (zaE []) ?_ ?_
 ·rintro ⟨s,l,m⟩ r h
  refine zf<|A ?_
  refine zeh h y (fun f h=>?_) fun f h=>?_
  ·refine ze<|zf<|zj<|A ?_
   obtain ⟨n,v,h⟩:=bs h
   refine A ?_
   obtain rfl:=sm h
   exact ⟨_,y,zp []⟩
  ·refine zy ?_
   obtain rfl:=sm h
   exact ⟨y,_,y,zp []⟩
 ·rintro i rfl
  refine zu ?_
  refine rg y<|u<|mv y<|u<|nep ti y y y y y y<|u<|mv y<|g y y<|mv y<|g y y<|seq ti y y<|g y y<|mv y<|zq3 (j:=5) 3 y y y y y (gps y y y) (fun a=>g y a<|mv y<|g y a<|mv y<|g y a<|pc (zj1 c d i y) y y y<|zn (egO [25,26,27] 3 a y y y y)) orT<|u<|pk (b:=true) y y<|u<|asg y<|zn ?_
  exact RT0⟩
def zkb(a:T1):Option (T1):=
  some a
def za7(b:List za)(c:T2)(a:T0)(d:T1):Option (Sum (T0×T1) (Sum (T1) (T1))):=
  cond (zaY b c a) ((zfY 16 d [a]).bind fun e=>(zcA b c a).bind fun f=>some (.inl (f.Super,e))) (some (.inr (.inl d)))
def zbg(a:List za)(c:T2)(d:T0):Option (T1):=
  (zs (fun z=>za7 a c z.1 z.2) (d,[])).bind fun o=>zQ o (fun b=>zkb b) some
theorem zch(a:List za)(c:T2)(d:T0){r:T1}(h:zbg a c d=some r):SC Tryz.prog 109 [.ipt 2 [[.isl 6 (map zc a),.imp (map (rKV (fun x=>iA x)) c)]] 0 0,sA d] [] (.msl 0 0 (length r)) [.many 1 (map zt r)]:=by
 refine ⟨⟨zgu (sz:=1) (fun _=>y),t⟩,zP Tryz.func109 y kz y ?_⟩
 refine A ?_
 refine A ?_
 obtain ⟨o,ho,h⟩:=bs h
 refine lpA ho (fun z=>[(0,.ipt 2 [[.isl 6 (map zc a),.imp (map (rKV (fun x=>iA x)) c)]] 0 0),(1,sA z.1),(5,.msl 0 0 (length z.2))]) (fun z=>[some (1,map zt z.2)]) (fun b=>[(5,.msl 0 0 (length b))]) (fun b=>[some (1,map zt b)]) (pF Tryz.f109 (fun r=>.msl 0 0 (length r)) fun r=>[some (1,map zt r)]) ⟨[.fresh 1],ce y y<|ce y y<|cv y (.nilown y)<|cn,y,⟨w,t⟩,y,k⟩ ?_ ?_
 ·rintro ⟨i,p⟩ r h
  refine zf<|A ?_
  refine zeh h y (fun e h=>?_) fun e h=>?_
  ·refine ze<|zj ?_
   obtain ⟨l,j,h⟩:=bs h
   refine A ?_
   refine u<|apM 2 ti y ti y y (by decide) ti y y y y (roX (f:=zt) (z:=[i]) y y) (fun _=>y) y j<|A ?_
   obtain ⟨m,q,h⟩:=bs h
   refine A ?_
   obtain rfl:=sm h
   exact ⟨_,y,zp [.old 2]⟩
  ·refine zy ?_
   obtain rfl:=sm h
   exact ⟨y,_,y,zp [.old 0]⟩
 ·rintro n rfl
  refine A ?_
  exact RT1
def zgM(a:T1):Option (T1):=
  (zvi a).bind fun b=>some b
def zgL(a:Int)(b:T1)(c:T1):Option (Sum (T1×T1×Int) (Sum (T1) (T1))):=
  some (.inl (b,c,(IntKind.i64.wrap (a+1))))
def zd4(a:Int)(b:T1):Option (Sum (T1×Int) (Sum (T1) (T1))):=
  some (.inl (b,(IntKind.i64.wrap (a+1))))
def zcI(c:za)(a:T1)(b:Int):Option (Sum (T1×Int) (Sum (T1) (T1))):=
  cond (decide (b<(length c.Impl:Int))) ((idx c.Impl b).bind fun d=>(zI a d).bind fun e=>cond (!e) ((zfY 16 a [d]).bind fun f=>zd4 b f) (zd4 b a)) (some (.inr (.inl a)))
def zcH(a:T1)(c:Int)(d:za)(e:T1):Option (Sum (T1×T1×Int) (Sum (T1) (T1))):=
  (zs (fun z=>zcI d z.1 z.2) (a,0)).bind fun o=>zQ o (fun b=>zgL c e b) (fun r=>some (.inr (.inr r)))
def za6(i:List za)(j:T2)(d:T1)(a:T1)(b:Int):Option (Sum (T1×T1×Int) (Sum (T1) (T1))):=
  cond (decide (b<((length a):Int))) ((idx a b).bind fun e=>(zcA i j e).bind fun c=>cond c.Interface ((zfY 16 d [c.Name]).bind fun f=>zcH a b c f) (zcH a b c d)) (some (.inr (.inl d)))
def zd3(a:List za)(c:T2)(d:T0):Option (T1):=
  cond (!(zaY a c d)) (some []) ((zbg a c d).bind fun e=>(zs (fun z=>za6 a c z.1 z.2.1 z.2.2) ([],e,0)).bind fun o=>zQ o (fun b=>zgM b) some)
theorem zhk(d:List za)(e:T2)(s:T0){r:T1}(h:zd3 d e s=some r):SC Tryz.prog 276 [.ipt 2 [[.isl 6 (map zc d),.imp (map (rKV (fun x=>iA x)) e)]] 0 0,sA s] [] (.msl 0 0 (length r)) [.many 1 (map zt r)]:=by
 refine ⟨⟨zgu (sz:=1) (fun _=>y),t⟩,zP Tryz.func276 y kz y ?_⟩
 refine A ?_
 refine zf<|A ?_
 refine zeh h y (fun E h=>?_) fun E h=>?_
 ·refine A ?_
  refine zD ?_
  obtain rfl:=sm h
  exact ⟨_,y,[.fresh 1],.nilown y,y,⟨w,t⟩,y,k⟩
 ·refine ze<|A ?_
  obtain ⟨F,N,h⟩:=bs h
  refine A ?_
  refine u<|sx [] (zch d e s N)<|zv (env0:=[(0,.ipt 2 [[.isl 6 (map zc d),.imp (map (rKV (fun x=>iA x)) e)]] 0 0),(5,.lit (.slice none 0 0)),(17,.msl 0 0 (length F))]) (st0:=[some (1,map zt F)]) (zp [.old 0])<|A ?_
  refine zf<|A ?_
  obtain ⟨o,ho,h⟩:=bs h
  refine lpB ho (fun z=>[(0,.ipt 2 [[.isl 6 (map zc d),.imp (map (rKV (fun x=>iA x)) e)]] 0 0),(5,.msl 0 0 (length z.1)),(6,.msl 1 0 (length z.2.1)),(7,iA z.2.2)]) (fun z=>[some (1,map zt z.1),some (1,map zt z.2.1)]) (fun b=>[(5,.msl 0 0 (length b))]) (fun b=>[some (1,map zt b)]) (pF Tryz.f276 (fun r=>.msl 0 0 (length r)) fun r=>[some (1,map zt r)]) ⟨[.fresh 1,.old 0],ce y y<|cv y (.nilown y)<|cv y (.msl y)<|ce y y<|cn,y,⟨w,⟨_,y,zbs (fun _=>y)⟩,t⟩,y,k⟩ ?_ ?_
  ·rintro ⟨G,j,i⟩ r h
   refine zf<|A ?_
   refine zeh h y (fun v h=>?_) fun v h=>?_
   ·refine ze<|zf<|zj ?_
    obtain ⟨O,P,a,Q,h⟩:=bs2 h
    refine A ?_
    refine zaA (X:=T1) (fun z=>[(0,.ipt 2 [[.isl 6 (map zc d),.imp (map (rKV (fun x=>iA x)) e)]] 0 0),(5,.msl 0 0 (length z)),(6,.msl 1 0 (length j)),(7,iA i),(8,.mpt 2 0 0)]) (fun z=>[some (1,map zt z),some (1,map zt j),some (6,[(zc a)])]) (fun z=>zcH j i a z=some r) ?_ ?_
    ·refine A ?_
     refine zeh h y (fun B h=>?_) fun B h=>?_
     ·obtain ⟨H,I,h⟩:=bs h
      refine A ?_
      refine u<|apM 4 ti y ti y y (by decide) ti y y y y (roX (f:=zt) (z:=[a.Name]) y y) (fun _=>y) y I<|A ?_
      exact (⟨H,h,zp [.old 4,.old 1,.old 2]⟩)
     ·refine ze ?_
      exact ⟨G,h,zp [.old 0,.old 1,.old 2]⟩
    ·rintro c h
     refine A ?_
     obtain ⟨o,ho,h⟩:=bs h
     refine lpS ho (fun z=>[(0,.ipt 2 [[.isl 6 (map zc d),.imp (map (rKV (fun x=>iA x)) e)]] 0 0),(5,.msl 0 0 (length c)),(6,.msl 1 0 (length z.1)),(7,iA i),(38,.isl 1 (map zt a.Impl)),(39,iA (length a.Impl:Int)),(40,iA z.2)]) (fun z=>[some (1,map zt c),some (1,map zt z.1)]) (fun b=>[(0,.ipt 2 [[.isl 6 (map zc d),.imp (map (rKV (fun x=>iA x)) e)]] 0 0),(5,.msl 0 0 (length c)),(6,.msl 1 0 (length b)),(7,iA i)]) (fun b=>[some (1,map zt c),some (1,map zt b)]) (pF Tryz.f276 (fun r=>.msl 0 0 (length r)) fun r=>[some (1,map zt r)]) (zaE [.old 0,.old 1]) ?_ ?_ ?_
     ·rintro ⟨l,m⟩ r h
      refine A ?_
      refine zf ?_
      refine zeh h y (fun C h=>?_) fun C h=>?_
      ·refine ze ?_
       refine zaA (X:=T1) (fun z=>[(0,.ipt 2 [[.isl 6 (map zc d),.imp (map (rKV (fun x=>iA x)) e)]] 0 0),(5,.msl 0 0 (length c)),(6,.msl 1 0 (length z)),(7,iA i),(38,.isl 1 (map zt a.Impl)),(39,iA (length a.Impl:Int)),(40,iA m)]) (fun z=>[some (1,map zt c),some (1,map zt z)]) (fun z=>zd4 m z=some r) ?_ ?_
       ·refine zj ?_
        obtain ⟨n,R,h⟩:=bs h
        refine A ?_
        obtain ⟨S,J,h⟩:=bs h
        refine rg y<|u<|mv y<|u<|mv y<|u<|pcs (zag l n J) y y (.cons (zgK y (fun _=>y)) (.cons (si y) .nil)) zbF<|A ?_
        refine zeh h y (fun D h=>?_) fun D h=>?_
        ·obtain ⟨K,L,h⟩:=bs h
         refine A ?_
         refine u<|apM 3 ti y ti y y (by decide) ti y y y y (roX (f:=zt) (z:=[n]) y y) (fun _=>y) y L<|A ?_
         exact (⟨K,h,zp [.old 0,.old 3]⟩)
        ·refine ze ?_
         exact ⟨l,h,zp [.old 0,.old 1]⟩
       ·rintro T h
        refine A ?_
        obtain rfl:=sm h
        exact ⟨_,y,zp [.old 0,.old 1]⟩
      ·refine zy ?_
       obtain rfl:=sm h
       exact ⟨y,_,y,zp [.old 0,.old 1]⟩
     ·rintro U rfl
      refine zu<|A ?_
      obtain rfl:=sm h
      exact ⟨_,y,zp [.old 0,.old 1]⟩
     ·rintro r' rfl env st hp
      obtain rfl:=sm h
      exact ⟨_,y,hp⟩
   ·refine zy ?_
    obtain rfl:=sm h
    exact ⟨y,_,y,zp [.old 0]⟩
  ·rintro M rfl
   refine zu ?_
   obtain ⟨p,q,h⟩:=bs h
   refine rg y<|u<|mv y<|u<|sx [0] (zy3 M q)<|zv (env0:=[(5,.msl 0 0 (length p))]) (st0:=[some (1,map zt p)]) ⟨[.old 0],cv y (zBK (zxl q) y)<|cn,y,⟨⟨_,y,zbs (fun _=>y)⟩,t⟩,y,k⟩<|zn ?_
   refine A ?_
   exact RT1
def zbt(q:((List za)×T2×T0×T0→Option Bool))(b:List za)(c:T2)(d:T0)(a:T0):Option (Bool):=
  (zd5 b c d).bind fun s=>(cond (!s) (some true) ((zd5 b c a).bind fun v=>some (!v))).bind fun x=>cond x (some false) ((zfR d).bind fun e=>(zfR a).bind fun f=>cond (d == a) (some true) (cond (e.2&&f.2) ((cond ((!(e.1 == [73]))&&(!(f.1 == [73]))) ((q (b,c,e.1,f.1)).bind fun i=>some i) (some false)).bind fun j=>some j) (cond e.2 (some (a == [79,98,106,101,99,116])) ((zbg b c d).bind fun l=>(zI l a).bind fun m=>(cond m (some true) ((zd3 b c d).bind fun n=>(zI n a).bind fun o=>some o)).bind fun p=>some p))))
theorem zkq(p:((List za)×T2×T0×T0→Option Bool))(hrec:∀z r,p z=some r→zaF Tryz.prog 196 [.ipt 2 [[.isl 6 (map zc z.1),.imp (map (rKV (fun x=>iA x)) z.2.1)]] 0 0,sA z.2.2.1,sA z.2.2.2] (bA r))(e:List za)(f:T2)(i:T0)(l:T0){r:Bool}(h:zbt p e f i l=some r):zaF Tryz.prog 196 [.ipt 2 [[.isl 6 (map zc e),.imp (map (rKV (fun x=>iA x)) f)]] 0 0,sA i,sA l] (bA r):=by
 refine zl Tryz.func196 y kz y y<|A ?_
 refine zf ?_
 obtain ⟨N,O,P,Q,h⟩:=bs2 h
 refine A ?_
 refine zeh h y (fun q h=>?_) fun q h=>?_
 ·refine A ?_
  exact RT0
 ·refine ze ?_
  obtain ⟨I,R,h⟩:=bs h
  refine A ?_
  obtain ⟨J,S,h⟩:=bs h
  refine A ?_
  refine zf<|zj<|A ?_
  refine zeh h y (fun s h=>?_) fun s h=>?_
  ·refine A ?_
   exact RT0
  ·refine A ?_
   refine zeh h y (fun n h=>?_) fun n h=>?_
   ·obtain ⟨v,d,h⟩:=bs h
    refine A ?_
    refine zhw (x:=v) (j:=6) 4 y y y y y gpn (fun c=>by replace d:=bT c d;obtain ⟨K,B,d⟩:=bs d;obtain rfl:=sm d;exact g y c<|mv y<|g y c<|mv y<|g y c<|mv y<|g y c<|pc (hrec (e,f,I.1,J.1) _ B) y y y<|zn (eg [47,48,49,50] 4 y y y y)) (fun hb=>(sm (bF hb d)).symm)<|A ?_
    exact RT0
   ·refine A ?_
    refine zeh h y (fun o h=>?_) fun o h=>?_
    ·refine A ?_
     exact RT0
    ·refine ze ?_
     obtain ⟨m,C,L,D,E,b,h⟩:=bs3 h
     refine A ?_
     refine u<|sx [] (zch e f i C)<|zv (env0:=[(0,.ipt 2 [[.isl 6 (map zc e),.imp (map (rKV (fun x=>iA x)) f)]] 0 0),(1,sA i),(2,sA l),(58,.msl 0 0 (length m))]) (st0:=[some (1,map zt m)]) (zp [.old 0])<|u<|mv y<|u<|pcs (zag m l D) y y (.cons (zgK y (fun _=>y)) (.cons (si y) .nil)) zbF<|u<|mv y<|zBX (x:=E) (j:=5) 5 1 y y y y y gpn (fun a=>by replace b:=bF a b;obtain ⟨F,G,b⟩:=bs b;obtain ⟨M,H,b⟩:=bs b;obtain rfl:=sm b;exact g y a<|mv y<|g y a<|mv y<|g y a<|sx [] (zhk e f i G)<|g y a<|mv y<|g y a<|pcs (zag F l H) y y (.cons (zgK y (fun _=>y)) (.cons (si y) .nil)) zbF<|zn (xg [62,63,64,65,66] 5 y y y y y y)) (fun hb=>(sm (bT hb b)).symm)<|A ?_
     exact RT0
def zbC(a:List za)(b:T2)(c:T0)(d:T0):Option Bool:=
  zAP (fun e z=>zbt e z.1 z.2.1 z.2.2.1 z.2.2.2) (a,b,c,d)
theorem zck(b:List za)(c:T2)(d:T0)(e:T0){r:Bool}(h:zbC b c d e=some r):zaF Tryz.prog 196 [.ipt 2 [[.isl 6 (map zc b),.imp (map (rKV (fun x=>iA x)) c)]] 0 0,sA d,sA e] (bA r):=
  zxa (F:=(fun a z=>zbt a z.1 z.2.1 z.2.2.1 z.2.2.2)) (Q:=fun z r=>zaF Tryz.prog 196 [.ipt 2 [[.isl 6 (map zc z.1),.imp (map (rKV (fun x=>iA x)) z.2.1)]] 0 0,sA z.2.2.1,sA z.2.2.2] (bA r)) (fun a hv z r h=>zkq a hv z.1 z.2.1 z.2.2.1 z.2.2.2 h) h
def zdz(b:List za)(c:T2)(a:T0):Option (Bool):=
  (cond ((a == [78])||(a == [84])) (some true) ((zbC b c a a).bind fun d=>some d)).bind fun e=>some e
instance (f:List za)(i:T2)(e:T0):PF Tryz.prog 193 [.ipt 2 [[.isl 6 (map zc f),.imp (map (rKV (fun x=>iA x)) i)]] 0 0,sA e] (zdz f i e) bA:=⟨fun r h=>by
 refine zl Tryz.func193 y kz y y<|A ?_
 obtain ⟨l,c,h⟩:=bs h
 refine rg y<|u<|mv y<|u<|nep ti y y y y y y<|u<|mv y<|g y y<|mv y<|g y y<|seq ti y y<|g y y<|mv y<|zq3 (j:=5) 2 y y y y y (gps y y y) (fun d=>g y d<|mv y<|g y d<|seq ti y y<|zn (egO [11,12] 2 d y y y y)) orT<|g y y<|mv y<|zq3 (x:=l) (j:=9) 4 y y y y y (gps y y y) (fun a=>by replace c:=bF a c;obtain ⟨n,m,c⟩:=bs c;obtain rfl:=sm c;exact g y a<|mv y<|g y a<|mv y<|g y a<|mv y<|g y a<|pc (zck f i e e m) y y y<|zn (eg [15,16,17,18] 4 y y y y)) (fun hb=>(sm (bT hb c)).symm)<|u<|pk (b:=true) y y<|u<|asg y<|zn ?_
 exact RT0⟩
def znO:Option (T0×zq×Bool):=
  some ([],(zq.mk [] [] false),false)
def zdU(i:List za)(j:T2)(l:T0)(e:T1)(a:Int):Option (Sum (Int) (Sum (Unit) (T0×zq×Bool))):=
  cond (decide (a<((length e):Int))) ((idx e a).bind fun b=>(zao i j b).bind fun c=>(zhX c.1 l).bind fun d=>cond (decide (0≤d)) ((idx c.1.Fields d).bind fun f=>some (.inr (.inr (b,f,true)))) (some (.inl (IntKind.i64.wrap (a+1))))) (some (.inr (.inl ())))
def zhJ(a:List za)(c:T2)(d:T0)(e:T0):Option (T0×zq×Bool):=
  (zbg a c d).bind fun f=>(zs (fun z=>zdU a c e f z) 0).bind fun o=>zQ o (fun b=>znO) some
instance (a:List za)(c:T2)(f:T0)(d:T0):PF Tryz.prog 134 [.ipt 2 [[.isl 6 (map zc a),.imp (map (rKV (fun x=>iA x)) c)]] 0 0,sA f,sA d] (zhJ a c f d) (fun r=>(.tup [sA r.1,.agg (zA r.2.1),bA r.2.2])):=⟨fun r h=>by
 refine zl Tryz.func134 y kz y y<|A ?_
 refine zf ?_
 obtain ⟨e,p,h⟩:=bs h
 refine A ?_
 refine u<|sx [] (zch a c f p)<|zv (env0:=[(0,.ipt 2 [[.isl 6 (map zc a),.imp (map (rKV (fun x=>iA x)) c)]] 0 0),(2,sA d),(7,.mpt 0 0 0),(16,.msl 1 0 (length e))]) (st0:=[some (3,[[sA [],sA [],bA false]]),some (1,map zt e)]) (zp [.old 0,.old 1])<|A ?_
 obtain ⟨o,ho,h⟩:=bs h
 refine lpB ho (fun z=>[(0,.ipt 2 [[.isl 6 (map zc a),.imp (map (rKV (fun x=>iA x)) c)]] 0 0),(2,sA d),(7,.mpt 0 0 0),(16,.msl 1 0 (length e)),(17,iA ((length e):Int)),(18,iA z)]) (fun z=>[some (3,[[sA [],sA [],bA false]]),some (1,map zt e)]) (fun b=>[(7,.mpt 0 0 0)]) (fun b=>[some (3,[[sA [],sA [],bA false]])]) (pG Tryz.f134 (fun r=>.tup [sA r.1,.agg (zA r.2.1),bA r.2.2])) (zaE [.old 0,.old 1]) ?_ ?_
 ·rintro q r h
  refine A ?_
  refine zf ?_
  refine zeh h y (fun j h=>?_) fun j h=>?_
  ·refine ze<|zf<|zj ?_
   obtain ⟨s,D,h⟩:=bs h
   refine A ?_
   obtain ⟨l,v,h⟩:=bs h
   refine A ?_
   obtain ⟨B,m,h⟩:=bs h
   refine rg y<|u<|ld ti y y<|u<|mv y<|u<|pc (zlv l.1 d m) y y y<|u<|asg y<|zn ?_
   refine rg y<|u<|mv y<|u<|geq ti y y<|zn ?_
   refine zeh h y (fun i h=>?_) fun i h=>?_
   ·obtain ⟨n,C,h⟩:=bs h
    refine rdA [(6,_),(7,_),(8,_)] [some (3,[(zA n)])] [7] [0,1,2,3,4,5,6] [(6,_),(38,_),(37,_),(36,_),(35,_),(34,_),(33,_)] 1 (zcC (z:=by exact ⟨(fun _ _=>⟨_,y,y,sto ti y y y<|⟨.any,[8],[(8,_)],y,y,y,t,zdg (z:=zaE [.old 0])⟩⟩),t⟩)) ?_
    refine zD ?_
    obtain rfl:=sm h
    exact ⟨_,y,_,y,zab []⟩
   ·refine ze<|A ?_
    obtain rfl:=sm h
    exact ⟨_,y,zp [.old 0,.old 1]⟩
  ·refine zy ?_
   obtain rfl:=sm h
   exact ⟨y,_,y,zp [.old 0]⟩
 ·rintro ⟨⟩ rfl
  refine zu<|A ?_
  exact RT0⟩
def zbn(a:zb):Bool:=
  (!(a.Name == [36,105,110,105,116]))
theorem zj2(a:zb){r:Bool}(h:zbn a=r):zaF Tryz.prog 219 [.agg (zd a)] (bA r):=by
 refine zl Tryz.func219 y kz y y ?_
 unfold zbn at h
 refine A ?_
 refine A ?_
 refine zD ?_
 obtain rfl:=h
 exact ⟨_,y,zab []⟩
instance (a:zb):PF Tryz.prog 219 [.agg (zd a)] (some (zbn a)) bA:=.of fun _=>zj2 a
def zoE:Option (T0×zb×Bool):=
  some ([],(zb.mk [] [] [] false false 0 0 [] [] []),false)
def zev(l:List za)(m:T2)(e:T1)(n:T0)(a:Int):Option (Sum (Int) (Sum (Unit) (T0×zb×Bool))):=
  cond (decide (a<(length e:Int))) ((idx e a).bind fun d=>(zao l m d).bind fun b=>(zfe b.1 n).bind fun c=>(cond (decide (0≤c)) ((idx b.1.Methods c).bind fun f=>some (zbn f)) (some false)).bind fun i=>cond i ((idx b.1.Methods c).bind fun j=>some (.inr (.inr (d,j,true)))) (some (.inl (IntKind.i64.wrap (a+1))))) (some (.inr (.inl ())))
def ziw(a:List za)(c:T2)(d:T1)(e:T0):Option (T0×zb×Bool):=
  (zs (fun z=>zev a c d e z) 0).bind fun o=>zQ o (fun b=>zoE) some
instance (i:List za)(l:T2)(d:T1)(e:T0):PF Tryz.prog 218 [.ipt 2 [[.isl 6 (map zc i),.imp (map (rKV (fun x=>iA x)) l)]] 0 0,.isl 1 (map zt d),sA e,.fn (.func 219) [] []] (ziw i l d e) (fun r=>(.tup [sA r.1,.agg (zd r.2.1),bA r.2.2])):=⟨fun r h=>by
 refine zl Tryz.func218 y kz y y<|A ?_
 refine zf<|A ?_
 obtain ⟨o,ho,h⟩:=bs h
 refine lpB ho (fun z=>[(0,.ipt 2 [[.isl 6 (map zc i),.imp (map (rKV (fun x=>iA x)) l)]] 0 0),(2,sA e),(3,.fn (.func 219) [] []),(9,.mpt 0 0 0),(16,.isl 1 (map zt d)),(17,iA (length d:Int)),(18,iA z)]) (fun z=>[some (10,[[sA [],.lit (.slice none 0 0),sA [],bA false,bA false,iA 0,iA 0,.lit (.slice none 0 0),.lit (.slice none 0 0),.lit (.slice none 0 0)]])]) (fun b=>[(9,.mpt 0 0 0)]) (fun b=>[some (10,[[sA [],.lit (.slice none 0 0),sA [],bA false,bA false,iA 0,iA 0,.lit (.slice none 0 0),.lit (.slice none 0 0),.lit (.slice none 0 0)]])]) (pG Tryz.f218 (fun r=>.tup [sA r.1,.agg (zd r.2.1),bA r.2.2])) (zaE [.old 0]) ?_ ?_
 ·rintro C r h
  refine A ?_
  refine zf ?_
  refine zeh h y (fun m h=>?_) fun m h=>?_
  ·refine ze<|zf<|zj ?_
   obtain ⟨D,E,h⟩:=bs h
   refine A ?_
   obtain ⟨p,F,h⟩:=bs h
   refine A ?_
   obtain ⟨G,q,h⟩:=bs h
   refine rg y<|u<|ld ti y y<|u<|mv y<|u<|pc (zh1 p.1 e q) y y y<|u<|asg y<|zn ?_
   obtain ⟨s,c,h⟩:=bs h
   refine rg y<|u<|mv y<|u<|geq ti y y<|u<|mv y<|zhw (x:=s) (j:=2) 7 y y y y y gpn (fun a=>by replace c:=bT a c;obtain ⟨v,f,c⟩:=bs c;obtain rfl:=sm c;exact g y a<|mv y<|g y a<|fa ti y y y<|g y a<|ld ti y y<|g y a<|mv y<|g y a<|ixI ti y ti y y y f<|g y a<|ldI ti y (zm f).2.2 y<|g y a<|pc (zj2 v y) y y y<|zn (eg [34,35,36,37,38,39,40] 7 y y y y)) (fun hb=>(sm (bF hb c)).symm)<|zn ?_
   refine zeh h y (fun n h=>?_) fun n h=>?_
   ·obtain ⟨B,H,h⟩:=bs h
    refine rdA [(8,_),(9,_),(10,_)] [some (10,[(zd B)])] [7] [0,1,2,3,4,5,6] [(8,_),(47,_),(46,_),(45,_),(44,_),(43,_),(42,_)] 1 (zcC (z:=by exact ⟨(fun _ _=>⟨_,y,y,sto ti y y y<|⟨.any,[8],[(10,_)],y,y,y,t,zdg (z:=zaE [.old 0])⟩⟩),t⟩)) ?_
    refine zD ?_
    obtain rfl:=sm h
    exact ⟨_,y,_,y,zab []⟩
   ·refine ze<|A ?_
    obtain rfl:=sm h
    exact ⟨_,y,zp [.old 0]⟩
  ·refine zy ?_
   obtain rfl:=sm h
   exact ⟨y,_,y,zp [.old 0]⟩
 ·rintro ⟨⟩ rfl
  refine zu<|A ?_
  exact RT0⟩
def zha(b:List za)(c:T2)(d:T0)(e:T0):Option (T0×zb×Bool):=
  (zbg b c d).bind fun f=>(ziw b c f e).bind fun a=>some (a.1,a.2.1,a.2.2)
instance (a:List za)(b:T2)(d:T0)(c:T0):PF Tryz.prog 124 [.ipt 2 [[.isl 6 (map zc a),.imp (map (rKV (fun x=>iA x)) b)]] 0 0,sA d,sA c] (zha a b d c) (fun r=>(.tup [sA r.1,.agg (zd r.2.1),bA r.2.2])):=⟨fun r h=>by
 refine zl Tryz.func124 y kz y y<|A ?_
 obtain ⟨e,f,i,j,h⟩:=bs2 h
 refine A ?_
 refine u<|sx [] (zch a b d f)<|zv (env0:=[(2,sA c),(7,.mpt 0 0 0),(9,.ipt 2 [[.isl 6 (map zc a),.imp (map (rKV (fun x=>iA x)) b)]] 0 0),(12,.msl 1 0 (length e))]) (st0:=[some (10,[[sA [],.lit (.slice none 0 0),sA [],bA false,bA false,iA 0,iA 0,.lit (.slice none 0 0),.lit (.slice none 0 0),.lit (.slice none 0 0)]]),some (1,map zt e)]) (zp [.old 0,.old 1])<|u<|mv y<|zv (env0:=[(7,.mpt 0 0 0),(9,.ipt 2 [[.isl 6 (map zc a),.imp (map (rKV (fun x=>iA x)) b)]] 0 0),(12,.isl 1 (map zt e)),(13,sA c)]) (st0:=[some (10,[[sA [],.lit (.slice none 0 0),sA [],bA false,bA false,iA 0,iA 0,.lit (.slice none 0 0),.lit (.slice none 0 0),.lit (.slice none 0 0)]])]) (zp [.old 0])<|A ?_
 exact RT0⟩
def zel(a:zb):Bool:=
  true
theorem zlD(a:zb){r:Bool}(h:zel a=r):zaF Tryz.prog 329 [.agg (zd a)] (bA r):=by
 refine zl Tryz.func329 y kz y y ?_
 unfold zel at h
 refine A ?_
 refine A ?_
 refine zD ?_
 obtain rfl:=h
 exact ⟨_,y,zab []⟩
instance (a:zb):PF Tryz.prog 329 [.agg (zd a)] (some (zel a)) bA:=.of fun _=>zlD a
def zoF:Option (T0×zb×Bool):=
  some ([],(zb.mk [] [] [] false false 0 0 [] [] []),false)
def zew(l:List za)(m:T2)(e:T1)(n:T0)(a:Int):Option (Sum (Int) (Sum (Unit) (T0×zb×Bool))):=
  cond (decide (a<(length e:Int))) ((idx e a).bind fun d=>(zao l m d).bind fun b=>(zfe b.1 n).bind fun c=>(cond (decide (0≤c)) ((idx b.1.Methods c).bind fun f=>some (zel f)) (some false)).bind fun i=>cond i ((idx b.1.Methods c).bind fun j=>some (.inr (.inr (d,j,true)))) (some (.inl (IntKind.i64.wrap (a+1))))) (some (.inr (.inl ())))
def zix(a:List za)(c:T2)(d:T1)(e:T0):Option (T0×zb×Bool):=
  (zs (fun z=>zew a c d e z) 0).bind fun o=>zQ o (fun b=>zoF) some
instance (i:List za)(l:T2)(d:T1)(e:T0):PF Tryz.prog 218 [.ipt 2 [[.isl 6 (map zc i),.imp (map (rKV (fun x=>iA x)) l)]] 0 0,.isl 1 (map zt d),sA e,.fn (.func 329) [] []] (zix i l d e) (fun r=>(.tup [sA r.1,.agg (zd r.2.1),bA r.2.2])):=⟨fun r h=>by
 refine zl Tryz.func218 y kz y y<|A ?_
 refine zf<|A ?_
 obtain ⟨o,ho,h⟩:=bs h
 refine lpB ho (fun z=>[(0,.ipt 2 [[.isl 6 (map zc i),.imp (map (rKV (fun x=>iA x)) l)]] 0 0),(2,sA e),(3,.fn (.func 329) [] []),(9,.mpt 0 0 0),(16,.isl 1 (map zt d)),(17,iA (length d:Int)),(18,iA z)]) (fun z=>[some (10,[[sA [],.lit (.slice none 0 0),sA [],bA false,bA false,iA 0,iA 0,.lit (.slice none 0 0),.lit (.slice none 0 0),.lit (.slice none 0 0)]])]) (fun b=>[(9,.mpt 0 0 0)]) (fun b=>[some (10,[[sA [],.lit (.slice none 0 0),sA [],bA false,bA false,iA 0,iA 0,.lit (.slice none 0 0),.lit (.slice none 0 0),.lit (.slice none 0 0)]])]) (pG Tryz.f218 (fun r=>.tup [sA r.1,.agg (zd r.2.1),bA r.2.2])) (zaE [.old 0]) ?_ ?_
 ·rintro C r h
  refine A ?_
  refine zf ?_
  refine zeh h y (fun m h=>?_) fun m h=>?_
  ·refine ze<|zf<|zj ?_
   obtain ⟨D,E,h⟩:=bs h
   refine A ?_
   obtain ⟨p,F,h⟩:=bs h
   refine A ?_
   obtain ⟨G,q,h⟩:=bs h
   refine rg y<|u<|ld ti y y<|u<|mv y<|u<|pc (zh1 p.1 e q) y y y<|u<|asg y<|zn ?_
   obtain ⟨s,c,h⟩:=bs h
   refine rg y<|u<|mv y<|u<|geq ti y y<|u<|mv y<|zhw (x:=s) (j:=2) 7 y y y y y gpn (fun a=>by replace c:=bT a c;obtain ⟨v,f,c⟩:=bs c;obtain rfl:=sm c;exact g y a<|mv y<|g y a<|fa ti y y y<|g y a<|ld ti y y<|g y a<|mv y<|g y a<|ixI ti y ti y y y f<|g y a<|ldI ti y (zm f).2.2 y<|g y a<|pc (zlD v y) y y y<|zn (eg [34,35,36,37,38,39,40] 7 y y y y)) (fun hb=>(sm (bF hb c)).symm)<|zn ?_
   refine zeh h y (fun n h=>?_) fun n h=>?_
   ·obtain ⟨B,H,h⟩:=bs h
    refine rdA [(8,_),(9,_),(10,_)] [some (10,[(zd B)])] [7] [0,1,2,3,4,5,6] [(8,_),(47,_),(46,_),(45,_),(44,_),(43,_),(42,_)] 1 (zcC (z:=by exact ⟨(fun _ _=>⟨_,y,y,sto ti y y y<|⟨.any,[8],[(10,_)],y,y,y,t,zdg (z:=zaE [.old 0])⟩⟩),t⟩)) ?_
    refine zD ?_
    obtain rfl:=sm h
    exact ⟨_,y,_,y,zab []⟩
   ·refine ze<|A ?_
    obtain rfl:=sm h
    exact ⟨_,y,zp [.old 0]⟩
  ·refine zy ?_
   obtain rfl:=sm h
   exact ⟨y,_,y,zp [.old 0]⟩
 ·rintro ⟨⟩ rfl
  refine zu<|A ?_
  exact RT0⟩
def ziv(a:List za)(b:T2)(c:T0)(e:T0):Option (T0×zb×Bool):=
  (zao a b c).bind fun f=>cond (!f.1.Interface) (some ([],(zb.mk [] [] [] false false 0 0 [] [] []),false)) ((zd3 a b c).bind fun i=>(zfY 16 [c] i).bind fun j=>(zix a b j e).bind fun d=>some (d.1,d.2.1,d.2.2))
instance (a:List za)(b:T2)(c:T0)(d:T0):PF Tryz.prog 252 [.ipt 2 [[.isl 6 (map zc a),.imp (map (rKV (fun x=>iA x)) b)]] 0 0,sA c,sA d] (ziv a b c d) (fun r=>(.tup [sA r.1,.agg (zd r.2.1),bA r.2.2])):=⟨fun r h=>by
 refine zl Tryz.func252 y kz y y<|A ?_
 obtain ⟨n,o,h⟩:=bs h
 refine A ?_
 refine zf<|A ?_
 refine zeh h y (fun e h=>?_) fun e h=>?_
 ·refine A ?_
  exact RT0
 ·refine ze ?_
  obtain ⟨p,i,j,m,q,s,h⟩:=bs3 h
  refine A ?_
  refine u<|sx [] (zhk a b c i)<|u<|apM (l:=[c]) (f:=zt) 4 ti y ti y y (by decide) ti y y y y (roM y) (fun _=>y) y m<|u<|mv y<|zv (env0:=[(7,.mpt 0 0 0),(21,.ipt 2 [[.isl 6 (map zc a),.imp (map (rKV (fun x=>iA x)) b)]] 0 0),(27,.isl 1 (map zt j)),(28,sA d)]) (st0:=[some (10,[[sA [],.lit (.slice none 0 0),sA [],bA false,bA false,iA 0,iA 0,.lit (.slice none 0 0),.lit (.slice none 0 0),.lit (.slice none 0 0)]])]) (zp [.old 0])<|A ?_
  exact RT0⟩
def zin(a:T0)(b:List za)(c:T2):Option (Bool):=
  (zdz b c a).bind fun d=>some d
instance (a:T0)(b:List za)(c:T2):PF Tryz.prog 192 [sA a,.ipt 1 [[.ipt 2 [[.isl 6 (map zc b),.imp (map (rKV (fun x=>iA x)) c)]] 0 0]] 0 0] (zin a b c) bA:=⟨fun r h=>by
 refine zl Tryz.func192 y kz y y<|A ?_
 obtain ⟨d,e,h⟩:=bs h
 refine A ?_
 exact RT0⟩
def zkX(a:T0)(b:List za)(c:T2):Option (Bool):=
  (zin a b c).bind fun d=>some (!d)
instance (a:T0)(b:List za)(c:T2):PF Tryz.prog 274 [sA a,.ipt 1 [[.fn (.func 192) [] [.ipt 1 [[.ipt 2 [[.isl 6 (map zc b),.imp (map (rKV (fun x=>iA x)) c)]] 0 0]] 0 0]]] 0 0] (zkX a b c) bA:=⟨fun r h=>by
 refine zl Tryz.func274 y kz y y<|A ?_
 obtain ⟨d,e,h⟩:=bs h
 refine A ?_
 exact RT0⟩
def zdw:Option (Int):=
  some (-1)
def zaW(b:T1)(c:List za)(d:T2)(a:Int):Option (Sum (Int) (Sum (Unit) (Int))):=
  cond (decide (a<(length b:Int))) ((idx b a).bind fun e=>(zkX e c d).bind fun f=>cond f (some (.inr (.inr a))) (some (.inl (IntKind.i64.wrap (a+1))))) (some (.inr (.inl ())))
def zb2(a:T1)(c:List za)(d:T2):Option (Int):=
  (zs (fun z=>zaW a c d z) 0).bind fun o=>zQ o (fun b=>zdw) some
instance (a:T1)(c:List za)(d:T2):PF Tryz.prog 181 [.isl 1 (map zt a),.fn (.func 274) [] [.ipt 1 [[.fn (.func 192) [] [.ipt 1 [[.ipt 2 [[.isl 6 (map zc c),.imp (map (rKV (fun x=>iA x)) d)]] 0 0]] 0 0]]] 0 0]] (zb2 a c d) iA:=⟨fun r h=>by
 refine zl Tryz.func181 y kz y y<|A ?_
 refine zf<|A ?_
 obtain ⟨o,ho,h⟩:=bs h
 refine lpB ho (fun z=>[(0,.isl 1 (map zt a)),(1,.fn (.func 274) [] [.ipt 1 [[.fn (.func 192) [] [.ipt 1 [[.ipt 2 [[.isl 6 (map zc c),.imp (map (rKV (fun x=>iA x)) d)]] 0 0]] 0 0]]] 0 0]),(7,iA (length a:Int)),(8,iA z)]) (fun z=>[]) (fun b=>[]) (fun b=>[]) (pG Tryz.f181 iA) (zaE []) ?_ ?_
 ·rintro i r h
  refine A ?_
  refine zf ?_
  refine zeh h y (fun e h=>?_) fun e h=>?_
  ·refine ze<|zf<|zj<|A ?_
   obtain ⟨j,l,m,n,h⟩:=bs2 h
   refine A ?_
   refine zeh h y (fun f h=>?_) fun f h=>?_
   ·refine A ?_
    refine zD ?_
    obtain rfl:=sm h
    exact ⟨_,y,_,y,zab []⟩
   ·refine ze<|A ?_
    obtain rfl:=sm h
    exact ⟨_,y,zp []⟩
  ·refine zy ?_
   obtain rfl:=sm h
   exact ⟨y,_,y,zp []⟩
 ·rintro ⟨⟩ rfl
  refine zu<|A ?_
  exact RT0⟩
def zaQ(a:T1)(b:List za)(c:T2):Option (Bool):=
  (zb2 a b c).bind fun d=>some (decide (0≤d))
theorem zcV(a:T1)(b:List za)(c:T2){r:Bool}(h:zaQ a b c=some r):zaF Tryz.prog 99 [.isl 1 (map zt a),.fn (.func 274) [] [.ipt 1 [[.fn (.func 192) [] [.ipt 1 [[.ipt 2 [[.isl 6 (map zc b),.imp (map (rKV (fun x=>iA x)) c)]] 0 0]] 0 0]]] 0 0]] (bA r):=by
 refine zl Tryz.func99 y kz y y<|A ?_
 obtain ⟨d,e,h⟩:=bs h
 refine A ?_
 exact RT0
instance (a:T1)(b:List za)(c:T2):PF Tryz.prog 99 [.isl 1 (map zt a),.fn (.func 274) [] [.ipt 1 [[.fn (.func 192) [] [.ipt 1 [[.ipt 2 [[.isl 6 (map zc b),.imp (map (rKV (fun x=>iA x)) c)]] 0 0]] 0 0]]] 0 0]] (zaQ a b c) bA:=⟨fun _=>zcV a b c⟩
def zhT(a:T1)(b:List za)(c:T2):Option (Bool):=
  (zaQ a b c).bind fun d=>some (!d)
theorem zjT(a:T1)(b:List za)(c:T2){r:Bool}(h:zhT a b c=some r):zaF Tryz.prog 195 [.isl 1 (map zt a),.fn (.func 192) [] [.ipt 1 [[.ipt 2 [[.isl 6 (map zc b),.imp (map (rKV (fun x=>iA x)) c)]] 0 0]] 0 0]] (bA r):=by
 refine zl Tryz.func195 y kz y y<|A ?_
 obtain ⟨e,d,h⟩:=bs h
 refine A ?_
 refine u<|pcs (zcV a b c d) y y (.cons (si y) (.cons (zgP t ⟨(zbO y ⟨(si y),t⟩),t⟩) .nil)) zbF<|A ?_
 exact RT0
instance (a:T1)(b:List za)(c:T2):PF Tryz.prog 195 [.isl 1 (map zt a),.fn (.func 192) [] [.ipt 1 [[.ipt 2 [[.isl 6 (map zc b),.imp (map (rKV (fun x=>iA x)) c)]] 0 0]] 0 0]] (zhT a b c) bA:=⟨fun _=>zjT a b c⟩
def ziq(a:List za)(b:T2)(c:T0)(d:zb)(e:T1)(f:T1)(i:Bool)(j:Bool):Unit:=
  ()
theorem zr(a:List za)(b:T2)(c:T0)(d:zb)(e:T1)(f:T1)(i:Bool)(j:Bool){r:Unit}(h:ziq a b c d e f i j=r):SC Tryz.prog 194 [.mpt 0 0 0,bA j] (tV a b c d e f i []) (.tup []) (tV a b c d e f (i||(!j)) []):=by
 refine ⟨⟨t,zgu (sz:=1) (fun _=>y),zgu (sz:=1) (fun _=>y),t⟩,zP Tryz.func194 y kz y ?_⟩
 unfold ziq at h
 refine A ?_
 obtain rfl:=h
 exact ⟨_,y,zab [.old 0,.old 1,.old 2]⟩
def zio(a:T0)(b:List za)(c:T2):Option (Bool):=
  (zbC b c a a).bind fun d=>some d
instance (a:T0)(b:List za)(c:T2):PF Tryz.prog 197 [sA a,.ipt 1 [[.ipt 2 [[.isl 6 (map zc b),.imp (map (rKV (fun x=>iA x)) c)]] 0 0]] 0 0] (zio a b c) bA:=⟨fun r h=>by
 refine zl Tryz.func197 y kz y y<|A ?_
 obtain ⟨e,d,h⟩:=bs h
 refine rg y<|u<|ld ti y y<|u<|mv y<|u<|mv y<|u<|pc (zck b c a a d) y y y<|u<|asg y<|zn ?_
 exact RT0⟩
def zip(a:T0)(b:List za)(c:T2):Option (Bool):=
  (zio a b c).bind fun d=>some (!d)
instance (a:T0)(b:List za)(c:T2):PF Tryz.prog 274 [sA a,.ipt 1 [[.fn (.func 197) [] [.ipt 1 [[.ipt 2 [[.isl 6 (map zc b),.imp (map (rKV (fun x=>iA x)) c)]] 0 0]] 0 0]]] 0 0] (zip a b c) bA:=⟨fun r h=>by
 refine zl Tryz.func274 y kz y y<|A ?_
 obtain ⟨d,e,h⟩:=bs h
 refine A ?_
 exact RT0⟩
def zdx:Option (Int):=
  some (-1)
def zaX(b:T1)(c:List za)(d:T2)(a:Int):Option (Sum (Int) (Sum (Unit) (Int))):=
  cond (decide (a<(length b:Int))) ((idx b a).bind fun e=>(zip e c d).bind fun f=>cond f (some (.inr (.inr a))) (some (.inl (IntKind.i64.wrap (a+1))))) (some (.inr (.inl ())))
def zb3(a:T1)(c:List za)(d:T2):Option (Int):=
  (zs (fun z=>zaX a c d z) 0).bind fun o=>zQ o (fun b=>zdx) some
instance (a:T1)(c:List za)(d:T2):PF Tryz.prog 181 [.isl 1 (map zt a),.fn (.func 274) [] [.ipt 1 [[.fn (.func 197) [] [.ipt 1 [[.ipt 2 [[.isl 6 (map zc c),.imp (map (rKV (fun x=>iA x)) d)]] 0 0]] 0 0]]] 0 0]] (zb3 a c d) iA:=⟨fun r h=>by
 refine zl Tryz.func181 y kz y y<|A ?_
 refine zf<|A ?_
 obtain ⟨o,ho,h⟩:=bs h
 refine lpB ho (fun z=>[(0,.isl 1 (map zt a)),(1,.fn (.func 274) [] [.ipt 1 [[.fn (.func 197) [] [.ipt 1 [[.ipt 2 [[.isl 6 (map zc c),.imp (map (rKV (fun x=>iA x)) d)]] 0 0]] 0 0]]] 0 0]),(7,iA (length a:Int)),(8,iA z)]) (fun z=>[]) (fun b=>[]) (fun b=>[]) (pG Tryz.f181 iA) (zaE []) ?_ ?_
 ·rintro i r h
  refine A ?_
  refine zf ?_
  refine zeh h y (fun e h=>?_) fun e h=>?_
  ·refine ze<|zf<|zj<|A ?_
   obtain ⟨j,l,m,n,h⟩:=bs2 h
   refine A ?_
   refine zeh h y (fun f h=>?_) fun f h=>?_
   ·refine A ?_
    refine zD ?_
    obtain rfl:=sm h
    exact ⟨_,y,_,y,zab []⟩
   ·refine ze<|A ?_
    obtain rfl:=sm h
    exact ⟨_,y,zp []⟩
  ·refine zy ?_
   obtain rfl:=sm h
   exact ⟨y,_,y,zp []⟩
 ·rintro ⟨⟩ rfl
  refine zu<|A ?_
  exact RT0⟩
def zaR(a:T1)(b:List za)(c:T2):Option (Bool):=
  (zb3 a b c).bind fun d=>some (decide (0≤d))
theorem zcW(a:T1)(b:List za)(c:T2){r:Bool}(h:zaR a b c=some r):zaF Tryz.prog 99 [.isl 1 (map zt a),.fn (.func 274) [] [.ipt 1 [[.fn (.func 197) [] [.ipt 1 [[.ipt 2 [[.isl 6 (map zc b),.imp (map (rKV (fun x=>iA x)) c)]] 0 0]] 0 0]]] 0 0]] (bA r):=by
 refine zl Tryz.func99 y kz y y<|A ?_
 obtain ⟨d,e,h⟩:=bs h
 refine A ?_
 exact RT0
instance (a:T1)(b:List za)(c:T2):PF Tryz.prog 99 [.isl 1 (map zt a),.fn (.func 274) [] [.ipt 1 [[.fn (.func 197) [] [.ipt 1 [[.ipt 2 [[.isl 6 (map zc b),.imp (map (rKV (fun x=>iA x)) c)]] 0 0]] 0 0]]] 0 0]] (zaR a b c) bA:=⟨fun _=>zcW a b c⟩
def zgH(a:T1)(b:List za)(c:T2):Option (Bool):=
  (zaR a b c).bind fun d=>some (!d)
theorem zj7(a:T1)(b:List za)(c:T2){r:Bool}(h:zgH a b c=some r):zaF Tryz.prog 195 [.isl 1 (map zt a),.fn (.func 197) [] [.ipt 1 [[.ipt 2 [[.isl 6 (map zc b),.imp (map (rKV (fun x=>iA x)) c)]] 0 0]] 0 0]] (bA r):=by
 refine zl Tryz.func195 y kz y y<|A ?_
 obtain ⟨e,d,h⟩:=bs h
 refine A ?_
 refine u<|pcs (zcW a b c d) y y (.cons (si y) (.cons (zgP t ⟨(zbO y ⟨(si y),t⟩),t⟩) .nil)) zbF<|A ?_
 exact RT0
instance (a:T1)(b:List za)(c:T2):PF Tryz.prog 195 [.isl 1 (map zt a),.fn (.func 197) [] [.ipt 1 [[.ipt 2 [[.isl 6 (map zc b),.imp (map (rKV (fun x=>iA x)) c)]] 0 0]] 0 0]] (zgH a b c) bA:=⟨fun _=>zj7 a b c⟩
def zej(a:zU)(b:Int):Bool:=
  (a.At == b)
instance (a:zU)(b:Int):PF Tryz.prog 340 [.agg (zx a),.ipt 1 [[iA b]] 0 0] (some (zej a b)) bA:=.of fun r h=>by
 refine zl Tryz.func340 y kz y y ?_
 unfold zej at h
 refine A ?_
 refine A ?_
 refine zD ?_
 obtain rfl:=h
 exact ⟨_,y,zab []⟩
def zdM:Option (Int):=
  some (-1)
def za1(b:List zU)(c:Int)(a:Int):Option (Sum (Int) (Sum (Unit) (Int))):=
  cond (decide (a<(length b:Int))) ((idx b a).bind fun d=>cond (zej d c) (some (.inr (.inr a))) (some (.inl (IntKind.i64.wrap (a+1))))) (some (.inr (.inl ())))
def zbf(a:List zU)(c:Int):Option (Int):=
  (zs (fun z=>za1 a c z) 0).bind fun o=>zQ o (fun b=>zdM) some
theorem zdN(a:List zU)(c:Int){r:Int}(h:zbf a c=some r):zaF Tryz.prog 339 [.isl 3 (map zx a),.fn (.func 340) [] [.ipt 1 [[iA c]] 0 0]] (iA r):=by
 refine zl Tryz.func339 y kz y y<|A ?_
 refine zf<|A ?_
 obtain ⟨o,ho,h⟩:=bs h
 refine lpB ho (fun z=>[(0,.isl 3 (map zx a)),(1,.fn (.func 340) [] [.ipt 1 [[iA c]] 0 0]),(7,iA (length a:Int)),(8,iA z)]) (fun z=>[]) (fun b=>[]) (fun b=>[]) (pG Tryz.f339 iA) (zaE []) ?_ ?_
 ·rintro f r h
  refine A ?_
  refine zf ?_
  refine zeh h y (fun d h=>?_) fun d h=>?_
  ·refine ze<|zf<|zj<|A ?_
   obtain ⟨i,j,h⟩:=bs h
   refine A ?_
   refine zeh h y (fun e h=>?_) fun e h=>?_
   ·refine A ?_
    refine zD ?_
    obtain rfl:=sm h
    exact ⟨_,y,_,y,zab []⟩
   ·refine ze<|A ?_
    obtain rfl:=sm h
    exact ⟨_,y,zp []⟩
  ·refine zy ?_
   obtain rfl:=sm h
   exact ⟨y,_,y,zp []⟩
 ·rintro ⟨⟩ rfl
  refine zu<|A ?_
  exact RT0
instance (a:List zU)(b:Int):PF Tryz.prog 339 [.isl 3 (map zx a),.fn (.func 340) [] [.ipt 1 [[iA b]] 0 0]] (zbf a b) iA:=⟨fun _=>zdN a b⟩
def zcx(e:List za)(f:T2)(i:T0)(a:zb)(j:T1)(l:T1)(m:Bool)(d:Int):Option ((Option zU)):=
  (zbf a.Maps d).bind fun b=>cond (decide (b<0)) (some none) ((idx a.Maps b).bind fun c=>some (some c))
theorem zfa(b:List za)(c:T2)(d:T0)(a:zb)(e:T1)(f:T1)(i:Bool)(j:Int){r:(Option zU)}(h:zcx b c d a e f i j=some r):SC Tryz.prog 277 [.mpt 0 0 0,iA j] (tV b c d a e f i []) (zjI 3 zx r) (tV b c d a e f i []):=by
 refine ⟨⟨t,zgu (sz:=1) (fun _=>y),zgu (sz:=1) (fun _=>y),t⟩,zP Tryz.func277 y kz y ?_⟩
 refine A ?_
 obtain ⟨p,n,h⟩:=bs h
 refine A ?_
 refine u<|pcs (zdN a.Maps j n) y y (.cons (si y) (.cons (zgP t ⟨(zbO y ⟨(si y),t⟩),t⟩) .nil)) zbF<|A ?_
 refine zf<|A ?_
 refine zeh h y (fun l h=>?_) fun l h=>?_
 ·refine A ?_
  exact RT3
 ·refine ze ?_
  obtain ⟨o,m,h⟩:=bs h
  refine rg y<|u<|mv y<|u<|nc y y<|u<|fa ti y y y<|u<|fa ti y y y<|u<|ld ti y y<|u<|mv y<|u<|ixI ti y ti y y y m<|zDz m<|u<|asg y<|zn ?_
  exact RT3
def zgs(b:List za)(c:T2)(a:T0):Option (Bool):=
  (cond (!(a == [73])) ((zbC b c a a).bind fun d=>some d) (some false)).bind fun e=>some e
instance (d:List za)(e:T2)(c:T0):PF Tryz.prog 337 [.ipt 2 [[.isl 6 (map zc d),.imp (map (rKV (fun x=>iA x)) e)]] 0 0,sA c] (zgs d e c) bA:=⟨fun r h=>by
 refine zl Tryz.func337 y kz y y<|A ?_
 obtain ⟨f,b,h⟩:=bs h
 refine rg y<|u<|mv y<|u<|sne ti y y<|u<|mv y<|zhw (x:=f) (j:=2) 4 y y y y y gpn (fun a=>by replace b:=bT a b;obtain ⟨l,i,b⟩:=bs b;obtain rfl:=sm b;exact g y a<|mv y<|g y a<|mv y<|g y a<|mv y<|g y a<|pc (zck d e c c i) y y y<|zn (eg [8,9,10,11] 4 y y y y)) (fun hb=>(sm (bF hb b)).symm)<|u<|asg y<|zn ?_
 exact RT0⟩
def zeg(a:List za)(b:T2)(d:T0)(c:T0):Option (Bool):=
  (zdz a b d).bind fun m=>(cond (!m) (some true) ((zdz a b c).bind fun n=>some (!n))).bind fun o=>cond o (some false) (cond ((c == [84])||(d == c)) (some true) (cond (d == [78]) ((zgs a b c).bind fun p=>some p) ((zgs a b d).bind fun q=>(cond (!q) (some true) ((zgs a b c).bind fun e=>some (!e))).bind fun f=>cond f (some false) ((zao a b c).bind fun i=>(cond i.1.Interface (some true) ((zbC a b d c).bind fun j=>some j)).bind fun l=>some l))))
theorem zhx(c:List za)(d:T2)(e:T0)(f:T0){r:Bool}(h:zeg c d e f=some r):zaF Tryz.prog 271 [.ipt 2 [[.isl 6 (map zc c),.imp (map (rKV (fun x=>iA x)) d)]] 0 0,sA e,sA f] (bA r):=by
 refine zl Tryz.func271 y kz y y<|A ?_
 refine zf<|zj ?_
 obtain ⟨E,F,G,H,h⟩:=bs2 h
 refine A ?_
 refine zeh h y (fun l h=>?_) fun l h=>?_
 ·refine A ?_
  exact RT0
 ·refine A ?_
  refine zeh h y (fun m h=>?_) fun m h=>?_
  ·refine A ?_
   exact RT0
  ·refine A ?_
   refine zeh h y (fun n h=>?_) fun n h=>?_
   ·obtain ⟨I,J,h⟩:=bs h
    refine A ?_
    exact RT0
   ·obtain ⟨K,q,s,v,h⟩:=bs2 h
    refine A ?_
    refine zeh h y (fun i h=>?_) fun i h=>?_
    ·refine A ?_
     exact RT0
    ·refine ze ?_
     obtain ⟨B,C,h⟩:=bs h
     refine A ?_
     obtain ⟨o,b,h⟩:=bs h
     refine rg y<|u<|fa ti y y y<|u<|ld ti y y<|u<|mv y<|zq3 (x:=o) (j:=2) 4 y y y y y gpn (fun a=>by replace b:=bF a b;obtain ⟨D,p,b⟩:=bs b;obtain rfl:=sm b;exact g y a<|mv y<|g y a<|mv y<|g y a<|mv y<|g y a<|pc (zck c d e f p) y y y<|zn (eg [54,55,56,57] 4 y y y y)) (fun hb=>(sm (bT hb b)).symm)<|u<|asg y<|zn ?_
     exact RT0
instance (a:List za)(b:T2)(c:T0)(d:T0):PF Tryz.prog 271 [.ipt 2 [[.isl 6 (map zc a),.imp (map (rKV (fun x=>iA x)) b)]] 0 0,sA c,sA d] (zeg a b c d) bA:=⟨fun _=>zhx a b c d⟩
def zpa:Option (Bool):=
  some true
def zeC(f:List za)(i:T2)(b:T1)(j:T1)(a:Int):Option (Sum (Int) (Sum (Unit) (Bool))):=
  cond (decide (a<(length b:Int))) ((idx b a).bind fun c=>(idx j a).bind fun d=>(zeg f i c d).bind fun e=>cond (!e) (some (.inr (.inr false))) (some (.inl (IntKind.i64.wrap (a+1))))) (some (.inr (.inl ())))
def zhr(d:List za)(e:T2)(a:T1)(c:T1):Option (Bool):=
  cond (!((length a:Int) == (length c:Int))) (some false) ((zs (fun z=>zeC d e a c z) 0).bind fun o=>zQ o (fun b=>zpa) some)
instance (c:List za)(d:T2)(a:T1)(e:T1):PF Tryz.prog 272 [.ipt 2 [[.isl 6 (map zc c),.imp (map (rKV (fun x=>iA x)) d)]] 0 0,.isl 1 (map zt a),.isl 1 (map zt e)] (zhr c d a e) bA:=⟨fun r h=>by
 refine zl Tryz.func272 y kz y y<|A ?_
 refine zf<|A ?_
 refine zeh h y (fun i h=>?_) fun i h=>?_
 ·refine A ?_
  exact RT0
 ·refine ze<|zf<|A ?_
  obtain ⟨o,ho,h⟩:=bs h
  refine lpB ho (fun z=>[(0,.ipt 2 [[.isl 6 (map zc c),.imp (map (rKV (fun x=>iA x)) d)]] 0 0),(1,.isl 1 (map zt a)),(2,.isl 1 (map zt e)),(14,iA (length a:Int)),(15,iA z)]) (fun z=>[]) (fun b=>[]) (fun b=>[]) (pG Tryz.f272 bA) (zaE []) ?_ ?_
  ·rintro q r h
   refine A ?_
   refine zf ?_
   refine zeh h y (fun j h=>?_) fun j h=>?_
   ·refine ze<|zf<|zj<|A ?_
    obtain ⟨l,s,m,v,n,p,h⟩:=bs3 h
    refine rdA [(0,_),(1,_),(2,_),(14,_),(15,_),(28,_)] [] [] [0,1,2,3,4,5,6,7,8,9,10] [(28,_),(27,_),(26,_),(25,_),(24,_),(23,_),(22,_),(21,_),(20,_),(19,_),(18,_)] 0 (zdg (z:=zaE [])) ?_
    refine zeh h y (fun f h=>?_) fun f h=>?_
    ·refine A ?_
     refine zD ?_
     obtain rfl:=sm h
     exact ⟨_,y,_,y,zab []⟩
    ·refine ze<|A ?_
     obtain rfl:=sm h
     exact ⟨_,y,zp []⟩
   ·refine zy ?_
    obtain rfl:=sm h
    exact ⟨y,_,y,zp []⟩
  ·rintro ⟨⟩ rfl
   refine zu<|A ?_
   exact RT0⟩
def zei(a:List za)(b:T2)(c:zU)(d:T1)(e:T1):Option (Bool):=
  (zhr a b d c.Locals).bind fun f=>(cond f ((zhr a b e c.Stack).bind fun i=>some i) (some false)).bind fun j=>some j
theorem zhy(a:List za)(b:T2)(c:zU)(d:T1)(e:T1){r:Bool}(h:zei a b c d e=some r):zaF Tryz.prog 273 [.ipt 2 [[.isl 6 (map zc a),.imp (map (rKV (fun x=>iA x)) b)]] 0 0,.agg (zx c),.isl 1 (map zt d),.isl 1 (map zt e)] (bA r):=by
 refine zl Tryz.func273 y kz y y<|A ?_
 obtain ⟨f,i,j,l,h⟩:=bs2 h
 refine A ?_
 exact RT0
instance (a:List za)(b:T2)(c:zU)(d:T1)(e:T1):PF Tryz.prog 273 [.ipt 2 [[.isl 6 (map zc a),.imp (map (rKV (fun x=>iA x)) b)]] 0 0,.agg (zx c),.isl 1 (map zt d),.isl 1 (map zt e)] (zei a b c d e) bA:=⟨fun _=>zhy a b c d e⟩
def zcy(b:List za)(c:T2)(j:T0)(l:zb)(d:T1)(e:T1)(a:Bool)(m:Int):Option (Bool):=
  (zcx b c j l d e a m).bind fun n=>zzK n (some (a||(!false))) (fun f=>(zei b c f d e).bind fun i=>some (a||(!i)))
theorem zgQ(c:List za)(d:T2)(f:T0)(i:zb)(e:T1)(a:T1)(j:Bool)(m:Int){r:Bool}(h:zcy c d f i e a j m=some r):SC Tryz.prog 202 [.mpt 0 0 0,iA m,.msl 2 0 (length a)] (tV c d f i e a j []) (.tup []) (tV c d f i e a r []):=by
 refine ⟨⟨t,zgu (sz:=1) (fun _=>y),zgu (sz:=1) (fun _=>y),t⟩,zP Tryz.func202 y kz y ?_⟩
 obtain ⟨n,p,h⟩:=bs h
 refine A ?_
 refine u<|sx [0,1,2] (zfa c d f i e a j m p)<|zCM zxg<|zv (env0:=[(0,.mpt 0 0 0),(2,.msl 2 0 (length a)),(9,zjI 3 zx n)]) (st0:=(sV c d f i e a j [])) (zp [.old 0,.old 1,.old 2])<|A ?_
 rcases n with _ |o
 ·replace h:=oeN h
  refine ziy [] (sV c d f i e a (j||(!false)) []) [18] [17,16,15,14,13,12,11,10,9,8,7,6,5,4,3,2,1,0] [(27,bA false),(26,.lit undef),(25,.lit undef),(24,.lit undef),(23,.lit undef),(22,.lit undef),(21,.lit undef),(20,.lit undef),(19,.lit undef),(18,.lit undef),(17,.lit undef),(16,.lit undef),(15,.lit undef),(14,.lit undef),(13,bA false),(12,bA false),(11,.lit (.pointer none)),(10,.mpt 0 0 0)] 1 (zvv ⟨pe,pe,pe,pe,pe,pe,pe,pe,pe,pe,pe,pe,pe,pe,pe,(pb y (nep ti y y y y y y w)),pe,pe,t⟩ ⟨(fun _ _=>⟨_,y,y,sc [0,1,2] (args:=[.mpt 0 0 0,bA false]) (zr c d f i e a j false y) y y y y ⟨(.mpt y),(rnI y),t⟩ ⟨⟨_,y,(zvw y ⟨(.msl y),(.msl y),(rnI y),t⟩)⟩,⟨y,mkI (fun _=>y)⟩,⟨y,mkI (fun _=>y)⟩,t⟩<|⟨(.tup []),[],[(28,.tup [])],y,y,kz,y,zuJ ⟨pe,pe,pe,pe,pe,pe,pe,pe,pe,pe,pe,pe,pe,pe,pe,(pb y (nep ti y y y y y y w)),pe,pe,t⟩ (zp [.old 0,.old 1,.old 2])⟩⟩),t⟩) ?_
  obtain rfl:=sm h
  exact ⟨_,y,zab [.old 0,.old 1,.old 2]⟩
 ·replace h:=oeS h
  obtain ⟨l,q,h⟩:=bs h
  refine ziy [] (sV c d f i e a (j||(!l)) []) [18] [0,1,2,3,4,5,6,7,8,9,10,11,12,13,14,15,16,17] [(27,_),(26,_),(25,_),(24,_),(23,_),(22,_),(21,_),(20,_),(19,_),(18,_),(17,_),(16,_),(15,_),(14,_),(13,_),(12,_),(11,_),(10,_)] 1 (zcC ⟨peC,peC,peC,peC,peC,peC,peC,peC,peC,peC,peC,peC,peC,peC,peC,peC,(by exact fun _=>pag (b:=true) y y y y y y (pcs (zhy c d o e a q) y y (.cons (si y) (.cons (si y) (.cons (zgK y (fun _=>y)) (.cons (zgK y (fun _=>y)) .nil)))) zbF<|w)),peC,t⟩ (by exact ⟨(fun _ _=>⟨_,y,y,sc [0,1,2] (args:=[.mpt 0 0 0,bA l]) (zr c d f i e a j l y) y y y y ⟨(.mpt y),(rnI y),t⟩ ⟨⟨_,y,(zvw y ⟨(.msl y),(.msl y),(rnI y),t⟩)⟩,⟨y,mkI (fun _=>y)⟩,⟨y,mkI (fun _=>y)⟩,t⟩<|⟨(.tup []),[],[(28,_)],y,y,y,y,zdg (z:=zaE [.old 0,.old 1,.old 2])⟩⟩),t⟩)) ?_
  obtain rfl:=sm h
  exact ⟨_,y,zab [.old 0,.old 1,.old 2]⟩
def zmm(a:T1):Option T1:=zfY 16 ([]:T1) a
theorem zom(a:T1){r:T1}(h:zmm a=some r):SC Tryz.prog 130 [.isl 1 (map zt a)] [] (.msl 0 0 (length r)) [.many 1 (map zt r)]:=by
 refine ⟨⟨zgu (sz:=1) (fun _=>y),t⟩,zP Tryz.func130 y kz y ?_⟩
 unfold zmm at h
 refine A ?_
 refine zf ?_
 refine rg y<|u<|mv y<|zCL ti y y y<|And.intro ?_ ?_
 · intro hl
   refine zn ?_
   subst hl
   obtain rfl:[]=r:=by simpa [zfY] using h
   refine zg3 y (fun _=>?_) (fun hx=>by cases hx)
   refine A ?_
   refine zD ?_
   exact ⟨_,y,[.fresh 1],.nilown y,y,⟨w,t⟩,y,k⟩
 · refine zn ?_
   refine zg3 y (fun hx=>by cases hx) (fun _=>?_)
   refine ze<|A ?_
   refine u<|apM (l:=([]:T1)) (f:=zt) 1 ti y ti y y (by decide) ti y y y y roI (fun _=>y) y h<|A ?_
   refine zD ?_
   exact ⟨_,y,zab [.old 1]⟩
def za2(b:(Option zU))(c:Bool):Option (T1×T1×Bool):=
  zzK b (none) (fun a=>(zmm a.Locals).bind fun d=>(zmm a.Stack).bind fun e=>some (d,e,c))
def zer(e:List za)(f:T2)(i:T0)(j:zb)(c:T1)(d:T1)(b:Bool)(l:Int)(m:Bool):Option (T1×T1×Bool):=
  (zcx e f i j c d b l).bind fun a=>cond (Option.isNone a) (some (c,d,(b||(!m)))) (cond m ((zcy e f i j c d b l).bind fun n=>za2 a n) (za2 a b))
theorem zjU(a:List za)(b:T2)(c:T0)(d:zb)(e:T1)(f:T1)(j:Bool)(l:Int)(m:Bool){r:T1×T1×Bool}(h:zer a b c d e f j l m=some r):SC Tryz.prog 198 [.mpt 0 0 0,iA l,bA m] (tV a b c d e f j []) (.tup []) [.one 15 (vK a b c d (.msl 3 0 (length r.1)) (.msl 4 0 (length r.2.1)) (bA r.2.2)),.no,.no,.many 1 (map zt r.1),.many 1 (map zt r.2.1)]:=by
 refine ⟨⟨t,t,t,zgu (sz:=1) (fun _=>y),zgu (sz:=1) (fun _=>y),t⟩,zP Tryz.func198 y kz y ?_⟩
 obtain ⟨i,B,h⟩:=bs h
 refine A ?_
 refine u<|sx [0,1,2] (zfa a b c d e f j l B)<|zCM zxg<|zv (env0:=[(0,.mpt 0 0 0),(1,iA l),(2,bA m),(9,zjI 3 zx i)]) (st0:=(sV a b c d e f j [])) (zp [.old 0,.old 1,.old 2])<|A ?_
 refine zf ?_
 refine rg y<|u<|mv y<|u<|zCx ti y y y<|zn ?_
 refine zeh h y (fun v h=>?_) fun v h=>?_
 ·refine A ?_
  refine u<|sx [0,1,2] (zr a b c d e f j m y)<|zv (env0:=[]) (st0:=(sV a b c d e f (j||(!m)) [])) (zp [.old 0,.old 1,.old 2])<|zn ?_
  refine zD ?_
  obtain rfl:=sm h
  exact ⟨_,y,zxW [.old 0,.dead,.dead,.old 1,.old 2]⟩
 ·refine ze ?_
  refine zaA (X:=Bool) (fun z=>[(0,.mpt 0 0 0),(6,zjI 3 zx i)]) (fun z=>(sV a b c d e f z [])) (fun z=>za2 i z=some r) ?_ ?_
  ·refine A ?_
   refine zeh h y (fun x h=>?_) fun x h=>?_
   ·obtain ⟨p,C,h⟩:=bs h
    refine A ?_
    exact u<|sx [0,1,2] (zgQ a b c d e f j l C)<|zv (env0:=[(0,.mpt 0 0 0),(6,zjI 3 zx i)]) (st0:=(sV a b c d e f p [])) (zp [.old 0,.old 1,.old 2])<|zn (⟨p,h,zp [.old 0,.old 1,.old 2]⟩)
   ·refine ze ?_
    exact ⟨j,h,zp [.old 0,.old 1,.old 2]⟩
  ·rintro q h
   replace h:za2 i q=some r:=h
   unfold za2 at h
   rcases i with _ |s
   ·replace h:=oeN h
    cases h
   ·replace h:=oeS h
    obtain ⟨n,D,o,E,h⟩:=bs2 h
    refine ziy [] [some (15,[(vK a b c d (.msl 3 0 (length n)) (.msl 4 0 (length o)) (bA q))]),some (1,map zt e),some (1,map zt f),some (1,map zt n),some (1,map zt o)] [6,11,14,17] [0,1,2,3,4,5,7,8,9,10] [(33,_),(32,_),(31,_),(30,_),(28,_),(27,_),(26,_),(25,_),(24,_),(23,_)] 4 (zcC (z:=by exact ⟨(fun _ _=>⟨_,y,y,sx [] (zom s.Locals D)<|⟨(.msl 3 0 (length n)),[],[(29,_)],y,y,y,y,zcC (z:=by exact ⟨nv,(fun _ _=>⟨_,y,y,sx [] (zom s.Stack E)<|⟨(.msl 4 0 (length o)),[12,13],[(36,_),(35,_),(34,_)],y,y,y,y,zcC (z:=by exact ⟨nv,nv,(fun _ _=>⟨_,y,y,sto ti y y y<|⟨.any,[15,16],[(38,_),(37,_)],y,y,y,t,zcC (z:=by exact ⟨nv,nv,nv,(fun _ _=>⟨_,y,y,sto ti y y y<|⟨.any,[],[],y,y,y,t,zdg (z:=zaE [.old 0,.old 1,.old 2,.old 3,.old 4])⟩⟩),t⟩)⟩⟩),nw,t⟩)⟩⟩),nw,nw,t⟩)⟩⟩),nw,nw,nw,t⟩)) ?_
    obtain rfl:=sm h
    exact ⟨_,y,zab [.old 0,.dead,.dead,.old 3,.old 4]⟩
def zdQ(b:List za)(c:T2)(j:T0)(l:zb)(d:T1)(m:T1)(a:Bool)(n:Int)(o:T1):Option (Bool):=
  (zcx b c j l d m a n).bind fun e=>zzK e (some (a||(!false))) (fun f=>(zei b c f d o).bind fun i=>some (a||(!i)))
theorem ziL(a:List za)(c:T2)(e:T0)(f:zb)(d:T1)(i:T1)(l:Bool)(o:Int)(j:T1){r:Bool}(h:zdQ a c e f d i l o j=some r):SC Tryz.prog 202 [.mpt 0 0 0,iA o,.msl 3 0 (length j)] (tV a c e f d i l [.many 1 (map zt j)]) (.tup []) (tV a c e f d i r [.many 1 (map zt j)]):=by
 refine ⟨⟨t,zgu (sz:=1) (fun _=>y),zgu (sz:=1) (fun _=>y),zgu (sz:=1) (fun _=>y),t⟩,zP Tryz.func202 y kz y ?_⟩
 obtain ⟨n,q,h⟩:=bs h
 refine A ?_
 refine u<|sx [0,1,2] (zfa a c e f d i l o q)<|zCM zxg<|zv (env0:=[(0,.mpt 0 0 0),(2,.msl 3 0 (length j)),(9,zjI 3 zx n)]) (st0:=(sV a c e f d i l [some (1,map zt j)])) (zp [.old 0,.old 1,.old 2,.old 3])<|A ?_
 rcases n with _ |p
 ·replace h:=oeN h
  refine ziy [] (sV a c e f d i (l||(!false)) [some (1,map zt j)]) [18] [17,16,15,14,13,12,11,10,9,8,7,6,5,4,3,2,1,0] [(27,bA false),(26,.lit undef),(25,.lit undef),(24,.lit undef),(23,.lit undef),(22,.lit undef),(21,.lit undef),(20,.lit undef),(19,.lit undef),(18,.lit undef),(17,.lit undef),(16,.lit undef),(15,.lit undef),(14,.lit undef),(13,bA false),(12,bA false),(11,.lit (.pointer none)),(10,.mpt 0 0 0)] 1 (zvv ⟨pe,pe,pe,pe,pe,pe,pe,pe,pe,pe,pe,pe,pe,pe,pe,(pb y (nep ti y y y y y y w)),pe,pe,t⟩ ⟨(fun _ _=>⟨_,y,y,sc [0,1,2] (args:=[.mpt 0 0 0,bA false]) (zr a c e f d i l false y) y y y y ⟨(.mpt y),(rnI y),t⟩ ⟨⟨_,y,(zvw y ⟨(.msl y),(.msl y),(rnI y),t⟩)⟩,⟨y,mkI (fun _=>y)⟩,⟨y,mkI (fun _=>y)⟩,t⟩<|⟨(.tup []),[],[(28,.tup [])],y,y,kz,y,zuJ ⟨pe,pe,pe,pe,pe,pe,pe,pe,pe,pe,pe,pe,pe,pe,pe,(pb y (nep ti y y y y y y w)),pe,pe,t⟩ (zp [.old 0,.old 1,.old 2,.old 3])⟩⟩),t⟩) ?_
  obtain rfl:=sm h
  exact ⟨_,y,zab [.old 0,.old 1,.old 2,.old 3]⟩
 ·replace h:=oeS h
  obtain ⟨m,s,h⟩:=bs h
  refine ziy [] (sV a c e f d i (l||(!m)) [some (1,map zt j)]) [18] [0,1,2,3,4,5,6,7,8,9,10,11,12,13,14,15,16,17] [(27,_),(26,_),(25,_),(24,_),(23,_),(22,_),(21,_),(20,_),(19,_),(18,_),(17,_),(16,_),(15,_),(14,_),(13,_),(12,_),(11,_),(10,_)] 1 (zcC ⟨peC,peC,peC,peC,peC,peC,peC,peC,peC,peC,peC,peC,peC,peC,peC,peC,(by exact fun _=>pag (b:=true) y y y y y y (pcs (zhy a c p d j s) y y (.cons (si y) (.cons (si y) (.cons (zgK y (fun _=>y)) (.cons (zgK y (fun _=>y)) .nil)))) zbF<|w)),peC,t⟩ (by exact ⟨(fun _ _=>⟨_,y,y,sc [0,1,2] (args:=[.mpt 0 0 0,bA m]) (zr a c e f d i l m y) y y y y ⟨(.mpt y),(rnI y),t⟩ ⟨⟨_,y,(zvw y ⟨(.msl y),(.msl y),(rnI y),t⟩)⟩,⟨y,mkI (fun _=>y)⟩,⟨y,mkI (fun _=>y)⟩,t⟩<|⟨(.tup []),[],[(28,_)],y,y,y,y,zdg (z:=zaE [.old 0,.old 1,.old 2,.old 3])⟩⟩),t⟩)) ?_
  obtain rfl:=sm h
  exact ⟨_,y,zab [.old 0,.old 1,.old 2,.old 3]⟩
def zjW(a:Bool):Option (Bool):=
  some a
def zdk(a:Int)(b:Bool):Option (Sum (Bool×Int) (Sum (Bool) (Bool))):=
  some (.inl (b,(IntKind.i64.wrap (a+1))))
def zb4(f:List za)(i:T2)(m:T0)(n:zb)(o:T1)(p:T1)(j:Int)(b:Bool)(c:Int)(a:zan)(d:T0):Option (Sum (Bool×Int) (Sum (Bool) (Bool))):=
  (zbC f i d [84,104,114,111,119,110]).bind fun e=>cond ((decide (a.From≤j))&&(decide (j<a.To))) ((zdQ f i m n o p (b||(!e)) a.At [d]).bind fun l=>zdk c l) (zdk c (b||(!e)))
def zbq(e:List za)(f:T2)(i:T0)(d:zb)(j:T1)(l:T1)(m:Int)(c:Bool)(a:Int):Option (Sum (Bool×Int) (Sum (Bool) (Bool))):=
  cond (decide (a<(length d.Traps:Int))) ((idx d.Traps a).bind fun b=>cond (b.C == []) (zb4 e f i d j l m c a b [84,104,114,111,119,110]) (zb4 e f i d j l m c a b b.C)) (some (.inr (.inl c)))
def zdf(a:List za)(c:T2)(d:T0)(e:zb)(f:T1)(i:T1)(j:Bool)(l:Int):Option (Bool):=
  (zs (fun z=>zbq a c d e f i l z.1 z.2) (j,0)).bind fun o=>zQ o (fun b=>zjW b) some
theorem zjX(c:List za)(d:T2)(e:T0)(a:zb)(f:T1)(i:T1)(B:Bool)(m:Int){r:Bool}(h:zdf c d e a f i B m=some r):SC Tryz.prog 199 [.mpt 0 0 0,iA m] (tV c d e a f i B []) (.tup []) (tV c d e a f i r []):=by
 refine ⟨⟨t,zgu (sz:=1) (fun _=>y),zgu (sz:=1) (fun _=>y),t⟩,zP Tryz.func199 y kz y ?_⟩
 refine A ?_
 obtain ⟨o,ho,h⟩:=bs h
 refine lpB ho (fun z=>[(0,.mpt 0 0 0),(1,iA m),(11,.isl 4 (map zap a.Traps)),(12,iA (length a.Traps:Int)),(13,iA z.2)]) (fun z=>(sV c d e a f i z.1 [])) (fun b=>[]) (fun b=>(sV c d e a f i b [])) (fun r env st=>zj8 Tryz.prog Tryz.f199 3 (.tup []) (sV c d e a f i r []) env st) (zaE [.old 0,.old 1,.old 2]) ?_ ?_
 ·rintro ⟨j,l⟩ r h
  refine A ?_
  refine zf ?_
  refine zeh h y (fun D h=>?_) fun D h=>?_
  ·refine ze ?_
   refine zaA (X:=Bool) (fun z=>[(0,.mpt 0 0 0),(1,iA m),(11,.isl 4 (map zap a.Traps)),(12,iA (length a.Traps:Int)),(13,iA l)]) (fun z=>(sV c d e a f i z [])) (fun z=>zdk l z=some r) ?_ ?_
   ·refine zj ?_
    obtain ⟨n,I,h⟩:=bs h
    refine A ?_
    refine A ?_
    refine zaA (X:=T0) (fun z=>[(0,.mpt 0 0 0),(1,iA m),(5,.mpt 3 0 0),(6,sA z),(11,.isl 4 (map zap a.Traps)),(12,iA (length a.Traps:Int)),(13,iA l)]) (fun z=>(sV c d e a f i j [some (4,[(zap n)])])) (fun z=>zb4 c d e a f i m j l n z=some r) ?_ ?_
    ·refine A ?_
     refine zeh h y (fun v h=>?_) fun v h=>?_
     ·refine A ?_
      exact (⟨[84,104,114,111,119,110],h,zp [.old 0,.old 1,.old 2,.old 3]⟩)
     ·refine ze ?_
      exact ⟨n.C,h,zp [.old 0,.old 1,.old 2,.old 3]⟩
    ·rintro q h
     obtain ⟨p,E,h⟩:=bs h
     refine rg y<|u<|mv y<|u<|mv y<|u<|nc y y<|u<|fa ti y y y<|u<|ld ti y y<|u<|mv y<|u<|pc (zck c d q [84,104,114,111,119,110] E) y y y<|u<|sx [0,1,2] (zr c d e a f i j p y)<|zv (env0:=[(0,.mpt 0 0 0),(1,iA m),(5,.mpt 3 0 0),(6,sA q),(11,.isl 4 (map zap a.Traps)),(12,iA (length a.Traps:Int)),(13,iA l)]) (st0:=(sV c d e a f i (j||(!p)) [some (4,[(zap n)])])) (zp [.old 0,.old 1,.old 2,.old 3])<|zn ?_
     refine A ?_
     refine zeh h y (fun x h=>?_) fun x h=>?_
     ·obtain ⟨s,F,h⟩:=bs h
      refine A ?_
      exact u<|sx [0,1,2,4] (ziL c d e a f i (j||(!p)) n.At [q] F)<|zv (env0:=[(0,.mpt 0 0 0),(1,iA m),(11,.isl 4 (map zap a.Traps)),(12,iA (length a.Traps:Int)),(13,iA l)]) (st0:=(sV c d e a f i s [])) (zp [.old 0,.old 1,.old 2])<|zn (⟨s,h,zp [.old 0,.old 1,.old 2]⟩)
     ·refine ze ?_
      exact ⟨(j||(!p)),h,zp [.old 0,.old 1,.old 2]⟩
   ·rintro G h
    refine A ?_
    obtain rfl:=sm h
    exact ⟨_,y,zp [.old 0,.old 1,.old 2]⟩
  ·refine zy ?_
   obtain rfl:=sm h
   exact ⟨y,_,y,zp [.old 0,.old 1,.old 2]⟩
 ·rintro H rfl
  refine zu ?_
  obtain rfl:=sm h
  exact ⟨_,y,zab [.old 0,.old 1,.old 2]⟩
def zak(a:Int)(b:Int)(c:Int):Bool:=
  ((decide (b≤a))&&(decide (a≤c)))
instance (a:Int)(b:Int)(c:Int):PF Tryz.prog 278 [iA a,iA b,iA c] (some (zak a b c)) bA:=.of fun r h=>by
 refine zl Tryz.func278 y kz y y ?_
 unfold zak at h
 refine A ?_
 refine A ?_
 refine zD ?_
 obtain rfl:=h
 exact ⟨_,y,zab []⟩
def zE(d:List za)(e:T2)(f:T0)(i:zb)(j:T1)(a:T1)(l:Bool)(b:T0):Option (T1):=
  (zfY 16 a [b]).bind fun c=>some c
theorem zz(a:List za)(b:T2)(c:T0)(d:zb)(e:T1)(l:T1)(i:Bool)(j:T0){r:T1}(h:zE a b c d e l i j=some r):SC Tryz.prog 281 [.mpt 0 0 0,sA j] (tV a b c d e l i []) (.tup []) (tU a b c d e r i []):=by
 refine ⟨⟨t,zgu (sz:=1) (fun _=>y),t,zgu (sz:=1) (fun _=>y),t⟩,zP Tryz.func281 y kz y ?_⟩
 obtain ⟨n,m,h⟩:=bs h
 refine A ?_
 refine u<|apM 4 ti y ti y y (by decide) ti y y y y (roX (f:=zt) (z:=[j]) y y) (fun _=>y) y m<|A ?_
 obtain rfl:=sm h
 exact ⟨_,y,zab [.old 0,.old 1,.dead,.old 4]⟩
def z7(e:List za)(f:T2)(i:T0)(j:zb)(l:T1)(a:T1)(b:Bool):Option (T0×T1×Bool):=
  cond (((length a):Int) == (0:Int)) (some ([84],a,true)) ((idx a (IntKind.i64.wrap (((length a):Int)-1))).bind fun c=>(zhs a 0 (IntKind.i64.wrap (((length a):Int)-1))).bind fun d=>some (c,d,b))
theorem zam(e:List za)(i:T2)(j:T0)(m:zb)(d:T1)(a:T1)(n:Bool){r:T0×T1×Bool}(h:z7 e i j m d a n=some r):SC Tryz.prog 341 [.mpt 0 0 0] (tV e i j m d a n []) (sA r.1) (tV e i j m d r.2.1 r.2.2 []):=by
 refine ⟨⟨t,zgu (sz:=1) (fun _=>y),zgu (sz:=1) (fun _=>y),t⟩,zP Tryz.func341 y kz y ?_⟩
 refine A ?_
 refine zf<|A ?_
 refine zeh h y (fun p h=>?_) fun p h=>?_
 ·refine A ?_
  refine A ?_
  exact RT3
 ·refine ze ?_
  obtain ⟨s,v,h⟩:=bs h
  refine rdA [(0,_),(3,_)] (sV e i j m d a n []) [] [0,1,2,3,4,5,6,7,8,9,10,11,12] [(3,_),(24,_),(23,_),(22,_),(21,_),(20,_),(19,_),(18,_),(17,_),(16,_),(15,_),(14,_),(13,_)] 0 (zdg (z:=zaE [.old 0,.old 1,.old 2])) ?_
  obtain ⟨q,o,h⟩:=bs h
  refine rdA [(3,_)] [some (15,[(vK e i j m (.msl 1 0 (length d)) (.msl 2 0 (length q)) (bA n))]),some (1,map zt d),some (1,map zt a)] [14] [0,1,2,3,4,5,6,7,8,9,10,11,12,13] [(38,_),(37,_),(36,_),(35,_),(34,_),(33,_),(32,_),(31,_),(30,_),(29,_),(28,_),(27,_),(26,_),(25,_)] 1 (zcC ⟨peC,peC,peC,peC,peC,peC,peC,peC,peC,peC,peC,(by exact pb y (slM (l:=a) (c:=(IntKind.i64.wrap (((length a):Int)-1))) ti y ti y y y (zjZ y o) o<|w)),peC,peC,t⟩ (by exact ⟨(fun _ _=>⟨_,y,y,sto ti y y y<|⟨.any,[],[],y,y,y,t,zdg (z:=zaE [.old 0,.old 1,.old 2])⟩⟩),t⟩)) ?_
  refine zCR (b:=2) (l:=a) (f:=zt) (c:=(IntKind.i64.wrap (((length a):Int)-1))) y y o ?_
  refine A ?_
  exact RT3
def zba(i:List za)(j:T2)(l:T0)(m:zb)(a:T1)(b:T1)(c:Bool)(n:zw)(d:Bool):Option (T1×T1×Bool):=
  cond d (some (a,b,true)) ((idx a n.A).bind fun e=>(zE i j l m a b c e).bind fun f=>some (a,f,c))
def zaH(c:List za)(d:T2)(e:T0)(f:zb)(a:T1)(l:T1)(i:Bool)(b:zw):Option (T1×T1×Bool):=
  cond (b.Op == (1:Int)) ((zE c d e f a l i [73]).bind fun E=>some (a,E,i)) (cond (b.Op == (2:Int)) ((zE c d e f a l i [78]).bind fun s=>some (a,s,i)) (cond (b.Op == (3:Int)) (cond (decide (((length a):Int)≤b.A)) (zba c d e f a l i b true) ((idx a b.A).bind fun v=>zba c d e f a l i b (v == [84]))) (cond (b.Op == (4:Int)) ((z7 c d e f a l i).bind fun n=>cond (decide (((length a):Int)≤b.A)) (some (a,n.2.1,true)) ((zmm a).bind fun p=>(idx p b.A).bind fun F=>some ((List.set p (Int.toNat b.A) n.1),n.2.1,n.2.2))) (cond (b.Op == (5:Int)) ((z7 c d e f a l i).bind fun q=>some (a,q.2.1,q.2.2)) (cond (b.Op == (6:Int)) ((z7 c d e f a l i).bind fun j=>(zE c d e f a j.2.1 j.2.2 j.1).bind fun x=>(zE c d e f a x j.2.2 j.1).bind fun B=>some (a,B,j.2.2)) (cond (b.Op == (7:Int)) ((z7 c d e f a l i).bind fun o=>(z7 c d e f a o.2.1 o.2.2).bind fun m=>(zE c d e f a m.2.1 m.2.2 o.1).bind fun C=>(zE c d e f a C m.2.2 m.1).bind fun D=>some (a,D,m.2.2)) (some (a,l,i))))))))
theorem zkh(b:List za)(c:T2)(d:T0)(e:zb)(a:T1)(m:T1)(l:Bool)(n:zw){r:T1×T1×Bool}(h:zaH b c d e a m l n=some r):SC Tryz.prog 279 [.mpt 0 0 0,.agg (zi n)] (tV b c d e a m l []) (.tup []) [.one 15 (vK b c d e (.msl 3 0 (length r.1)) (.msl 4 0 (length r.2.1)) (bA r.2.2)),.no,.no,.many 1 (map zt r.1),.many 1 (map zt r.2.1)]:=by
 refine ⟨⟨t,t,t,zgu (sz:=1) (fun _=>y),zgu (sz:=1) (fun _=>y),t⟩,zP Tryz.func279 y kz y ?_⟩
 refine A ?_
 refine A ?_
 refine zj<|A ?_
 refine zeh h y (fun G h=>?_) fun G h=>?_
 ·obtain ⟨v9,q2,h⟩:=bs h
  refine rl y<|u<|mv y<|u<|sx [0,1,2] (zz b c d e a m l [73] q2)<|zv (env0:=[]) (st0:=(sU b c d e a v9 l [])) (zp [.old 0,.old 1,.dead,.old 4])<|zn ?_
  obtain rfl:=sm h
  exact ⟨_,y,zab [.old 0,.dead,.dead,.old 1,.old 3]⟩
 ·refine A ?_
  refine zeh h y (fun H h=>?_) fun H h=>?_
  ·obtain ⟨I,q4,h⟩:=bs h
   refine rl y<|u<|mv y<|u<|sx [0,1,2] (zz b c d e a m l [78] q4)<|zv (env0:=[]) (st0:=(sU b c d e a I l [])) (zp [.old 0,.old 1,.dead,.old 4])<|zn ?_
   obtain rfl:=sm h
   exact ⟨_,y,zab [.old 0,.dead,.dead,.old 1,.old 3]⟩
  ·refine A ?_
   refine zeh h y (fun J h=>?_) fun J h=>?_
   ·refine zf ?_
    refine zaA (X:=Bool) (fun z=>[(0,.mpt 0 0 0),(3,.mpt 3 0 0),(38,bA z)]) (fun z=>(sV b c d e a m l [some (4,[(zi n)])])) (fun z=>zba b c d e a m l n z=some r) ?_ ?_
    ·rcases bb (decide (((length a):Int)≤n.A)) with q |q
     ·replace h:=bT q h
      exact rdQ [] [0,1,2,3,4,5,6,7,8,9,10,11,12,13,14,15,16,17,18] [(38,_),(37,_),(36,_),(35,_),(34,_),(33,_),(32,_),(31,_),(30,_),(29,_),(28,_),(27,_),(26,_),(25,_),(24,_),(23,_),(22,_),(21,_),(20,_)] 0 (zdg (z:=by exact ⟨true,h,zaE [.old 0,.old 1,.old 2,.old 3]⟩))
     ·replace h:=bF q h
      obtain ⟨K,q7,h⟩:=bs h
      exact rdQ [] [0,1,2,3,4,5,6,7,8,9,10,11,12,13,14,15,16,17,18] [(38,_),(37,_),(36,_),(35,_),(34,_),(33,_),(32,_),(31,_),(30,_),(29,_),(28,_),(27,_),(26,_),(25,_),(24,_),(23,_),(22,_),(21,_),(20,_)] 0 (zdg (z:=by exact ⟨(K == [84]),h,zaE [.old 0,.old 1,.old 2,.old 3]⟩))
    ·rintro v12 h
     refine zeh h y (fun L h=>?_) fun L h=>?_
     ·refine A ?_
      refine zD ?_
      obtain rfl:=sm h
      exact ⟨_,y,zxW [.old 0,.dead,.dead,.old 1,.old 2]⟩
     ·refine ze ?_
      obtain ⟨M,q9,N,O,h⟩:=bs2 h
      refine ziy [] (sU b c d e a N l []) [9] [0,1,2,3,4,5,6,7,8] [(50,_),(49,_),(48,_),(47,_),(46,_),(45,_),(44,_),(43,_),(42,_)] 1 (zcC (z:=by exact ⟨(fun _ _=>⟨_,y,y,sx [0,1,2] (zz b c d e a m l M O)<|⟨(.tup []),[],[(51,_)],y,y,y,y,zdg (z:=zaE [.old 0,.old 1,.dead,.old 4])⟩⟩),t⟩)) ?_
      obtain rfl:=sm h
      exact ⟨_,y,zab [.old 0,.dead,.dead,.old 1,.old 3]⟩
   ·refine A ?_
    refine zeh h y (fun B h=>?_) fun B h=>?_
    ·obtain ⟨f,P,h⟩:=bs h
     refine rg y<|u<|mv y<|u<|sx [0,1,2] (zam b c d e a m l P)<|zv (env0:=[(0,.mpt 0 0 0),(3,.mpt 3 0 0),(55,sA f.1)]) (st0:=(sV b c d e a f.2.1 f.2.2 [some (4,[(zi n)])])) (zp [.old 0,.old 1,.old 2,.old 3])<|A ?_
     refine zf ?_
     refine rdA [(0,_),(3,_),(4,_),(63,_)] (sV b c d e a f.2.1 f.2.2 [some (4,[(zi n)])]) [] [0,1,2,3,4,5,6,7] [(63,_),(62,_),(61,_),(60,_),(59,_),(58,_),(57,_),(56,_)] 0 (zdg (z:=zaE [.old 0,.old 1,.old 2,.old 3])) ?_
     refine zeh h y (fun C h=>?_) fun C h=>?_
     ·refine A ?_
      refine zD ?_
      obtain rfl:=sm h
      exact ⟨_,y,zxW [.old 0,.dead,.dead,.old 1,.old 2]⟩
     ·refine ze ?_
      obtain ⟨p,Q,h⟩:=bs h
      refine A ?_
      refine zv (env0:=[(0,.mpt 0 0 0),(3,.mpt 3 0 0),(4,sA f.1),(67,.mpt 0 0 0),(71,.isl 1 (map zt a))]) (st0:=[some (15,[(vK b c d e (.isl 1 (map zt a)) (.msl 2 0 (length f.2.1)) (bA f.2.2))]),none,some (1,map zt f.2.1),some (4,[(zi n)])]) (zp [.old 0,.dead,.old 2,.old 3])<|u<|sx [] (zom a Q)<|zv (env0:=[(0,.mpt 0 0 0),(3,.mpt 3 0 0),(4,sA f.1),(67,.mpt 0 0 0),(72,.msl 4 0 (length p))]) (st0:=[some (15,[(vK b c d e (.isl 1 (map zt a)) (.msl 2 0 (length f.2.1)) (bA f.2.2))]),none,some (1,map zt f.2.1),some (4,[(zi n)]),some (1,map zt p)]) (zp [.old 0,.dead,.old 2,.old 3,.old 4])<|A ?_
      obtain ⟨v17,R,h⟩:=bs h
      refine ziy [] [some (15,[(vK b c d e (.msl 3 0 (length (List.set p (Int.toNat n.A) f.1))) (.msl 2 0 (length f.2.1)) (bA f.2.2))]),none,some (1,map zt f.2.1),some (1,map zt (List.set p (Int.toNat n.A) f.1))] [8] [0,1,2,3,4,5,6,7] [(82,_),(81,_),(80,_),(79,_),(78,_),(77,_),(76,_),(75,_)] 1 (zcC (z:=by exact ⟨(fun _ _=>⟨_,y,y,zB6 (c':=f.1) ti y y (zm R).2.2 y y y y y<|⟨.any,[],[],y,y,y,t,zdg (z:=by exact ⟨[.old 0,.dead,.old 2,.old 4],cn,y,⟨⟨_,y,zaz (zvV y (by exact ⟨zBK (by simp) y,.msl y,ci y,t⟩))⟩,⟨_,y,zbs (fun _=>y)⟩,⟨_,y,zbs (fun _=>y)⟩,t⟩,y,k⟩)⟩⟩),t⟩)) ?_
      obtain rfl:=sm h
      exact ⟨_,y,zab [.old 0,.dead,.dead,.old 3,.old 2]⟩
    ·refine A ?_
     refine zeh h y (fun D h=>?_) fun D h=>?_
     ·obtain ⟨s,S,h⟩:=bs h
      refine rl y<|u<|mv y<|u<|sx [0,1,2] (zam b c d e a m l S)<|zv (env0:=[]) (st0:=(sV b c d e a s.2.1 s.2.2 [])) (zp [.old 0,.old 1,.old 2])<|zn ?_
      obtain rfl:=sm h
      exact ⟨_,y,zab [.old 0,.dead,.dead,.old 1,.old 2]⟩
     ·refine A ?_
      refine zeh h y (fun E h=>?_) fun E h=>?_
      ·obtain ⟨i,T,h⟩:=bs h
       refine rg y<|u<|mv y<|u<|sx [0,1,2] (zam b c d e a m l T)<|zv (env0:=[(0,.mpt 0 0 0),(90,sA i.1)]) (st0:=(sV b c d e a i.2.1 i.2.2 [])) (zp [.old 0,.old 1,.old 2])<|A ?_
       obtain ⟨v,U,h⟩:=bs h
       refine rg y<|u<|mv y<|u<|mv y<|u<|sx [0,1,2] (zz b c d e a i.2.1 i.2.2 i.1 U)<|zv (env0:=[(0,.mpt 0 0 0),(5,sA i.1)]) (st0:=(sU b c d e a v i.2.2 [])) (zp [.old 0,.old 1,.dead,.old 3])<|zn ?_
       obtain ⟨V,W,h⟩:=bs h
       refine rl y<|u<|mv y<|u<|mv y<|u<|sx [0,1,3] (zz b c d e a v i.2.2 i.1 W)<|zv (env0:=[]) (st0:=(sU b c d e a V i.2.2 [])) (zp [.old 0,.old 1,.dead,.old 4])<|zn ?_
       obtain rfl:=sm h
       exact ⟨_,y,zab [.old 0,.dead,.dead,.old 1,.old 3]⟩
      ·refine A ?_
       refine zeh h y (fun F h=>?_) fun F h=>?_
       ·obtain ⟨o,Y,j,Z,h⟩:=bs2 h
        refine rg y<|u<|mv y<|u<|sx [0,1,2] (zam b c d e a m l Y)<|zv (env0:=[(0,.mpt 0 0 0),(100,sA o.1)]) (st0:=(sV b c d e a o.2.1 o.2.2 [])) (zp [.old 0,.old 1,.old 2])<|u<|mv y<|u<|sx [0,1,2] (zam b c d e a o.2.1 o.2.2 Z)<|zv (env0:=[(0,.mpt 0 0 0),(100,sA o.1),(102,sA j.1)]) (st0:=(sV b c d e a j.2.1 j.2.2 [])) (zp [.old 0,.old 1,.old 2])<|A ?_
        obtain ⟨x,q25,h⟩:=bs h
        refine rg y<|u<|mv y<|u<|mv y<|u<|sx [0,1,2] (zz b c d e a j.2.1 j.2.2 o.1 q25)<|zv (env0:=[(0,.mpt 0 0 0),(7,sA j.1)]) (st0:=(sU b c d e a x j.2.2 [])) (zp [.old 0,.old 1,.dead,.old 3])<|zn ?_
        obtain ⟨v25,q26,h⟩:=bs h
        refine rl y<|u<|mv y<|u<|mv y<|u<|sx [0,1,3] (zz b c d e a x j.2.2 j.1 q26)<|zv (env0:=[]) (st0:=(sU b c d e a v25 j.2.2 [])) (zp [.old 0,.old 1,.dead,.old 4])<|zn ?_
        obtain rfl:=sm h
        exact ⟨_,y,zab [.old 0,.dead,.dead,.old 1,.old 3]⟩
       ·refine ze ?_
        obtain rfl:=sm h
        exact ⟨_,y,zab [.old 0,.dead,.dead,.old 1,.old 2]⟩
def zkj(a:T1)(b:Bool):Option (T1×Bool):=
  some (a,b)
def zaw(e:List za)(f:T2)(l:T0)(m:zb)(n:T1)(o:T1)(c:T1)(d:Bool)(a:Int):Option (Sum (T1×Bool×Int) (Sum (T1×Bool) (T1×Bool))):=
  cond (decide (0≤a)) ((idx o a).bind fun i=>(z7 e f l m n c d).bind fun b=>(zeg e f b.1 i).bind fun j=>some (.inl (b.2.1,(b.2.2||(!j)),(IntKind.i64.wrap (a-1))))) (some (.inr (.inl (c,d))))
def zH(c:List za)(d:T2)(e:T0)(f:zb)(i:T1)(j:T1)(l:Bool)(a:T1):Option (T1×Bool):=
  (zs (fun z=>zaw c d e f i a z.1 z.2.1 z.2.2) (j,l,(IntKind.i64.wrap ((length a:Int)-1)))).bind fun o=>zQ o (fun b=>zkj b.1 b.2) some
theorem zG(a:List za)(c:T2)(d:T0)(e:zb)(f:T1)(m:T1)(n:Bool)(l:T1){r:T1×Bool}(h:zH a c d e f m n l=some r):SC Tryz.prog 280 [.mpt 0 0 0,.isl 1 (map zt l)] (tV a c d e f m n []) (.tup []) (tV a c d e f r.1 r.2 []):=by
 refine ⟨⟨t,zgu (sz:=1) (fun _=>y),zgu (sz:=1) (fun _=>y),t⟩,zP Tryz.func280 y kz y ?_⟩
 refine A ?_
 obtain ⟨o,ho,h⟩:=bs h
 refine lpB ho (fun z=>[(0,.mpt 0 0 0),(1,.isl 1 (map zt l)),(4,iA z.2.2)]) (fun z=>(sV a c d e f z.1 z.2.1 [])) (fun b=>[]) (fun b=>(sV a c d e f b.1 b.2 [])) (fun r env st=>zj8 Tryz.prog Tryz.f280 3 (.tup []) (sV a c d e f r.1 r.2 []) env st) (zaE [.old 0,.old 1,.old 2]) ?_ ?_
 ·rintro ⟨p,q,x⟩ r h
  refine zf<|A ?_
  refine zeh h y (fun s h=>?_) fun s h=>?_
  ·refine ze<|zf<|zj ?_
   obtain ⟨B,E,i,v,j,F,h⟩:=bs3 h
   refine ziy [(0,_),(1,_),(4,_)] (sV a c d e f i.2.1 (i.2.2||(!j)) []) [6,12] [0,1,2,3,4,5,7,8,9,10] [(22,_),(21,_),(20,_),(19,_),(17,_),(16,_),(15,_),(14,_),(13,_),(12,_)] 2 (zcC (z:=by exact ⟨(fun _ _=>⟨_,y,y,sx [0,1,2] (zam a c d e f p q v)<|⟨(sA i.1),[11],[(23,_),(18,_)],y,y,y,y,zcC (z:=by exact ⟨nv,(fun _ _=>⟨_,y,y,sx [0,1,2] (zr a c d e f i.2.1 i.2.2 j y)<|⟨(.tup []),[],[(24,_)],y,y,y,y,zdg (z:=zaE [.old 0,.old 1,.old 2])⟩⟩),t⟩)⟩⟩),nw,t⟩)) ?_
   refine A ?_
   obtain rfl:=sm h
   exact ⟨_,y,zp [.old 0,.old 1,.old 2]⟩
  ·refine zy ?_
   obtain rfl:=sm h
   exact ⟨y,_,y,zp [.old 0,.old 1,.old 2]⟩
 ·rintro ⟨C,D⟩ rfl
  refine zu ?_
  obtain rfl:=sm h
  exact ⟨_,y,zab [.old 0,.old 1,.old 2]⟩
def zbv(c:List za)(d:T2)(e:T0)(f:zb)(i:T1)(j:T1)(l:Bool):Option (T0×T1×Bool):=
  (z7 c d e f i j l).bind fun a=>(cond (a.1 == [78]) (some true) ((zjz a.1).bind fun m=>some m)).bind fun b=>some (a.1,a.2.1,(a.2.2||(!b)))
theorem zc0(b:List za)(c:T2)(d:T0)(e:zb)(f:T1)(j:T1)(l:Bool){r:T0×T1×Bool}(h:zbv b c d e f j l=some r):SC Tryz.prog 282 [.mpt 0 0 0] (tV b c d e f j l []) (sA r.1) (tV b c d e f r.2.1 r.2.2 []):=by
 refine ⟨⟨t,zgu (sz:=1) (fun _=>y),zgu (sz:=1) (fun _=>y),t⟩,zP Tryz.func282 y kz y ?_⟩
 refine A ?_
 obtain ⟨a,m,h⟩:=bs h
 refine rg y<|u<|mv y<|u<|sx [0,1,2] (zam b c d e f j l m)<|zv (env0:=[(0,.mpt 0 0 0),(5,sA a.1)]) (st0:=(sV b c d e f a.2.1 a.2.2 [])) (zp [.old 0,.old 1,.old 2])<|A ?_
 obtain ⟨i,n,h⟩:=bs h
 refine A ?_
 refine u<|sx [0,1,2] (zr b c d e f a.2.1 a.2.2 i y)<|zv (env0:=[(3,sA a.1)]) (st0:=(sV b c d e f a.2.1 (a.2.2||(!i)) [])) (zp [.old 0,.old 1,.old 2])<|zn ?_
 refine A ?_
 exact RT3
def zde(c:List za)(d:T2)(f:T0)(i:zb)(j:T1)(l:T1)(e:Bool)(b:zw):Option (T1×Bool):=
  cond (b.Op == (37:Int)) ((zao c d b.C).bind fun n=>(zE c d f i j l (e||(!(n.2&&(!n.1.Interface)))) b.C).bind fun q=>some (q,(e||(!(n.2&&(!n.1.Interface)))))) ((zhJ c d b.C b.M).bind fun a=>cond (b.Op == (38:Int)) ((zH c d f i j l (e||(!(a.2.2&&(a.2.1.Static == ((b.Op == (40:Int))||(b.Op == (41:Int))))))) [b.C]).bind fun m=>(zE c d f i j m.1 m.2 a.2.1.Type_).bind fun s=>some (s,m.2)) (cond (b.Op == (39:Int)) ((zH c d f i j l (e||(!(a.2.2&&(a.2.1.Static == ((b.Op == (40:Int))||(b.Op == (41:Int))))))) [b.C,a.2.1.Type_]).bind fun o=>some (o.1,o.2)) (cond (b.Op == (40:Int)) ((zE c d f i j l (e||(!(a.2.2&&(a.2.1.Static == ((b.Op == (40:Int))||(b.Op == (41:Int))))))) a.2.1.Type_).bind fun v=>some (v,(e||(!(a.2.2&&(a.2.1.Static == ((b.Op == (40:Int))||(b.Op == (41:Int))))))))) ((zH c d f i j l (e||(!(a.2.2&&(a.2.1.Static == ((b.Op == (40:Int))||(b.Op == (41:Int))))))) [a.2.1.Type_]).bind fun p=>some (p.1,p.2)))))
theorem zjV(c:List za)(d:T2)(e:T0)(f:zb)(i:T1)(l:T1)(j:Bool)(b:zw){r:T1×Bool}(h:zde c d e f i l j b=some r):SC Tryz.prog 283 [.mpt 0 0 0,.agg (zi b)] (tV c d e f i l j []) (.tup []) (tU c d e f i r.1 r.2 []):=by
 refine ⟨⟨t,zgu (sz:=1) (fun _=>y),t,zgu (sz:=1) (fun _=>y),t⟩,zP Tryz.func283 y kz y ?_⟩
 refine A ?_
 refine zf<|A ?_
 refine zeh h y (fun v h=>?_) fun v h=>?_
 ·obtain ⟨m,L,h⟩:=bs h
  refine rdA [(0,_),(3,_),(4,_),(5,_)] (sV c d e f i l j [some (4,[(zi b)]),some (6,[(zc m.1)])]) [10,11] [0,1,2,3,4,5,6,7,8,9] [(21,_),(20,_),(12,_),(19,_),(18,_),(17,_),(16,_),(15,_),(14,_),(13,_)] 2 (zcC (z:=by exact ⟨(fun _ _=>⟨_,y,y,al 4 ti y<|⟨(.mpt 4 0 0),[],[(4,_)],y,y,y,y,zcC (z:=by exact ⟨nv,(fun _ _=>⟨_,y,y,sto ti y y y<|⟨.any,[12],[(5,_)],y,y,y,t,zdg (z:=zaE [.old 0,.old 1,.old 2,.old 3,.old 4])⟩⟩),t⟩)⟩⟩),nw,t⟩)) ?_
  refine A ?_
  refine u<|sx [0,1,2] (zr c d e f i l j (m.2&&(!m.1.Interface)) y)<|zv (env0:=[(0,.mpt 0 0 0),(3,.mpt 3 0 0)]) (st0:=(sV c d e f i l (j||(!(m.2&&(!m.1.Interface)))) [some (4,[(zi b)])])) (zp [.old 0,.old 1,.old 2,.old 3])<|zn ?_
  obtain ⟨x,J,h⟩:=bs h
  refine A ?_
  refine u<|sx [0,1,2] (zz c d e f i l (j||(!(m.2&&(!m.1.Interface)))) b.C J)<|zv (env0:=[]) (st0:=(sU c d e f i x (j||(!(m.2&&(!m.1.Interface)))) [])) (zp [.old 0,.old 1,.dead,.old 4])<|zn ?_
  refine zD ?_
  obtain rfl:=sm h
  exact ⟨_,y,zxW [.old 0,.old 1,.dead,.old 3]⟩
 ·refine ze ?_
  obtain ⟨a,M,h⟩:=bs h
  refine rdA [(0,_),(3,_),(7,_),(8,_)] (sV c d e f i l j [some (4,[(zi b)]),some (3,[(zA a.2.1)])]) [13,15] [0,1,2,3,4,5,6,7,8,9,10,11,12] [(46,_),(45,_),(44,_),(34,_),(43,_),(42,_),(41,_),(40,_),(39,_),(38,_),(37,_),(36,_),(35,_)] 2 (zcC (z:=by exact ⟨(fun _ _=>⟨_,y,y,al 4 ti y<|⟨(.mpt 4 0 0),[14],[(6,_),(7,_)],y,y,y,y,zcC (z:=by exact ⟨nv,(fun _ _=>⟨_,y,y,sto ti y y y<|⟨.any,[16],[(8,_)],y,y,y,t,zdg (z:=zaE [.old 0,.old 1,.old 2,.old 3,.old 4])⟩⟩),t⟩)⟩⟩),nw,t⟩)) ?_
  refine A ?_
  refine u<|sx [0,1,2] (zr c d e f i l j (a.2.2&&(a.2.1.Static == ((b.Op == (40:Int))||(b.Op == (41:Int))))) y)<|zv (env0:=[(0,.mpt 0 0 0),(3,.mpt 3 0 0),(7,.mpt 4 0 0)]) (st0:=(sV c d e f i l (j||(!(a.2.2&&(a.2.1.Static == ((b.Op == (40:Int))||(b.Op == (41:Int))))))) [some (4,[(zi b)]),some (3,[(zA a.2.1)])])) (zp [.old 0,.old 1,.old 2,.old 3,.old 4])<|zn ?_
  refine A ?_
  refine zj<|A ?_
  refine zeh h y (fun B h=>?_) fun B h=>?_
  ·obtain ⟨n,K,h⟩:=bs h
   refine A ?_
   refine zv (env0:=[(0,.mpt 0 0 0),(7,.mpt 3 0 0),(72,.mpt 0 0 0),(75,.isl 1 (map zt [b.C]))]) (st0:=(sV c d e f i l (j||(!(a.2.2&&(a.2.1.Static == ((b.Op == (40:Int))||(b.Op == (41:Int))))))) [some (3,[(zA a.2.1)])])) (zp [.old 0,.old 1,.old 2,.old 4])<|u<|sx [0,1,2] (zG c d e f i l (j||(!(a.2.2&&(a.2.1.Static == ((b.Op == (40:Int))||(b.Op == (41:Int))))))) [b.C] K)<|zv (env0:=[(0,.mpt 0 0 0),(7,.mpt 3 0 0)]) (st0:=(sV c d e f i n.1 n.2 [some (3,[(zA a.2.1)])])) (zp [.old 0,.old 1,.old 2,.old 3])<|zn ?_
   obtain ⟨D,E,h⟩:=bs h
   refine A ?_
   refine u<|sx [0,1,2] (zz c d e f i n.1 n.2 a.2.1.Type_ E)<|zv (env0:=[]) (st0:=(sU c d e f i D n.2 [])) (zp [.old 0,.old 1,.dead,.old 4])<|zn ?_
   obtain rfl:=sm h
   exact ⟨_,y,zab [.old 0,.old 1,.dead,.old 3]⟩
  ·refine A ?_
   refine zeh h y (fun q h=>?_) fun q h=>?_
   ·obtain ⟨o,F,h⟩:=bs h
    refine A ?_
    refine zv (env0:=[(83,.mpt 0 0 0),(88,.isl 1 (map zt [b.C,a.2.1.Type_]))]) (st0:=(sV c d e f i l (j||(!(a.2.2&&(a.2.1.Static == ((b.Op == (40:Int))||(b.Op == (41:Int))))))) [])) (zp [.old 0,.old 1,.old 2])<|u<|sx [0,1,2] (zG c d e f i l (j||(!(a.2.2&&(a.2.1.Static == ((b.Op == (40:Int))||(b.Op == (41:Int))))))) [b.C,a.2.1.Type_] F)<|zv (env0:=[]) (st0:=(sV c d e f i o.1 o.2 [])) (zp [.old 0,.old 1,.old 2])<|zn ?_
    obtain rfl:=sm h
    exact ⟨_,y,zab [.old 0,.old 1,.dead,.old 2]⟩
   ·refine A ?_
    refine zeh h y (fun s h=>?_) fun s h=>?_
    ·obtain ⟨G,H,h⟩:=bs h
     refine A ?_
     refine u<|sx [0,1,2] (zz c d e f i l (j||(!(a.2.2&&(a.2.1.Static == ((b.Op == (40:Int))||(b.Op == (41:Int))))))) a.2.1.Type_ H)<|zv (env0:=[]) (st0:=(sU c d e f i G (j||(!(a.2.2&&(a.2.1.Static == ((b.Op == (40:Int))||(b.Op == (41:Int))))))) [])) (zp [.old 0,.old 1,.dead,.old 5])<|zn ?_
     obtain rfl:=sm h
     exact ⟨_,y,zab [.old 0,.old 1,.dead,.old 3]⟩
    ·obtain ⟨p,I,h⟩:=bs h
     refine A ?_
     refine zv (env0:=[(65,.mpt 0 0 0),(68,.isl 1 (map zt [a.2.1.Type_]))]) (st0:=(sV c d e f i l (j||(!(a.2.2&&(a.2.1.Static == ((b.Op == (40:Int))||(b.Op == (41:Int))))))) [])) (zp [.old 0,.old 1,.old 2])<|u<|sx [0,1,2] (zG c d e f i l (j||(!(a.2.2&&(a.2.1.Static == ((b.Op == (40:Int))||(b.Op == (41:Int))))))) [a.2.1.Type_] I)<|zv (env0:=[]) (st0:=(sV c d e f i p.1 p.2 [])) (zp [.old 0,.old 1,.old 2])<|zn ?_
     obtain rfl:=sm h
     exact ⟨_,y,zab [.old 0,.old 1,.dead,.old 2]⟩
def zaI(e:List za)(f:T2)(i:T0)(j:zb)(l:T1)(b:zb)(c:T1)(a:Bool):Option (T1×Bool):=
  cond (!(b.Ret == [86])) ((zE e f i j l c a b.Ret).bind fun d=>some (d,a)) (some (c,a))
def za9(b:List za)(c:T2)(e:T0)(i:zb)(j:T1)(m:zw)(n:T0)(f:zb)(d:T1×Bool)(o:Bool):Option (T1×Bool):=
  cond o ((zH b c e i j d.1 d.2 [m.C]).bind fun l=>zaI b c e i j f l.1 l.2) (cond (m.Op == (44:Int)) ((z7 b c e i j d.1 d.2).bind fun a=>(zeg b c a.1 m.C).bind fun p=>cond p ((zeg b c a.1 e).bind fun q=>cond q ((zbg b c e).bind fun s=>(zI s n).bind fun v=>zaI b c e i j f a.2.1 (a.2.2||(!v))) (zaI b c e i j f a.2.1 (a.2.2||(!false)))) (zaI b c e i j f a.2.1 (a.2.2||(!false)))) (zaI b c e i j f d.1 d.2))
def zbz(e:List za)(f:T2)(i:T0)(j:zb)(l:T1)(n:T1)(o:Bool)(b:zw)(c:T0)(a:zb)(m:Bool):Option (T1×Bool):=
  (zH e f i j l n (o||(!(m&&(a.Static == (b.Op == (42:Int)))))) a.Params).bind fun d=>cond (b.Op == (43:Int)) (za9 e f i j l b c a d (b.Op == (43:Int))) (za9 e f i j l b c a d (b.Op == (45:Int)))
def zcw(c:List za)(d:T2)(f:T0)(i:zb)(j:T1)(l:T1)(m:Bool)(a:zw):Option (T1×Bool):=
  (zha c d a.C a.M).bind fun e=>cond (a.Op == (45:Int)) ((ziv c d a.C a.M).bind fun b=>zbz c d f i j l m a b.1 b.2.1 b.2.2) (zbz c d f i j l m a e.1 e.2.1 (e.2.2&&(!e.2.1.Abstract)))
theorem zkg(c:List za)(d:T2)(e:T0)(f:zb)(i:T1)(p:T1)(q:Bool)(l:zw){r:T1×Bool}(h:zcw c d e f i p q l=some r):SC Tryz.prog 284 [.mpt 0 0 0,.agg (zi l)] (tV c d e f i p q []) (.tup []) (tU c d e f i r.1 r.2 []):=by
 refine ⟨⟨t,zgu (sz:=1) (fun _=>y),t,zgu (sz:=1) (fun _=>y),t⟩,zP Tryz.func284 y kz y ?_⟩
 refine A ?_
 obtain ⟨E,q1,h⟩:=bs h
 refine rdA [(0,_),(3,_),(4,_),(5,_),(6,_)] (sV c d e f i p q [some (4,[(zi l)]),some (10,[(zd E.2.1)])]) [13,15] [0,1,2,3,4,5,6,7,8,9,10,11,12] [(20,_),(19,_),(18,_),(8,_),(17,_),(16,_),(15,_),(14,_),(13,_),(12,_),(11,_),(10,_),(9,_)] 2 (zcC (z:=by exact ⟨(fun _ _=>⟨_,y,y,al 4 ti y<|⟨(.mpt 4 0 0),[14],[(4,_),(5,_)],y,y,y,y,zcC (z:=by exact ⟨nv,(fun _ _=>⟨_,y,y,sto ti y y y<|⟨.any,[16],[(6,_)],y,y,y,t,zdg (z:=zaE [.old 0,.old 1,.old 2,.old 3,.old 4])⟩⟩),t⟩)⟩⟩),nw,t⟩)) ?_
 refine A ?_
 refine zaA (X:=T0×zb×Bool) (fun z=>[(0,.mpt 0 0 0),(3,.mpt 3 0 0),(4,sA z.1),(5,.mpt 4 0 0),(6,bA z.2.2)]) (fun z=>(sV c d e f i p q [some (4,[(zi l)]),some (10,[(zd z.2.1)])])) (fun z=>zbz c d e f i p q l z.1 z.2.1 z.2.2=some r) ?_ ?_
 ·refine A ?_
  refine zeh h y (fun N h=>?_) fun N h=>?_
  ·obtain ⟨v,q4,h⟩:=bs h
   refine ziy [(0,_),(3,_),(4,_),(5,_),(6,_)] (sV c d e f i p q [some (4,[(zi l)]),some (10,[(zd v.2.1)])]) [14] [0,1,2,3,4,5,6,7,8,9,10,11,12,13] [(4,_),(42,_),(41,_),(40,_),(30,_),(39,_),(38,_),(37,_),(36,_),(35,_),(34,_),(33,_),(32,_),(31,_)] 1 (zcC (z:=by exact ⟨(fun _ _=>⟨_,y,y,sto ti y y y<|⟨.any,[15],[(6,_)],y,y,y,t,zdg (z:=zaE [.old 0,.old 1,.old 2,.old 3,.old 4])⟩⟩),t⟩)) ?_
   exact ⟨⟨v.1,v.2.1,v.2.2⟩,h,zp [.old 0,.old 1,.old 2,.old 3,.old 4]⟩
  ·refine ze ?_
   exact ⟨⟨E.1,E.2.1,(E.2.2&&(!E.2.1.Abstract))⟩,h,zp [.old 0,.old 1,.old 2,.old 3,.old 4]⟩
 ·rintro ⟨o,j,F⟩ h
  refine A ?_
  refine u<|sx [0,1,2] (zr c d e f i p q (F&&(j.Static == (l.Op == (42:Int)))) y)<|zv (env0:=[(0,.mpt 0 0 0),(3,.mpt 3 0 0),(4,sA o),(5,.mpt 4 0 0)]) (st0:=(sV c d e f i p (q||(!(F&&(j.Static == (l.Op == (42:Int)))))) [some (4,[(zi l)]),some (10,[(zd j)])])) (zp [.old 0,.old 1,.old 2,.old 3,.old 4])<|zn ?_
  obtain ⟨m,W,h⟩:=bs h
  refine A ?_
  refine u<|sx [0,1,2] (zG c d e f i p (q||(!(F&&(j.Static == (l.Op == (42:Int)))))) j.Params W)<|zv (env0:=[(0,.mpt 0 0 0),(3,.mpt 3 0 0),(4,sA o),(5,.mpt 4 0 0)]) (st0:=(sV c d e f i m.1 m.2 [some (4,[(zi l)]),some (10,[(zd j)])])) (zp [.old 0,.old 1,.old 2,.old 3,.old 4])<|zn ?_
  refine zaA (X:=T1×Bool) (fun z=>[(0,.mpt 0 0 0),(5,.mpt 3 0 0)]) (fun z=>(sV c d e f i z.1 z.2 [some (10,[(zd j)])])) (fun z=>zaI c d e f i j z.1 z.2=some r) ?_ ?_
  ·refine A ?_
   refine zj ?_
   refine zaA (X:=Bool) (fun z=>[(0,.mpt 0 0 0),(3,.mpt 3 0 0),(4,sA o),(5,.mpt 4 0 0),(59,iA l.Op),(60,bA z)]) (fun z=>(sV c d e f i m.1 m.2 [some (4,[(zi l)]),some (10,[(zd j)])])) (fun z=>za9 c d e f i l o j m z=some r) ?_ ?_
   ·refine A ?_
    refine zeh h y (fun O h=>?_) fun O h=>?_
    ·refine ze ?_
     exact ⟨(l.Op == (43:Int)),h,zp [.old 0,.old 1,.old 2,.old 3,.old 4]⟩
    ·refine A ?_
     exact (⟨(l.Op == (45:Int)),h,zp [.old 0,.old 1,.old 2,.old 3,.old 4]⟩)
   ·rintro Z h
    refine zeh h y (fun P h=>?_) fun P h=>?_
    ·obtain ⟨B,Y,h⟩:=bs h
     refine A ?_
     exact zv (env0:=[(0,.mpt 0 0 0),(5,.mpt 3 0 0),(63,.mpt 0 0 0),(66,.isl 1 (map zt [l.C]))]) (st0:=(sV c d e f i m.1 m.2 [some (10,[(zd j)])])) (zp [.old 0,.old 1,.old 2,.old 4])<|u<|sx [0,1,2] (zG c d e f i m.1 m.2 [l.C] Y)<|zv (env0:=[(0,.mpt 0 0 0),(5,.mpt 3 0 0)]) (st0:=(sV c d e f i B.1 B.2 [some (10,[(zd j)])])) (zp [.old 0,.old 1,.old 2,.old 3])<|zn (⟨⟨B.1,B.2⟩,h,zp [.old 0,.old 1,.old 2,.old 3]⟩)
    ·refine A ?_
     refine zeh h y (fun L h=>?_) fun L h=>?_
     ·obtain ⟨a,Q,h⟩:=bs h
      refine rg y<|u<|mv y<|u<|sx [0,1,2] (zam c d e f i m.1 m.2 Q)<|zv (env0:=[(0,.mpt 0 0 0),(3,.mpt 3 0 0),(4,sA o),(5,.mpt 4 0 0),(71,sA a.1)]) (st0:=(sV c d e f i a.2.1 a.2.2 [some (4,[(zi l)]),some (10,[(zd j)])])) (zp [.old 0,.old 1,.old 2,.old 3,.old 4])<|A ?_
      obtain ⟨G,I,h⟩:=bs h
      rcases bb G with s |s
      ·replace h:=bT s h
       obtain ⟨H,q14,h⟩:=bs h
       rcases bb H with n |n
       ·replace h:=bT n h
        obtain ⟨J,R,D,S,h⟩:=bs2 h
        refine ziy [(0,.mpt 0 0 0),(5,.mpt 3 0 0)] (sV c d e f i a.2.1 (a.2.2||(!D)) [some (10,[(zd j)])]) [30,34] [0,1,2,3,4,5,6,7,8,9,10,11,12,13,14,15,16,17,18,19,20,21,22,23,24,25,26,27,28,29,31] [(103,_),(101,_),(100,_),(99,_),(98,_),(97,_),(96,_),(95,_),(94,_),(93,_),(92,_),(91,_),(90,_),(89,_),(88,_),(87,_),(86,_),(85,_),(84,_),(83,_),(82,_),(81,_),(80,_),(79,_),(78,_),(77,_),(76,_),(75,_),(74,_),(73,_),(72,_)] 2 (zcC (z:=by exact ⟨(fun _ _=>⟨_,y,cg (b:=H) y n,sx [] (zch c d e R)<|⟨(.msl 5 0 (length J)),[32,33],[(105,_),(104,_),(102,_)],y,y,y,y,zcC ⟨(by exact fun _=>pag (b:=H) y y y y n y (pcs (zag J o S) y y (.cons (zgK y (fun _=>y)) (.cons (si y) .nil)) zbF<|w)),peC,peC,peC,peC,peC,peC,peC,peC,peC,peC,peC,peC,peC,peC,peC,peC,peC,peC,peC,peC,peC,peC,peC,peC,peC,peC,peC,peC,peC,peC,peC,peC,t⟩ (by exact ⟨nv,(fun _ _=>⟨_,y,y,sc [0,1,2] (args:=[.mpt 0 0 0,bA D]) (zr c d e f i a.2.1 a.2.2 D y) y y y y ⟨(.mpt y),(rnI y),t⟩ ⟨⟨_,y,(zvw y ⟨(.msl y),(.msl y),(rnI y),t⟩)⟩,⟨y,mkI (fun _=>y)⟩,⟨y,mkI (fun _=>y)⟩,t⟩<|⟨(.tup []),[],[(106,_)],y,y,y,y,zdg (z:=zaE [.old 0,.old 1,.old 2,.old 4])⟩⟩),t⟩)⟩⟩),nw,t⟩)) ?_
        exact ⟨⟨a.2.1,(a.2.2||(!D))⟩,h,zp [.old 0,.old 1,.old 2,.old 3]⟩
       ·replace h:=bF n h
        refine ziy [(0,.mpt 0 0 0),(5,.mpt 3 0 0)] (sV c d e f i a.2.1 (a.2.2||(!false)) [some (10,[(zd j)])]) [34] [0,1,2,3,4,5,6,7,8,9,10,11,12,13,14,15,16,17,18,19,20,21,22,23,24,25,26,27,28,29,30,31,32,33] [(105,_),(104,_),(103,_),(102,_),(101,_),(100,_),(99,_),(98,_),(97,_),(96,_),(95,_),(94,_),(93,_),(92,_),(91,_),(90,_),(89,_),(88,_),(87,_),(86,_),(85,_),(84,_),(83,_),(82,_),(81,_),(80,_),(79,_),(78,_),(77,_),(76,_),(75,_),(74,_),(73,_),(72,_)] 1 (zcC (z:=by exact ⟨(fun _ _=>⟨_,y,y,sc [0,1,2] (args:=[.mpt 0 0 0,bA false]) (zr c d e f i a.2.1 a.2.2 false y) y y y y ⟨(.mpt y),(rnI y),t⟩ ⟨⟨_,y,(zvw y ⟨(.msl y),(.msl y),(rnI y),t⟩)⟩,⟨y,mkI (fun _=>y)⟩,⟨y,mkI (fun _=>y)⟩,t⟩<|⟨(.tup []),[],[(106,_)],y,y,y,y,zdg (z:=zaE [.old 0,.old 1,.old 2,.old 4])⟩⟩),t⟩)) ?_
        exact ⟨⟨a.2.1,(a.2.2||(!false))⟩,h,zp [.old 0,.old 1,.old 2,.old 3]⟩
      ·replace h:=bF s h
       refine ziy [(0,.mpt 0 0 0),(5,.mpt 3 0 0)] (sV c d e f i a.2.1 (a.2.2||(!false)) [some (10,[(zd j)])]) [34] [33,32,31,30,29,28,27,26,25,24,23,22,21,20,19,18,17,16,15,14,13,12,11,10,9,8,7,6,5,4,3,2,1,0] [(105,bA false),(104,.lit undef),(103,.lit undef),(102,.lit undef),(101,.lit undef),(100,.lit undef),(99,.lit undef),(98,.lit undef),(97,.lit undef),(96,.lit undef),(95,.lit undef),(94,.lit undef),(93,bA false),(92,bA false),(91,.lit undef),(90,.lit undef),(89,.lit undef),(88,.lit undef),(87,.lit undef),(86,.lit undef),(85,.lit undef),(84,.lit undef),(83,.lit undef),(82,.lit undef),(81,bA G),(80,bA G),(79,sA l.C),(78,.mpt 3 0 2),(77,sA a.1),(76,.ipt 2 [[.isl 6 (map zc c),.imp (map (rKV (fun x=>iA x)) d)]] 0 0),(75,.mpt 0 0 0),(74,.mpt 0 0 0),(73,.mpt 0 0 0),(72,.mpt 0 0 0)] 1 (zvv ⟨pe,pe,pe,pe,pe,pe,pe,pe,pe,pe,pe,pe,pe,pe,pe,pe,pe,pe,pe,pe,pe,pe,pe,pe,pe,(pb y (pc (zhx c d a.1 l.C I) y y y w)),(pb y (ld ti y y w)),(pb y (fa ti y y y w)),pe,(pb y (ld ti y y w)),(pb y (fa ti y y y w)),pe,pe,pe,t⟩ ⟨(fun _ _=>⟨_,y,y,sc [0,1,2] (args:=[.mpt 0 0 0,bA false]) (zr c d e f i a.2.1 a.2.2 false y) y y y y ⟨(.mpt y),(rnI y),t⟩ ⟨⟨_,y,(zvw y ⟨(.msl y),(.msl y),(rnI y),t⟩)⟩,⟨y,mkI (fun _=>y)⟩,⟨y,mkI (fun _=>y)⟩,t⟩<|⟨(.tup []),[],[(106,.tup [])],y,y,kz,y,zuJ ⟨pe,pe,pe,pe,pe,pe,pe,pe,pe,pe,pe,pe,pe,pe,pe,pe,pe,pe,pe,pe,pe,pe,pe,pe,pe,(pb y (pc (zhx c d a.1 l.C I) y y y w)),(pb y (ld ti y y w)),(pb y (fa ti y y y w)),pe,(pb y (ld ti y y w)),(pb y (fa ti y y y w)),pe,pe,pe,t⟩ (zp [.old 0,.old 1,.old 2,.old 4])⟩⟩),t⟩) ?_
       exact ⟨⟨a.2.1,(a.2.2||(!false))⟩,h,zp [.old 0,.old 1,.old 2,.old 3]⟩
     ·refine ze ?_
      exact ⟨⟨m.1,m.2⟩,h,zp [.old 0,.old 1,.old 2,.old 4]⟩
  ·rintro ⟨T,K⟩ h
   refine A ?_
   refine zeh h y (fun M h=>?_) fun M h=>?_
   ·obtain ⟨U,V,h⟩:=bs h
    refine A ?_
    refine u<|sx [0,1,2] (zz c d e f i T K j.Ret V)<|zv (env0:=[]) (st0:=(sU c d e f i U K [])) (zp [.old 0,.old 1,.dead,.old 4])<|zn ?_
    obtain rfl:=sm h
    exact ⟨_,y,zab [.old 0,.old 1,.dead,.old 3]⟩
   ·refine ze ?_
    obtain rfl:=sm h
    exact ⟨_,y,zab [.old 0,.old 1,.dead,.old 2]⟩
def zc8(e:List za)(f:T2)(i:T0)(a:zb)(j:T1)(c:T1)(d:Bool)(l:Int):Option (T1×Bool):=
  cond (l == (46:Int)) (some (c,(d||(!(a.Ret == [86]))))) (cond (l == (47:Int)) ((zH e f i a j c (d||(!(a.Ret == [73]))) ([[73]])).bind fun m=>some (m.1,m.2)) ((zjz a.Ret).bind fun n=>(zH e f i a j c (d||(!n)) [a.Ret]).bind fun b=>some (b.1,b.2)))
theorem zkZ(b:List za)(c:T2)(d:T0)(a:zb)(e:T1)(f:T1)(i:Bool)(m:Int){r:T1×Bool}(h:zc8 b c d a e f i m=some r):SC Tryz.prog 285 [.mpt 0 0 0,iA m] (tV b c d a e f i []) (.tup []) (tV b c d a e r.1 r.2 []):=by
 refine ⟨⟨t,zgu (sz:=1) (fun _=>y),zgu (sz:=1) (fun _=>y),t⟩,zP Tryz.func285 y kz y ?_⟩
 refine zj<|A ?_
 refine zeh h y (fun n h=>?_) fun n h=>?_
 ·refine A ?_
  refine u<|sx [0,1,2] (zr b c d a e f i (a.Ret == [86]) y)<|zv (env0:=[]) (st0:=(sV b c d a e f (i||(!(a.Ret == [86]))) [])) (zp [.old 0,.old 1,.old 2])<|zn ?_
  obtain rfl:=sm h
  exact ⟨_,y,zab [.old 0,.old 1,.old 2]⟩
 ·refine A ?_
  refine zeh h y (fun o h=>?_) fun o h=>?_
  ·refine A ?_
   refine u<|sx [0,1,2] (zr b c d a e f i (a.Ret == [73]) y)<|zv (env0:=[(0,.mpt 0 0 0)]) (st0:=(sV b c d a e f (i||(!(a.Ret == [73]))) [])) (zp [.old 0,.old 1,.old 2])<|zn ?_
   obtain ⟨p,q,h⟩:=bs h
   refine A ?_
   refine zv (env0:=[(42,.mpt 0 0 0),(43,.isl 1 (map zt ([[73]])))]) (st0:=(sV b c d a e f (i||(!(a.Ret == [73]))) [])) (zp [.old 0,.old 1,.old 2])<|u<|sx [0,1,2] (zG b c d a e f (i||(!(a.Ret == [73]))) ([[73]]) q)<|zv (env0:=[]) (st0:=(sV b c d a e p.1 p.2 [])) (zp [.old 0,.old 1,.old 2])<|zn ?_
   obtain rfl:=sm h
   exact ⟨_,y,zab [.old 0,.old 1,.old 2]⟩
  ·obtain ⟨j,v,h⟩:=bs h
   refine A ?_
   refine u<|sx [0,1,2] (zr b c d a e f i j y)<|zv (env0:=[(0,.mpt 0 0 0)]) (st0:=(sV b c d a e f (i||(!j)) [])) (zp [.old 0,.old 1,.old 2])<|zn ?_
   obtain ⟨l,s,h⟩:=bs h
   refine A ?_
   refine zv (env0:=[(12,.mpt 0 0 0),(18,.isl 1 (map zt [a.Ret]))]) (st0:=(sV b c d a e f (i||(!j)) [])) (zp [.old 0,.old 1,.old 2])<|u<|sx [0,1,2] (zG b c d a e f (i||(!j)) [a.Ret] s)<|zv (env0:=[]) (st0:=(sV b c d a e l.1 l.2 [])) (zp [.old 0,.old 1,.old 2])<|zn ?_
   obtain rfl:=sm h
   exact ⟨_,y,zab [.old 0,.old 1,.old 2]⟩
def zlb(a:T0):Option (T0):=
  (zg8 a).bind fun b=>(cond (!b) (some true) ((zzs [91] a).bind fun c=>(zg8 c).bind fun d=>some (!d))).bind fun e=>cond e (some []) ((zzs [91] a).bind fun f=>some f)
instance (a:T0):PF Tryz.prog 221 [sA a] (zlb a) sA:=⟨fun r h=>by
 refine zl Tryz.func221 y kz y y<|A ?_
 refine zf ?_
 obtain ⟨c,d,e,f,h⟩:=bs2 h
 refine A ?_
 refine zeh h y (fun b h=>?_) fun b h=>?_
 ·refine A ?_
  exact RT0
 ·refine ze ?_
  obtain ⟨i,j,h⟩:=bs h
  refine A ?_
  exact RT0⟩
def zdd(c:List za)(d:T2)(e:T0)(f:zb)(i:T1)(j:T1)(l:Bool):Option (T0×T1×Bool):=
  (z7 c d e f i j l).bind fun a=>(zfR a.1).bind fun b=>cond (a.1 == [78]) (some (a.1,a.2.1,(a.2.2||(!((a.1 == [78])||(b.2&&(!(b.1 == [73])))))))) (some (b.1,a.2.1,(a.2.2||(!((a.1 == [78])||(b.2&&(!(b.1 == [73]))))))))
theorem zgI(b:List za)(c:T2)(d:T0)(e:zb)(f:T1)(j:T1)(l:Bool){r:T0×T1×Bool}(h:zdd b c d e f j l=some r):SC Tryz.prog 342 [.mpt 0 0 0] (tV b c d e f j l []) (sA r.1) (tV b c d e f r.2.1 r.2.2 []):=by
 refine ⟨⟨t,zgu (sz:=1) (fun _=>y),zgu (sz:=1) (fun _=>y),t⟩,zP Tryz.func342 y kz y ?_⟩
 refine A ?_
 obtain ⟨a,n,h⟩:=bs h
 refine rg y<|u<|mv y<|u<|sx [0,1,2] (zam b c d e f j l n)<|zv (env0:=[(0,.mpt 0 0 0),(7,sA a.1)]) (st0:=(sV b c d e f a.2.1 a.2.2 [])) (zp [.old 0,.old 1,.old 2])<|A ?_
 obtain ⟨i,o,h⟩:=bs h
 refine A ?_
 refine A ?_
 refine u<|sx [0,1,2] (zr b c d e f a.2.1 a.2.2 ((a.1 == [78])||(i.2&&(!(i.1 == [73])))) y)<|zv (env0:=[(3,sA a.1),(4,sA i.1)]) (st0:=(sV b c d e f a.2.1 (a.2.2||(!((a.1 == [78])||(i.2&&(!(i.1 == [73])))))) [])) (zp [.old 0,.old 1,.old 2])<|zn ?_
 refine zf<|A ?_
 refine zeh h y (fun m h=>?_) fun m h=>?_
 ·refine A ?_
  exact RT3
 ·refine ze<|A ?_
  exact RT3
def zal(a:List za)(b:T2)(c:T0)(d:zb)(e:T1)(i:T1)(j:Bool)(l:zw):Option (T1×Bool):=
  cond (l.Op == (49:Int)) ((zH a b c d e i j ([[73]])).bind fun E=>(zE a b c d e E.1 E.2 [91,73]).bind fun F=>some (F,E.2)) (cond (l.Op == (50:Int)) ((zlb l.C).bind fun n=>(cond (!(n == [])) ((zdz a b n).bind fun G=>some G) (some false)).bind fun H=>(zH a b c d e i (j||(!H)) ([[73]])).bind fun o=>(zE a b c d e o.1 o.2 n).bind fun I=>some (I,o.2)) (cond (l.Op == (51:Int)) ((z7 a b c d e i j).bind fun f=>(zfR f.1).bind fun q=>(zE a b c d e f.2.1 (f.2.2||(!(q.2||(f.1 == [78])))) [73]).bind fun J=>some (J,(f.2.2||(!(q.2||(f.1 == [78])))))) (cond (l.Op == (52:Int)) ((zH a b c d e i j ([[91,73],[73]])).bind fun p=>(zE a b c d e p.1 p.2 [73]).bind fun K=>some (K,p.2)) (cond (l.Op == (53:Int)) ((zH a b c d e i j ([[91,73],[73],[73]])).bind fun s=>some (s.1,s.2)) (cond (l.Op == (54:Int)) ((zH a b c d e i j ([[73]])).bind fun v=>(zdd a b c d e v.1 v.2).bind fun m=>(zE a b c d e m.2.1 m.2.2 m.1).bind fun L=>some (L,m.2.2)) ((zbv a b c d e i j).bind fun x=>(zH a b c d e x.2.1 x.2.2 ([[73]])).bind fun B=>(zdd a b c d e B.1 B.2).bind fun D=>some (D.2.1,D.2.2)))))))
theorem zjd(a:List za)(b:T2)(c:T0)(d:zb)(e:T1)(i:T1)(j:Bool)(I:zw){r:T1×Bool}(h:zal a b c d e i j I=some r):SC Tryz.prog 286 [.mpt 0 0 0,.agg (zi I)] (tV a b c d e i j []) (.tup []) (tU a b c d e r.1 r.2 []):=by
 refine ⟨⟨t,zgu (sz:=1) (fun _=>y),t,zgu (sz:=1) (fun _=>y),t⟩,zP Tryz.func286 y kz y ?_⟩
 refine A ?_
 refine A ?_
 refine zj<|A ?_
 refine zeh h y (fun J h=>?_) fun J h=>?_
 ·obtain ⟨B,q2,h⟩:=bs h
  refine A ?_
  refine zv (env0:=[(0,.mpt 0 0 0),(19,.mpt 0 0 0),(20,.isl 1 (map zt ([[73]])))]) (st0:=(sV a b c d e i j [])) (zp [.old 0,.old 1,.old 2])<|u<|sx [0,1,2] (zG a b c d e i j ([[73]]) q2)<|zv (env0:=[(0,.mpt 0 0 0)]) (st0:=(sV a b c d e B.1 B.2 [])) (zp [.old 0,.old 1,.old 2])<|zn ?_
  obtain ⟨K,q3,h⟩:=bs h
  refine rl y<|u<|mv y<|u<|sx [0,1,2] (zz a b c d e B.1 B.2 [91,73] q3)<|zv (env0:=[]) (st0:=(sU a b c d e K B.2 [])) (zp [.old 0,.old 1,.dead,.old 3])<|zn ?_
  obtain rfl:=sm h
  exact ⟨_,y,zab [.old 0,.old 1,.dead,.old 3]⟩
 ·refine A ?_
  refine zeh h y (fun L h=>?_) fun L h=>?_
  ·obtain ⟨p,q5,h⟩:=bs h
   refine A ?_
   obtain ⟨q,q8,h⟩:=bs h
   refine A ?_
   refine u<|sx [0,1,2] (zr a b c d e i j q y)<|zv (env0:=[(0,.mpt 0 0 0),(4,sA p)]) (st0:=(sV a b c d e i (j||(!q)) [])) (zp [.old 0,.old 1,.old 2])<|zn ?_
   obtain ⟨n,q9,h⟩:=bs h
   refine A ?_
   refine zv (env0:=[(0,.mpt 0 0 0),(4,sA p),(41,.mpt 0 0 0),(42,.isl 1 (map zt ([[73]])))]) (st0:=(sV a b c d e i (j||(!q)) [])) (zp [.old 0,.old 1,.old 2])<|u<|sx [0,1,2] (zG a b c d e i (j||(!q)) ([[73]]) q9)<|zv (env0:=[(0,.mpt 0 0 0),(4,sA p)]) (st0:=(sV a b c d e n.1 n.2 [])) (zp [.old 0,.old 1,.old 2])<|zn ?_
   obtain ⟨M,N,h⟩:=bs h
   refine A ?_
   refine u<|sx [0,1,2] (zz a b c d e n.1 n.2 p N)<|zv (env0:=[]) (st0:=(sU a b c d e M n.2 [])) (zp [.old 0,.old 1,.dead,.old 3])<|zn ?_
   obtain rfl:=sm h
   exact ⟨_,y,zab [.old 0,.old 1,.dead,.old 3]⟩
  ·refine A ?_
   refine zeh h y (fun E h=>?_) fun E h=>?_
   ·obtain ⟨f,O,h⟩:=bs h
    refine rg y<|u<|mv y<|u<|sx [0,1,2] (zam a b c d e i j O)<|zv (env0:=[(0,.mpt 0 0 0),(50,sA f.1)]) (st0:=(sV a b c d e f.2.1 f.2.2 [])) (zp [.old 0,.old 1,.old 2])<|A ?_
    obtain ⟨s,q13,h⟩:=bs h
    refine A ?_
    refine A ?_
    refine u<|sx [0,1,2] (zr a b c d e f.2.1 f.2.2 (s.2||(f.1 == [78])) y)<|zv (env0:=[(0,.mpt 0 0 0)]) (st0:=(sV a b c d e f.2.1 (f.2.2||(!(s.2||(f.1 == [78])))) [])) (zp [.old 0,.old 1,.old 2])<|zn ?_
    obtain ⟨P,Q,h⟩:=bs h
    refine rl y<|u<|mv y<|u<|sx [0,1,2] (zz a b c d e f.2.1 (f.2.2||(!(s.2||(f.1 == [78])))) [73] Q)<|zv (env0:=[]) (st0:=(sU a b c d e P (f.2.2||(!(s.2||(f.1 == [78])))) [])) (zp [.old 0,.old 1,.dead,.old 3])<|zn ?_
    obtain rfl:=sm h
    exact ⟨_,y,zab [.old 0,.old 1,.dead,.old 3]⟩
   ·refine A ?_
    refine zeh h y (fun F h=>?_) fun F h=>?_
    ·obtain ⟨o,R,h⟩:=bs h
     refine A ?_
     refine zv (env0:=[(0,.mpt 0 0 0),(67,.mpt 0 0 0),(68,.isl 1 (map zt ([[91,73],[73]])))]) (st0:=(sV a b c d e i j [])) (zp [.old 0,.old 1,.old 2])<|u<|sx [0,1,2] (zG a b c d e i j ([[91,73],[73]]) R)<|zv (env0:=[(0,.mpt 0 0 0)]) (st0:=(sV a b c d e o.1 o.2 [])) (zp [.old 0,.old 1,.old 2])<|zn ?_
     obtain ⟨S,T,h⟩:=bs h
     refine rl y<|u<|mv y<|u<|sx [0,1,2] (zz a b c d e o.1 o.2 [73] T)<|zv (env0:=[]) (st0:=(sU a b c d e S o.2 [])) (zp [.old 0,.old 1,.dead,.old 3])<|zn ?_
     obtain rfl:=sm h
     exact ⟨_,y,zab [.old 0,.old 1,.dead,.old 3]⟩
    ·refine A ?_
     refine zeh h y (fun G h=>?_) fun G h=>?_
     ·obtain ⟨C,U,h⟩:=bs h
      refine A ?_
      refine zv (env0:=[(74,.mpt 0 0 0),(75,.isl 1 (map zt ([[91,73],[73],[73]])))]) (st0:=(sV a b c d e i j [])) (zp [.old 0,.old 1,.old 2])<|u<|sx [0,1,2] (zG a b c d e i j ([[91,73],[73],[73]]) U)<|zv (env0:=[]) (st0:=(sV a b c d e C.1 C.2 [])) (zp [.old 0,.old 1,.old 2])<|zn ?_
      obtain rfl:=sm h
      exact ⟨_,y,zab [.old 0,.old 1,.dead,.old 2]⟩
     ·refine A ?_
      refine zeh h y (fun H h=>?_) fun H h=>?_
      ·obtain ⟨v,V,h⟩:=bs h
       refine A ?_
       refine zv (env0:=[(0,.mpt 0 0 0),(79,.mpt 0 0 0),(80,.isl 1 (map zt ([[73]])))]) (st0:=(sV a b c d e i j [])) (zp [.old 0,.old 1,.old 2])<|u<|sx [0,1,2] (zG a b c d e i j ([[73]]) V)<|zv (env0:=[(0,.mpt 0 0 0)]) (st0:=(sV a b c d e v.1 v.2 [])) (zp [.old 0,.old 1,.old 2])<|zn ?_
       obtain ⟨l,W,X,Y,h⟩:=bs2 h
       refine rl y<|u<|mv y<|u<|mv y<|u<|sx [0,1,2] (zgI a b c d e v.1 v.2 W)<|zv (env0:=[(82,.mpt 0 0 0),(84,sA l.1)]) (st0:=(sV a b c d e l.2.1 l.2.2 [])) (zp [.old 0,.old 1,.old 2])<|u<|sx [0,1,2] (zz a b c d e l.2.1 l.2.2 l.1 Y)<|zv (env0:=[]) (st0:=(sU a b c d e X l.2.2 [])) (zp [.old 0,.old 1,.dead,.old 3])<|zn ?_
       obtain rfl:=sm h
       exact ⟨_,y,zab [.old 0,.old 1,.dead,.old 3]⟩
      ·obtain ⟨m,Z,h⟩:=bs h
       refine rg y<|u<|mv y<|u<|sx [0,1,2] (zc0 a b c d e i j Z)<|zv (env0:=[(0,.mpt 0 0 0)]) (st0:=(sV a b c d e m.2.1 m.2.2 [])) (zp [.old 0,.old 1,.old 2])<|zn ?_
       obtain ⟨x,q26,h⟩:=bs h
       refine A ?_
       refine zv (env0:=[(0,.mpt 0 0 0),(12,.mpt 0 0 0),(13,.isl 1 (map zt ([[73]])))]) (st0:=(sV a b c d e m.2.1 m.2.2 [])) (zp [.old 0,.old 1,.old 2])<|u<|sx [0,1,2] (zG a b c d e m.2.1 m.2.2 ([[73]]) q26)<|zv (env0:=[(0,.mpt 0 0 0)]) (st0:=(sV a b c d e x.1 x.2 [])) (zp [.old 0,.old 1,.old 2])<|zn ?_
       obtain ⟨D,q27,h⟩:=bs h
       refine rl y<|u<|mv y<|u<|sx [0,1,2] (zgI a b c d e x.1 x.2 q27)<|zv (env0:=[]) (st0:=(sV a b c d e D.2.1 D.2.2 [])) (zp [.old 0,.old 1,.old 2])<|zn ?_
       obtain rfl:=sm h
       exact ⟨_,y,zab [.old 0,.old 1,.dead,.old 2]⟩
def zaJ(b:List za)(c:T2)(e:T0)(f:zb)(i:T1)(m:T1)(j:Bool)(l:zw)(v:Bool):Option (T1×Bool):=
  cond v ((zbv b c e f i m j).bind fun a=>(zdz b c l.C).bind fun d=>cond (l.Op == (56:Int)) ((zE b c e f i a.2.1 (a.2.2||(!d)) l.C).bind fun p=>some (p,(a.2.2||(!d)))) ((zE b c e f i a.2.1 (a.2.2||(!d)) [73]).bind fun q=>some (q,(a.2.2||(!d))))) (cond (l.Op == (58:Int)) ((zH b c e f i m j ([[84,104,114,111,119,110]])).bind fun n=>some (n.1,n.2)) (cond (l.Op == (59:Int)) ((zE b c e f i m j [73]).bind fun s=>some (s,j)) ((zH b c e f i m j ([[73]])).bind fun o=>some (o.1,o.2))))
def zbk(b:List za)(c:T2)(d:T0)(e:zb)(f:T1)(i:T1)(j:Bool)(a:zw):Option (T1×Bool):=
  cond (a.Op == (56:Int)) (zaJ b c d e f i j a (a.Op == (56:Int))) (zaJ b c d e f i j a (a.Op == (57:Int)))
theorem zki(a:List za)(b:T2)(c:T0)(d:zb)(e:T1)(j:T1)(i:Bool)(l:zw){r:T1×Bool}(h:zbk a b c d e j i l=some r):SC Tryz.prog 287 [.mpt 0 0 0,.agg (zi l)] (tV a b c d e j i []) (.tup []) (tU a b c d e r.1 r.2 []):=by
 refine ⟨⟨t,zgu (sz:=1) (fun _=>y),t,zgu (sz:=1) (fun _=>y),t⟩,zP Tryz.func287 y kz y ?_⟩
 refine A ?_
 refine A ?_
 refine zj ?_
 refine zaA (X:=Bool) (fun z=>[(0,.mpt 0 0 0),(3,.mpt 3 0 0),(5,iA l.Op),(9,bA z)]) (fun z=>(sV a b c d e j i [some (4,[(zi l)])])) (fun z=>zaJ a b c d e j i l z=some r) ?_ ?_
 ·refine A ?_
  refine zeh h y (fun q h=>?_) fun q h=>?_
  ·refine ze ?_
   exact ⟨(l.Op == (56:Int)),h,zp [.old 0,.old 1,.old 2,.old 3]⟩
  ·refine A ?_
   exact (⟨(l.Op == (57:Int)),h,zp [.old 0,.old 1,.old 2,.old 3]⟩)
 ·rintro L h
  refine zeh h y (fun s h=>?_) fun s h=>?_
  ·obtain ⟨f,H,h⟩:=bs h
   refine rg y<|u<|mv y<|u<|sx [0,1,2] (zc0 a b c d e j i H)<|zv (env0:=[(0,.mpt 0 0 0),(3,.mpt 3 0 0)]) (st0:=(sV a b c d e f.2.1 f.2.2 [some (4,[(zi l)])])) (zp [.old 0,.old 1,.old 2,.old 3])<|zn ?_
   obtain ⟨m,M,h⟩:=bs h
   refine rdA [(0,_),(3,_)] (sV a b c d e f.2.1 (f.2.2||(!m)) [some (4,[(zi l)])]) [8] [0,1,2,3,4,5,6,7] [(21,_),(20,_),(19,_),(18,_),(17,_),(16,_),(15,_),(14,_)] 1 (zcC (z:=by exact ⟨(fun _ _=>⟨_,y,y,sx [0,1,2] (zr a b c d e f.2.1 f.2.2 m y)<|⟨(.tup []),[],[(22,_)],y,y,y,y,zdg (z:=zaE [.old 0,.old 1,.old 2,.old 3])⟩⟩),t⟩)) ?_
   refine A ?_
   refine zeh h y (fun v h=>?_) fun v h=>?_
   ·obtain ⟨x,I,h⟩:=bs h
    refine A ?_
    refine u<|sx [0,1,2] (zz a b c d e f.2.1 (f.2.2||(!m)) l.C I)<|zv (env0:=[]) (st0:=(sU a b c d e x (f.2.2||(!m)) [])) (zp [.old 0,.old 1,.dead,.old 4])<|zn ?_
    obtain rfl:=sm h
    exact ⟨_,y,zab [.old 0,.old 1,.dead,.old 3]⟩
   ·obtain ⟨B,J,h⟩:=bs h
    refine rl y<|u<|mv y<|u<|sx [0,1,2] (zz a b c d e f.2.1 (f.2.2||(!m)) [73] J)<|zv (env0:=[]) (st0:=(sU a b c d e B (f.2.2||(!m)) [])) (zp [.old 0,.old 1,.dead,.old 4])<|zn ?_
    obtain rfl:=sm h
    exact ⟨_,y,zab [.old 0,.old 1,.dead,.old 3]⟩
  ·refine A ?_
   refine zeh h y (fun D h=>?_) fun D h=>?_
   ·obtain ⟨n,K,h⟩:=bs h
    refine A ?_
    refine zv (env0:=[(34,.mpt 0 0 0),(35,.isl 1 (map zt ([[84,104,114,111,119,110]])))]) (st0:=(sV a b c d e j i [])) (zp [.old 0,.old 1,.old 2])<|u<|sx [0,1,2] (zG a b c d e j i ([[84,104,114,111,119,110]]) K)<|zv (env0:=[]) (st0:=(sV a b c d e n.1 n.2 [])) (zp [.old 0,.old 1,.old 2])<|zn ?_
    obtain rfl:=sm h
    exact ⟨_,y,zab [.old 0,.old 1,.dead,.old 2]⟩
   ·refine A ?_
    refine zeh h y (fun p h=>?_) fun p h=>?_
    ·obtain ⟨E,F,h⟩:=bs h
     refine rl y<|u<|mv y<|u<|sx [0,1,2] (zz a b c d e j i [73] F)<|zv (env0:=[]) (st0:=(sU a b c d e E i [])) (zp [.old 0,.old 1,.dead,.old 4])<|zn ?_
     obtain rfl:=sm h
     exact ⟨_,y,zab [.old 0,.old 1,.dead,.old 3]⟩
    ·obtain ⟨o,G,h⟩:=bs h
     refine A ?_
     refine zv (env0:=[(6,.mpt 0 0 0),(7,.isl 1 (map zt ([[73]])))]) (st0:=(sV a b c d e j i [])) (zp [.old 0,.old 1,.old 2])<|u<|sx [0,1,2] (zG a b c d e j i ([[73]]) G)<|zv (env0:=[]) (st0:=(sV a b c d e o.1 o.2 [])) (zp [.old 0,.old 1,.old 2])<|zn ?_
     obtain rfl:=sm h
     exact ⟨_,y,zab [.old 0,.old 1,.dead,.old 2]⟩
def zg(c:List za)(d:T2)(e:T0)(f:zb)(a:T1)(i:T1)(j:Bool)(b:zw):Option (T1×T1×Bool):=
  cond (zak b.Op 1 7) ((zaH c d e f a i j b).bind fun E=>some (E.1,E.2.1,E.2.2)) (cond (b.Op == (13:Int)) ((zH c d e f a i j ([[73]])).bind fun l=>(zE c d e f a l.1 l.2 [73]).bind fun F=>some (a,F,l.2)) (cond (zak b.Op 8 19) ((zH c d e f a i j ([[73],[73]])).bind fun m=>(zE c d e f a m.1 m.2 [73]).bind fun G=>some (a,G,m.2)) (cond (b.Op == (20:Int)) (some (a,i,j)) (cond (zak b.Op 21 26) ((zH c d e f a i j ([[73]])).bind fun n=>some (a,n.1,n.2)) (cond (zak b.Op 27 32) ((zH c d e f a i j ([[73],[73]])).bind fun o=>some (a,o.1,o.2)) (cond (zak b.Op 33 34) ((zbv c d e f a i j).bind fun p=>some (a,p.2.1,p.2.2)) (cond (zak b.Op 35 36) ((zbv c d e f a i j).bind fun q=>(zbv c d e f a q.2.1 q.2.2).bind fun s=>some (a,s.2.1,s.2.2)) (cond ((b.Op == (37:Int))||(zak b.Op 38 41)) ((zde c d e f a i j b).bind fun v=>some (a,v.1,v.2)) (cond (zak b.Op 42 45) ((zcw c d e f a i j b).bind fun x=>some (a,x.1,x.2)) (cond (zak b.Op 46 48) ((zc8 c d e f a i j b.Op).bind fun B=>some (a,B.1,B.2)) (cond (zak b.Op 49 55) ((zal c d e f a i j b).bind fun C=>some (a,C.1,C.2)) ((zbk c d e f a i j b).bind fun D=>some (a,D.1,D.2)))))))))))))
theorem zkY(a:List za)(b:T2)(c:T0)(d:zb)(e:T1)(f:T1)(i:Bool)(j:zw){r:T1×T1×Bool}(h:zg a b c d e f i j=some r):SC Tryz.prog 200 [.mpt 0 0 0,.agg (zi j)] (tV a b c d e f i []) (.tup []) [.one 15 (vK a b c d (.msl 3 0 (length r.1)) (.msl 4 0 (length r.2.1)) (bA r.2.2)),.no,.no,.many 1 (map zt r.1),.many 1 (map zt r.2.1)]:=by
 refine ⟨⟨t,t,t,zgu (sz:=1) (fun _=>y),zgu (sz:=1) (fun _=>y),t⟩,zP Tryz.func200 y kz y ?_⟩
 refine A ?_
 refine A ?_
 refine zj<|A ?_
 refine zeh h y (fun N h=>?_) fun N h=>?_
 ·obtain ⟨o,q2,h⟩:=bs h
  refine A ?_
  refine u<|sx [0,1,2] (zkh a b c d e f i j q2)<|zv (env0:=[]) (st0:=[some (15,[(vK a b c d (.msl 3 0 (length o.1)) (.msl 4 0 (length o.2.1)) (bA o.2.2))]),none,none,some (1,map zt o.1),some (1,map zt o.2.1)]) (zp [.old 0,.dead,.dead,.old 4,.old 5])<|zn ?_
  obtain rfl:=sm h
  exact ⟨_,y,zab [.old 0,.dead,.dead,.old 3,.old 4]⟩
 ·refine A ?_
  refine zeh h y (fun O h=>?_) fun O h=>?_
  ·obtain ⟨l,q4,h⟩:=bs h
   refine A ?_
   refine zv (env0:=[(0,.mpt 0 0 0),(19,.mpt 0 0 0),(20,.isl 1 (map zt ([[73]])))]) (st0:=(sV a b c d e f i [])) (zp [.old 0,.old 1,.old 2])<|u<|sx [0,1,2] (zG a b c d e f i ([[73]]) q4)<|zv (env0:=[(0,.mpt 0 0 0)]) (st0:=(sV a b c d e l.1 l.2 [])) (zp [.old 0,.old 1,.old 2])<|zn ?_
   obtain ⟨P,q5,h⟩:=bs h
   refine rl y<|u<|mv y<|u<|sx [0,1,2] (zz a b c d e l.1 l.2 [73] q5)<|zv (env0:=[]) (st0:=(sU a b c d e P l.2 [])) (zp [.old 0,.old 1,.dead,.old 3])<|zn ?_
   obtain rfl:=sm h
   exact ⟨_,y,zab [.old 0,.dead,.dead,.old 1,.old 3]⟩
  ·refine A ?_
   refine zeh h y (fun Q h=>?_) fun Q h=>?_
   ·obtain ⟨m,q7,h⟩:=bs h
    refine A ?_
    refine zv (env0:=[(0,.mpt 0 0 0),(27,.mpt 0 0 0),(28,.isl 1 (map zt ([[73],[73]])))]) (st0:=(sV a b c d e f i [])) (zp [.old 0,.old 1,.old 2])<|u<|sx [0,1,2] (zG a b c d e f i ([[73],[73]]) q7)<|zv (env0:=[(0,.mpt 0 0 0)]) (st0:=(sV a b c d e m.1 m.2 [])) (zp [.old 0,.old 1,.old 2])<|zn ?_
    obtain ⟨R,q8,h⟩:=bs h
    refine rl y<|u<|mv y<|u<|sx [0,1,2] (zz a b c d e m.1 m.2 [73] q8)<|zv (env0:=[]) (st0:=(sU a b c d e R m.2 [])) (zp [.old 0,.old 1,.dead,.old 3])<|zn ?_
    obtain rfl:=sm h
    exact ⟨_,y,zab [.old 0,.dead,.dead,.old 1,.old 3]⟩
   ·refine A ?_
    refine zeh h y (fun S h=>?_) fun S h=>?_
    ·refine ze ?_
     obtain rfl:=sm h
     exact ⟨_,y,zab [.old 0,.dead,.dead,.old 1,.old 2]⟩
    ·refine A ?_
     refine zeh h y (fun F h=>?_) fun F h=>?_
     ·obtain ⟨p,T,h⟩:=bs h
      refine A ?_
      refine zv (env0:=[(38,.mpt 0 0 0),(39,.isl 1 (map zt ([[73]])))]) (st0:=(sV a b c d e f i [])) (zp [.old 0,.old 1,.old 2])<|u<|sx [0,1,2] (zG a b c d e f i ([[73]]) T)<|zv (env0:=[]) (st0:=(sV a b c d e p.1 p.2 [])) (zp [.old 0,.old 1,.old 2])<|zn ?_
      obtain rfl:=sm h
      exact ⟨_,y,zab [.old 0,.dead,.dead,.old 1,.old 2]⟩
     ·refine A ?_
      refine zeh h y (fun G h=>?_) fun G h=>?_
      ·obtain ⟨q,U,h⟩:=bs h
       refine A ?_
       refine zv (env0:=[(44,.mpt 0 0 0),(45,.isl 1 (map zt ([[73],[73]])))]) (st0:=(sV a b c d e f i [])) (zp [.old 0,.old 1,.old 2])<|u<|sx [0,1,2] (zG a b c d e f i ([[73],[73]]) U)<|zv (env0:=[]) (st0:=(sV a b c d e q.1 q.2 [])) (zp [.old 0,.old 1,.old 2])<|zn ?_
       obtain rfl:=sm h
       exact ⟨_,y,zab [.old 0,.dead,.dead,.old 1,.old 2]⟩
      ·refine A ?_
       refine zeh h y (fun H h=>?_) fun H h=>?_
       ·obtain ⟨s,V,h⟩:=bs h
        refine rl y<|u<|mv y<|u<|sx [0,1,2] (zc0 a b c d e f i V)<|zv (env0:=[]) (st0:=(sV a b c d e s.2.1 s.2.2 [])) (zp [.old 0,.old 1,.old 2])<|zn ?_
        obtain rfl:=sm h
        exact ⟨_,y,zab [.old 0,.dead,.dead,.old 1,.old 2]⟩
       ·refine A ?_
        refine zeh h y (fun I h=>?_) fun I h=>?_
        ·obtain ⟨n,W,h⟩:=bs h
         refine rg y<|u<|mv y<|u<|sx [0,1,2] (zc0 a b c d e f i W)<|zv (env0:=[(0,.mpt 0 0 0)]) (st0:=(sV a b c d e n.2.1 n.2.2 [])) (zp [.old 0,.old 1,.old 2])<|zn ?_
         obtain ⟨v,X,h⟩:=bs h
         refine rl y<|u<|mv y<|u<|sx [0,1,2] (zc0 a b c d e n.2.1 n.2.2 X)<|zv (env0:=[]) (st0:=(sV a b c d e v.2.1 v.2.2 [])) (zp [.old 0,.old 1,.old 2])<|zn ?_
         obtain rfl:=sm h
         exact ⟨_,y,zab [.old 0,.dead,.dead,.old 1,.old 2]⟩
        ·refine A ?_
         refine zeh h y (fun J h=>?_) fun J h=>?_
         ·obtain ⟨x,Y,h⟩:=bs h
          refine A ?_
          refine u<|sx [0,1,2] (zjV a b c d e f i j Y)<|zv (env0:=[]) (st0:=(sU a b c d e x.1 x.2 [])) (zp [.old 0,.old 1,.dead,.old 4])<|zn ?_
          obtain rfl:=sm h
          exact ⟨_,y,zab [.old 0,.dead,.dead,.old 1,.old 3]⟩
         ·refine A ?_
          refine zeh h y (fun K h=>?_) fun K h=>?_
          ·obtain ⟨B,Z,h⟩:=bs h
           refine A ?_
           refine u<|sx [0,1,2] (zkg a b c d e f i j Z)<|zv (env0:=[]) (st0:=(sU a b c d e B.1 B.2 [])) (zp [.old 0,.old 1,.dead,.old 4])<|zn ?_
           obtain rfl:=sm h
           exact ⟨_,y,zab [.old 0,.dead,.dead,.old 1,.old 3]⟩
          ·refine A ?_
           refine zeh h y (fun L h=>?_) fun L h=>?_
           ·obtain ⟨C,q25,h⟩:=bs h
            refine rl y<|u<|mv y<|u<|mv y<|u<|sx [0,1,2] (zkZ a b c d e f i j.Op q25)<|zv (env0:=[]) (st0:=(sV a b c d e C.1 C.2 [])) (zp [.old 0,.old 1,.old 2])<|zn ?_
            obtain rfl:=sm h
            exact ⟨_,y,zab [.old 0,.dead,.dead,.old 1,.old 2]⟩
           ·refine A ?_
            refine zeh h y (fun M h=>?_) fun M h=>?_
            ·obtain ⟨D,q27,h⟩:=bs h
             refine A ?_
             refine u<|sx [0,1,2] (zjd a b c d e f i j q27)<|zv (env0:=[]) (st0:=(sU a b c d e D.1 D.2 [])) (zp [.old 0,.old 1,.dead,.old 4])<|zn ?_
             obtain rfl:=sm h
             exact ⟨_,y,zab [.old 0,.dead,.dead,.old 1,.old 3]⟩
            ·obtain ⟨E,q28,h⟩:=bs h
             refine A ?_
             refine u<|sx [0,1,2] (zki a b c d e f i j q28)<|zv (env0:=[]) (st0:=(sU a b c d e E.1 E.2 [])) (zp [.old 0,.old 1,.dead,.old 4])<|zn ?_
             obtain rfl:=sm h
             exact ⟨_,y,zab [.old 0,.dead,.dead,.old 1,.old 3]⟩
def zjc(b:T1)(c:T1)(a:Bool):Option (Bool):=
  some (!a)
def zd1(e:zb)(b:Int)(c:zw)(a:T1×T1×Bool)(d:Bool):Option (Sum (T1×T1×Bool×Bool×Int) (Sum (T1×T1×Bool) (Bool))):=
  some (.inl (a.1,a.2.1,(d||(!(decide (((length a.2.1):Int)≤e.Stack)))),(!(zh6 c.Op)),(IntKind.i64.wrap (b+1))))
def zar(i:T0)(d:zY)(e:zb)(j:T1)(m:T1)(n:Bool)(o:Bool)(a:Int):Option (Sum (T1×T1×Bool×Bool×Int) (Sum (T1×T1×Bool) (Bool))):=
  cond (decide (a<(length e.Code:Int))) ((idx e.Code a).bind fun f=>(zer d.l d.at_ i e j m n a o).bind fun b=>cond b.2.2 (some (.inr (.inr false))) ((zdf d.l d.at_ i e b.1 b.2.1 b.2.2 a).bind fun p=>(zg d.l d.at_ i e b.1 b.2.1 p f).bind fun c=>cond (zep f.Op) ((zcy d.l d.at_ i e c.1 c.2.1 c.2.2 f.A).bind fun q=>zd1 e a f c q) (zd1 e a f c c.2.2))) (some (.inr (.inl (j,m,n))))
def znU(e:T0)(f:zY)(i:zb)(a:Bool)(c:Bool)(d:T1):Option (Bool):=
  (zs (fun z=>zar e f i z.1 z.2.1 z.2.2.1 z.2.2.2.1 z.2.2.2.2) (d,[],(a||(!c)),true,0)).bind fun o=>zQ o (fun b=>zjc b.1 b.2.1 b.2.2) some
def zhA(c:zb)(a:T1):Option (Sum (T1) (Sum (T1) (Bool))):=
  cond (decide (((length a):Int)<c.Locals)) ((zfY 16 a ([[84]])).bind fun b=>some (.inl b)) (some (.inr (.inl a)))
def zeY(i:T0)(j:zY)(a:zb)(c:Bool)(d:Bool)(e:T1):Option (Bool):=
  (zfY 16 e a.Params).bind fun f=>(zs (fun z=>zhA a z) f).bind fun o=>zQ o (fun b=>znU i j a c d b) some
def zeX(e:T0)(a:zY)(b:zb)(c:Bool):Option (Bool):=
  (zgH b.Params a.l a.at_).bind fun d=>cond (!b.Static) ((zfY 16 ([]:T1) [e]).bind fun f=>zeY e a b c d f) (zeY e a b c d [])
def zhz(d:T0)(b:zY)(a:zb)(c:Bool):Option (Bool):=
  cond (a.Ret == [86]) (zeX d b a (c||(!true))) ((zbC b.l b.at_ a.Ret a.Ret).bind fun e=>zeX d b a (c||(!e)))
def zc9(b:zY)(e:zb)(c:Bool)(a:Int):Option (Sum (Bool×Int) (Sum (Bool) (Bool))):=
  cond (decide (a<(length e.Maps:Int))) ((idx e.Maps a).bind fun d=>(zhT d.Locals b.l b.at_).bind fun f=>(cond f ((zhT d.Stack b.l b.at_).bind fun i=>some i) (some false)).bind fun j=>some (.inl ((c||(!j)),(IntKind.i64.wrap (a+1))))) (some (.inr (.inl c)))
def zbE(i:Option zY)(e:T0)(a:Int):Option (Bool):=
  zzK i (none) (fun c=>(zao c.l c.at_ e).bind fun d=>(cond (((!d.2)||(decide (a<0)))||(decide ((length d.1.Methods:Int)≤a))) (some true) ((idx d.1.Methods a).bind fun j=>some j.Abstract)).bind fun m=>cond m (some false) ((idx d.1.Methods a).bind fun f=>(zs (fun z=>zc9 c f z.1 z.2) (false,0)).bind fun o=>zQ o (fun b=>zhz e c f b) some))
theorem zcf(M:Option zY)(d:T0)(T:Int){r:Bool}(h:zbE M d T=some r):zaF Tryz.prog 118 [zjI 2 zdJ M,sA d,iA T] (bA r):=by
 refine zl Tryz.func118 y kz y y ?_
 unfold zbE at h
 rcases M with _ |a
 ·replace h:=oeN h
  cases h
 ·replace h:=oeS h
  refine A ?_
  obtain ⟨v5,q1,h⟩:=bs h
  refine rg y<|u<|ld ti y y<|u<|mv y<|u<|pc (zhj a.l a.at_ d q1) y y y<|u<|mv y<|u<|ex y y<|u<|ex y y<|u<|al 1 ti y<|u<|sto ti y y y<|u<|asg y<|zn ?_
  refine zf ?_
  obtain ⟨v7,q6,h⟩:=bs h
  refine A ?_
  refine zeh h y (fun U h=>?_) fun U h=>?_
  ·refine A ?_
   exact RT0
  ·refine ze ?_
   obtain ⟨c,q8,h⟩:=bs h
   refine rdA [(1,sA d),(3,.mpt 0 0 0),(9,.mpt 1 0 0)] [some (1,[[.ipt 2 [[.isl 6 (map zc a.l),.imp (map (rKV (fun x=>iA x)) a.at_)]] 0 0]]),some (15,[(vK a.l a.at_ d c (.lit (.slice none 0 0)) (.lit (.slice none 0 0)) (bA false))])] [8] [0,1,2,3,4,5,6,7] [(50,_),(49,_),(48,_),(47,_),(46,_),(45,_),(44,_),(43,_)] 1 (zcC (z:=by exact ⟨(fun _ _=>⟨_,y,y,bx 2 15 y y y y<|⟨(.mpt 2 0 0),[9],[(9,_),(51,_)],y,y,y,y,zdg (z:=zaE [.old 0,.old 2])⟩⟩),t⟩)) ?_
   refine zf<|A ?_
   obtain ⟨o,ho,h⟩:=bs h
   refine lpB ho (fun z=>[(1,sA d),(3,.mpt 0 0 0),(9,.mpt 1 0 0),(56,.isl 3 (map zx c.Maps)),(57,iA (length c.Maps:Int)),(58,iA z.2)]) (fun z=>[some (1,[[.ipt 2 [[.isl 6 (map zc a.l),.imp (map (rKV (fun x=>iA x)) a.at_)]] 0 0]]),some (15,[(vK a.l a.at_ d c (.msl 2 0 0) (.msl 3 0 0) (bA z.1))]),some (1,map zt []),some (1,map zt [])]) (fun b=>[(1,sA d),(3,.mpt 0 0 0),(9,.mpt 1 0 0)]) (fun b=>[some (1,[[.ipt 2 [[.isl 6 (map zc a.l),.imp (map (rKV (fun x=>iA x)) a.at_)]] 0 0]]),some (15,[(vK a.l a.at_ d c (.msl 2 0 0) (.msl 3 0 0) (bA b))]),some (1,map zt []),some (1,map zt [])]) (pG Tryz.f118 bA) ⟨[.old 0,.old 1,.fresh 1,.fresh 1],ce y y<|cv y (.mpt y)<|cv y (.mpt y)<|ce y y<|ce y y<|ce y y<|cn,y,⟨⟨_,y,zaz ⟨ci y,t⟩⟩,⟨_,y,zaz (zvV y (by exact ⟨.nilown y,.nilown y,ci y,t⟩))⟩,w,w,t⟩,y,k⟩ ?_ ?_
   ·rintro ⟨G,V⟩ r h
    refine A ?_
    refine zf ?_
    refine zeh h y (fun N h=>?_) fun N h=>?_
    ·refine ze<|zf<|zj ?_
     obtain ⟨H,q16,h⟩:=bs h
     refine A ?_
     refine A ?_
     obtain ⟨v18,W,E,B,h⟩:=bs2 h
     refine A ?_
     refine u<|pcs (zjT H.Locals a.l a.at_ W) y y (.cons (si y) (.cons (zgP t ⟨(zbO y ⟨(si y),t⟩),t⟩) .nil)) zbF<|u<|mv y<|zhw (x:=E) (j:=5) 4 y y y y y gpn (fun v=>by replace B:=bT v B;obtain ⟨v19,Y,B⟩:=bs B;obtain rfl:=sm B;exact g y v<|fa ti y y y<|g y v<|ld ti y y<|g y v<|mv y<|g y v<|pcs (zjT H.Stack a.l a.at_ Y) y y (.cons (si y) (.cons (zgP t ⟨(zbO y ⟨(si y),t⟩),t⟩) .nil)) zbF<|zn (eg [69,70,71,72] 4 y y y y)) (fun hb=>(sm (bF hb B)).symm)<|u<|sx [1,2,3] (zr a.l a.at_ d c [] [] G E y)<|zv (env0:=[(1,sA d),(3,.mpt 0 0 0),(9,.mpt 1 0 0),(56,.isl 3 (map zx c.Maps)),(57,iA (length c.Maps:Int)),(58,iA V)]) (st0:=[some (1,[[.ipt 2 [[.isl 6 (map zc a.l),.imp (map (rKV (fun x=>iA x)) a.at_)]] 0 0]]),some (15,[(vK a.l a.at_ d c (.msl 2 0 0) (.msl 3 0 0) (bA (G||(!E))))]),some (1,map zt []),some (1,map zt [])]) (zp [.old 0,.old 1,.old 2,.old 3])<|zn ?_
     refine A ?_
     obtain rfl:=sm h
     exact ⟨_,y,zp [.old 0,.old 1,.old 2,.old 3]⟩
    ·refine zy ?_
     obtain rfl:=sm h
     exact ⟨y,_,y,zp [.old 0,.old 1,.old 2,.old 3]⟩
   ·rintro D rfl
    refine zu ?_
    refine zaA (X:=Bool) (fun z=>[(1,sA d),(3,.mpt 0 0 0),(9,.mpt 1 0 0)]) (fun z=>[some (1,[[.ipt 2 [[.isl 6 (map zc a.l),.imp (map (rKV (fun x=>iA x)) a.at_)]] 0 0]]),some (15,[(vK a.l a.at_ d c (.msl 2 0 0) (.msl 3 0 0) (bA z))]),some (1,map zt []),some (1,map zt [])]) (fun z=>zeX d a c z=some r) ?_ ?_
    ·rcases bb (c.Ret == [86]) with e |e
     ·replace h:=bT e h
      exact rdQ [21] [0,1,2,3,4,5,6,7,8,9,10,11,12,13,14,15,16,17,18,19,20] [(96,_),(95,_),(94,_),(93,_),(92,_),(91,_),(90,_),(89,_),(88,_),(87,_),(86,_),(85,_),(84,_),(83,_),(82,_),(81,_),(80,_),(79,_),(78,_),(77,_),(76,_)] 1 (zcC (z:=by exact ⟨(fun _ _=>⟨_,y,y,sc [1,2,3] (args:=[.mpt 1 0 0,bA true]) (zr a.l a.at_ d c [] [] D true y) y y y y ⟨(.mpt y),(rnI y),t⟩ ⟨⟨_,y,(zvw y ⟨(.msl y),(.msl y),(rnI y),t⟩)⟩,⟨y,mkI (fun _=>y)⟩,⟨y,mkI (fun _=>y)⟩,t⟩<|⟨(.tup []),[],[(97,_)],y,y,y,y,zdg (z:=by exact ⟨(D||(!true)),h,zaE [.old 0,.old 1,.old 2,.old 3]⟩)⟩⟩),t⟩))
     ·replace h:=bF e h
      obtain ⟨C,Z,h⟩:=bs h
      exact zdy [21] [20,19,18,17,16,15,14,13,12,11,10,9,8,7,6,5,4,3,2,1,0] [(96,bA C),(95,bA C),(94,sA c.Ret),(93,.mpt 1 0 4),(92,.mpt 1 0 2),(91,.mpt 1 0 0),(90,.mpt 1 0 0),(89,sA c.Ret),(88,.mpt 1 0 4),(87,.mpt 1 0 2),(86,.mpt 1 0 0),(85,.mpt 1 0 0),(84,.ipt 2 [[.isl 6 (map zc a.l),.imp (map (rKV (fun x=>iA x)) a.at_)]] 0 0),(83,bA (c.Ret == [86])),(82,bA (c.Ret == [86])),(81,sA c.Ret),(80,.mpt 1 0 4),(79,.mpt 1 0 2),(78,.mpt 1 0 0),(77,.mpt 1 0 0),(76,.mpt 1 0 0)] 1 kz kz y kz (zvv ⟨pe,(fun _=>pag (b:=(c.Ret == [86])) y y y y e y (pc (zck a.l a.at_ c.Ret c.Ret Z) y y y<|w)),(fun _=>pag (b:=(c.Ret == [86])) y y y y e y (ld ti y y<|w)),(fun _=>pag (b:=(c.Ret == [86])) y y y y e y (fa ti y y y<|w)),(fun _=>pag (b:=(c.Ret == [86])) y y y y e y (fa ti y y y<|w)),pe,pe,(fun _=>pag (b:=(c.Ret == [86])) y y y y e y (ld ti y y<|w)),(fun _=>pag (b:=(c.Ret == [86])) y y y y e y (fa ti y y y<|w)),(fun _=>pag (b:=(c.Ret == [86])) y y y y e y (fa ti y y y<|w)),pe,pe,(fun _=>pag (b:=(c.Ret == [86])) y y y y e y (ld ti y y<|w)),pe,(pb y (seq ti y y w)),(pb y (ld ti y y w)),(pb y (fa ti y y y w)),(pb y (fa ti y y y w)),pe,pe,pe,t⟩ ⟨(fun _ _=>⟨_,y,y,sc [1,2,3] (args:=[.mpt 1 0 0,bA C]) (zr a.l a.at_ d c [] [] D C y) y y y y ⟨(.mpt y),(rnI y),t⟩ ⟨⟨_,y,(zvw y ⟨(.msl y),(.msl y),(rnI y),t⟩)⟩,⟨y,mkI (fun _=>y)⟩,⟨y,mkI (fun _=>y)⟩,t⟩<|⟨(.tup []),[],[(97,.tup [])],y,y,kz,y,zuJ ⟨pe,pe,(fun _=>pag (b:=(c.Ret == [86])) y y y y e y (ld ti y y<|w)),(fun _=>pag (b:=(c.Ret == [86])) y y y y e y (fa ti y y y<|w)),(fun _=>pag (b:=(c.Ret == [86])) y y y y e y (fa ti y y y<|w)),pe,pe,(fun _=>pag (b:=(c.Ret == [86])) y y y y e y (ld ti y y<|w)),(fun _=>pag (b:=(c.Ret == [86])) y y y y e y (fa ti y y y<|w)),(fun _=>pag (b:=(c.Ret == [86])) y y y y e y (fa ti y y y<|w)),pe,pe,(fun _=>pag (b:=(c.Ret == [86])) y y y y e y (ld ti y y<|w)),pe,(pb y (seq ti y y w)),(pb y (ld ti y y w)),(pb y (fa ti y y y w)),(pb y (fa ti y y y w)),pe,pe,pe,t⟩ ⟨(D||(!C)),h,zp [.old 0,.old 1,.old 2,.old 3]⟩⟩⟩),t⟩)
    ·rintro p h
     obtain ⟨q,q23,h⟩:=bs h
     refine A ?_
     refine u<|pcs (zj7 c.Params a.l a.at_ q23) y y (.cons (si y) (.cons (zgP t ⟨(zbO y ⟨(si y),t⟩),t⟩) .nil)) zbF<|u<|sx [1,2,3] (zr a.l a.at_ d c [] [] p q y)<|zv (env0:=[(1,sA d),(9,.mpt 0 0 0)]) (st0:=[some (15,[(vK a.l a.at_ d c (.msl 1 0 0) (.msl 2 0 0) (bA (p||(!q))))]),some (1,map zt []),some (1,map zt [])]) (zp [.old 1,.old 2,.old 3])<|zn ?_
     refine zaA (X:=T1) (fun z=>[(9,.mpt 0 0 0)]) (fun z=>[some (15,[(vK a.l a.at_ d c (.msl 1 0 (length z)) (.msl 2 0 0) (bA (p||(!q))))]),some (1,map zt z),some (1,map zt [])]) (fun z=>zeY d a c p q z=some r) ?_ ?_
     ·refine A ?_
      refine zeh h y (fun O h=>?_) fun O h=>?_
      ·obtain ⟨v25,q25,h⟩:=bs h
       refine A ?_
       refine u<|apM 4 ti y ti y y (by decide) ti y y y y (roX (f:=zt) (z:=[d]) y y) (fun _=>y) y q25<|A ?_
       exact (⟨v25,h,zp [.old 0,.old 4,.old 2]⟩)
      ·refine ze ?_
       exact ⟨[],h,zp [.old 0,.old 1,.old 2]⟩
     ·rintro v26 h
      obtain ⟨F,q26,h⟩:=bs h
      refine rdA [(9,_)] [some (15,[(vK a.l a.at_ d c (.msl 1 0 (length F)) (.msl 2 0 0) (bA (p||(!q))))]),some (1,map zt F),some (1,map zt [])] [10,13] [0,1,2,3,4,5,6,7,8,9] [(132,_),(131,_),(130,_),(129,_),(128,_),(127,_),(126,_),(125,_),(124,_),(123,_)] 2 (zcC (z:=by exact ⟨(fun _ _=>⟨_,y,y,apM 3 ti y ti y y (by decide) ti y y y y roI (fun _=>y) y q26<|⟨(.msl 3 0 (length F)),[11,12],[(135,_),(134,_),(133,_)],y,y,y,y,zcC (z:=by exact ⟨nv,(fun _ _=>⟨_,y,y,sto ti y y y<|⟨.any,[],[],y,y,y,t,zdg (z:=zaE [.old 0,.old 3,.old 2])⟩⟩),t⟩)⟩⟩),nw,t⟩)) ?_
      obtain ⟨o,ho,h⟩:=bs h
      refine lpA ho (fun z=>[(9,.mpt 0 0 0)]) (fun z=>[some (15,[(vK a.l a.at_ d c (.msl 1 0 (length z)) (.msl 2 0 0) (bA (p||(!q))))]),some (1,map zt z),some (1,map zt [])]) (fun b=>[(9,.mpt 0 0 0)]) (fun b=>[some (15,[(vK a.l a.at_ d c (.msl 1 0 (length b)) (.msl 2 0 0) (bA (p||(!q))))]),some (1,map zt b),some (1,map zt [])]) (pG Tryz.f118 bA) (zaE [.old 0,.old 1,.old 2]) ?_ ?_
      ·rintro I r h
       refine zf ?_
       refine rdA [(9,_),(146,_)] [some (15,[(vK a.l a.at_ d c (.msl 1 0 (length I)) (.msl 2 0 0) (bA (p||(!q))))]),some (1,map zt I),some (1,map zt [])] [] [0,1,2,3,4,5,6,7,8,9,10] [(146,_),(145,_),(144,_),(143,_),(142,_),(141,_),(140,_),(139,_),(138,_),(137,_),(136,_)] 0 (zdg (z:=zaE [.old 0,.old 1,.old 2])) ?_
       refine zeh h y (fun P h=>?_) fun P h=>?_
       ·refine ze<|zj ?_
        obtain ⟨v31,q30,h⟩:=bs h
        refine A ?_
        refine u<|apM 4 ti y ti y y (by decide) ti y y y y (roX (f:=zt) (z:=[[84]]) y y) (fun _=>y) y q30<|A ?_
        obtain rfl:=sm h
        exact ⟨_,y,zp [.old 0,.old 4,.old 2]⟩
       ·refine zy ?_
        obtain rfl:=sm h
        exact ⟨y,_,y,zp [.old 0,.old 1,.old 2]⟩
      ·rintro v32 rfl
       refine A ?_
       refine zf<|A ?_
       obtain ⟨o,ho,h⟩:=bs h
       refine lpB ho (fun z=>[(9,.mpt 0 0 0),(13,bA z.2.2.2.1),(160,.isl 4 (map zi c.Code)),(161,iA (length c.Code:Int)),(162,iA z.2.2.2.2)]) (fun z=>(sV a.l a.at_ d c z.1 z.2.1 z.2.2.1 [])) (fun b=>[(9,.mpt 0 0 0)]) (fun b=>(sV a.l a.at_ d c b.1 b.2.1 b.2.2 [])) (pG Tryz.f118 bA) (zaE [.old 0,.old 1,.old 2]) ?_ ?_
       ·rintro ⟨v44,v45,v46,v47,s⟩ r h
        refine A ?_
        refine zf ?_
        refine zeh h y (fun Q h=>?_) fun Q h=>?_
        ·refine ze<|zf<|zj ?_
         obtain ⟨n,q40,h⟩:=bs h
         refine A ?_
         obtain ⟨m,q41,h⟩:=bs h
         refine A ?_
         refine u<|sx [0,1,2] (zjU a.l a.at_ d c v44 v45 v46 s v47 q41)<|zv (env0:=[(9,.mpt 0 0 0),(14,iA s),(15,.mpt 3 0 0),(160,.isl 4 (map zi c.Code)),(161,iA (length c.Code:Int)),(162,iA s)]) (st0:=(sV a.l a.at_ d c m.1 m.2.1 m.2.2 [some (4,[(zi n)])])) (zp [.old 0,.old 4,.old 5,.old 3])<|zn ?_
         refine zf<|A ?_
         refine zeh h y (fun R h=>?_) fun R h=>?_
         ·refine A ?_
          refine zD ?_
          obtain rfl:=sm h
          exact ⟨_,y,_,y,zab []⟩
         ·refine ze ?_
          obtain ⟨J,q43,h⟩:=bs h
          refine rg y<|u<|mv y<|u<|mv y<|u<|sx [0,1,2] (zjX a.l a.at_ d c m.1 m.2.1 m.2.2 s q43)<|zv (env0:=[(9,.mpt 0 0 0),(15,.mpt 3 0 0),(160,.isl 4 (map zi c.Code)),(161,iA (length c.Code:Int)),(162,iA s)]) (st0:=(sV a.l a.at_ d c m.1 m.2.1 J [some (4,[(zi n)])])) (zp [.old 0,.old 1,.old 2,.old 3])<|zn ?_
          obtain ⟨i,q44,h⟩:=bs h
          refine A ?_
          refine u<|sx [0,1,2] (zkY a.l a.at_ d c m.1 m.2.1 J n q44)<|zv (env0:=[(9,.mpt 0 0 0),(15,.mpt 3 0 0),(160,.isl 4 (map zi c.Code)),(161,iA (length c.Code:Int)),(162,iA s)]) (st0:=(sV a.l a.at_ d c i.1 i.2.1 i.2.2 [some (4,[(zi n)])])) (zp [.old 0,.old 4,.old 5,.old 3])<|zn ?_
          refine zaA (X:=Bool) (fun z=>[(9,.mpt 0 0 0),(15,.mpt 3 0 0),(160,.isl 4 (map zi c.Code)),(161,iA (length c.Code:Int)),(162,iA s)]) (fun z=>(sV a.l a.at_ d c i.1 i.2.1 z [some (4,[(zi n)])])) (fun z=>zd1 c s n i z=some r) ?_ ?_
          ·refine A ?_
           refine zeh h y (fun S h=>?_) fun S h=>?_
           ·obtain ⟨K,q46,h⟩:=bs h
            refine ziy [(9,_),(15,_),(160,_),(161,_),(162,_)] (sV a.l a.at_ d c i.1 i.2.1 K [some (4,[(zi n)])]) [7] [0,1,2,3,4,5,6] [(190,_),(189,_),(188,_),(187,_),(186,_),(185,_),(184,_)] 1 (zcC (z:=by exact ⟨(fun _ _=>⟨_,y,y,sx [0,1,2] (zgQ a.l a.at_ d c i.1 i.2.1 i.2.2 n.A q46)<|⟨(.tup []),[],[(191,_)],y,y,y,y,zdg (z:=zaE [.old 0,.old 1,.old 2,.old 3])⟩⟩),t⟩)) ?_
            exact ⟨K,h,zp [.old 0,.old 1,.old 2,.old 3]⟩
           ·refine ze ?_
            exact ⟨i.2.2,h,zp [.old 0,.old 1,.old 2,.old 3]⟩
          ·rintro L h
           refine rdA [(9,_),(15,_),(160,_),(161,_),(162,_)] (sV a.l a.at_ d c i.1 i.2.1 (L||(!(decide (((length i.2.1):Int)≤c.Stack)))) [some (4,[(zi n)])]) [12] [0,1,2,3,4,5,6,7,8,9,10,11] [(203,_),(202,_),(201,_),(200,_),(199,_),(198,_),(197,_),(196,_),(195,_),(194,_),(193,_),(192,_)] 1 (zcC (z:=by exact ⟨(fun _ _=>⟨_,y,y,sx [0,1,2] (zr a.l a.at_ d c i.1 i.2.1 L (decide (((length i.2.1):Int)≤c.Stack)) y)<|⟨(.tup []),[],[(204,_)],y,y,y,y,zdg (z:=zaE [.old 0,.old 1,.old 2,.old 3])⟩⟩),t⟩)) ?_
           refine A ?_
           refine A ?_
           obtain rfl:=sm h
           exact ⟨_,y,zp [.old 0,.old 1,.old 2]⟩
        ·refine zy ?_
         obtain rfl:=sm h
         exact ⟨y,_,y,zp [.old 0,.old 1,.old 2]⟩
       ·rintro ⟨v55,v56,v57⟩ rfl
        refine zu<|A ?_
        exact RT0
instance (a:Option zY)(b:T0)(c:Int):PF Tryz.prog 118 [zjI 2 zdJ a,sA b,iA c] (zbE a b c) bA:=⟨fun _=>zcf a b c⟩
def zld:Bool:=
  true
theorem zmv{r:Bool}(h:zld=r):zaF Tryz.prog 117 [] (bA r):=by
 refine zl Tryz.func117 y kz y y ?_
 unfold zld at h
 refine A ?_
 refine rg y<|u<|pc (zqk y) y y y<|u<|asg y<|zn ?_
 refine zD ?_
 obtain rfl:=h
 exact ⟨_,y,zab []⟩
instance:PF Tryz.prog 117 [] (some (zld)) bA:=.of fun _=>zmv 
def zjC:Option (Bool):=
  (zjs ([(za.mk [70,97,99,101] [79,98,106,101,99,116] true [] [] ([(zb.mk [102] [] [73] false true 0 0 [] [] [])])),(za.mk [65,97] [79,98,106,101,99,116] false ([[70,97,99,101]]) ([(zq.mk [120] [73] false),(zq.mk [115] [73] true)]) ([(zb.mk [102] [] [73] false false 1 1 ([(zw.mk 1 5 [] []),(zw.mk 47 0 [] [])]) [] [])])),(za.mk [66,98] [65,97] false [] ([(zq.mk [121] [91,65,97] false)]) ([(zb.mk [109,97,105,110] [] [86] true false 0 0 ([(zw.mk 46 0 [] [])]) [] [])]))])).bind fun a=>(zjs ([(za.mk [70,97,99,101] [79,98,106,101,99,116] true [] [] ([(zb.mk [102] [] [73] false true 0 0 [] [] [])])),(za.mk [65,97] [79,98,106,101,99,116] false ([[70,97,99,101]]) ([(zq.mk [120] [73] false),(zq.mk [115] [73] true)]) ([(zb.mk [102] [] [73] false false 1 1 ([(zw.mk 2 0 [] []),(zw.mk 47 0 [] [])]) [] [])])),(za.mk [66,98] [65,97] false [] ([(zq.mk [121] [91,65,97] false)]) ([(zb.mk [109,97,105,110] [] [86] true false 0 0 ([(zw.mk 46 0 [] [])]) [] [])]))])).bind fun b=>cond ((!(a.2 == (0:Int)))||(!(b.2 == (0:Int)))) (some false) ((cond (zld) ((zbE a.1 [65,97] 0).bind fun j=>some j) (some false)).bind fun l=>(cond l ((zbE a.1 [66,98] 0).bind fun m=>some m) (some false)).bind fun n=>(cond n ((zbE b.1 [65,97] 0).bind fun o=>some (!o)) (some false)).bind fun p=>(cond p ((zbE a.1 [70,97,99,101] 0).bind fun q=>some (!q)) (some false)).bind fun c=>(cond c ((zbE a.1 [65,97] 1).bind fun d=>some (!d)) (some false)).bind fun e=>(cond e ((zbE a.1 [90,122] 0).bind fun f=>some (!f)) (some false)).bind fun i=>some i)
theorem zlC{r:Bool}(h:zjC=some r):zaF Tryz.prog 34 [] (bA r):=by
 refine zl Tryz.func34 y kz y y<|A ?_
 obtain ⟨f,H,h⟩:=bs h
 refine rg y<|u<|sx [] (zoD y)<|zv (env0:=[(7,.msl 0 0 3)]) (st0:=[some (6,[[sA [70,97,99,101],sA [79,98,106,101,99,116],bA true,.lit (.slice none 0 0),.lit (.slice none 0 0),.msl 1 0 1],[sA [65,97],sA [79,98,106,101,99,116],bA false,.msl 2 0 1,.msl 3 0 2,.msl 4 0 1],[sA [66,98],sA [65,97],bA false,.lit (.slice none 0 0),.msl 6 0 1,.msl 7 0 1]]),some (10,[[sA [102],.lit (.slice none 0 0),sA [73],bA false,bA true,iA 0,iA 0,.lit (.slice none 0 0),.lit (.slice none 0 0),.lit (.slice none 0 0)]]),some (1,[[sA [70,97,99,101]]]),some (3,[[sA [120],sA [73],bA false],[sA [115],sA [73],bA true]]),some (10,[[sA [102],.lit (.slice none 0 0),sA [73],bA false,bA false,iA 1,iA 1,.msl 5 0 2,.lit (.slice none 0 0),.lit (.slice none 0 0)]]),some (4,[[iA 1,iA 5,sA [],sA []],[iA 47,iA 0,sA [],sA []]]),some (3,[[sA [121],sA [91,65,97],bA false]]),some (10,[[sA [109,97,105,110],.lit (.slice none 0 0),sA [86],bA true,bA false,iA 0,iA 0,.msl 8 0 1,.lit (.slice none 0 0),.lit (.slice none 0 0)]]),some (4,[[iA 46,iA 0,sA [],sA []]])]) (zp [.old 0,.old 1,.old 2,.old 3,.old 4,.old 5,.old 6,.old 7,.old 8])<|zv (env0:=[(7,.isl 6 (map zc ([(za.mk [70,97,99,101] [79,98,106,101,99,116] true [] [] ([(zb.mk [102] [] [73] false true 0 0 [] [] [])])),(za.mk [65,97] [79,98,106,101,99,116] false ([[70,97,99,101]]) ([(zq.mk [120] [73] false),(zq.mk [115] [73] true)]) ([(zb.mk [102] [] [73] false false 1 1 ([(zw.mk 1 5 [] []),(zw.mk 47 0 [] [])]) [] [])])),(za.mk [66,98] [65,97] false [] ([(zq.mk [121] [91,65,97] false)]) ([(zb.mk [109,97,105,110] [] [86] true false 0 0 ([(zw.mk 46 0 [] [])]) [] [])]))])))]) (st0:=[]) (zp [])<|u<|pc (zlR ([(za.mk [70,97,99,101] [79,98,106,101,99,116] true [] [] ([(zb.mk [102] [] [73] false true 0 0 [] [] [])])),(za.mk [65,97] [79,98,106,101,99,116] false ([[70,97,99,101]]) ([(zq.mk [120] [73] false),(zq.mk [115] [73] true)]) ([(zb.mk [102] [] [73] false false 1 1 ([(zw.mk 1 5 [] []),(zw.mk 47 0 [] [])]) [] [])])),(za.mk [66,98] [65,97] false [] ([(zq.mk [121] [91,65,97] false)]) ([(zb.mk [109,97,105,110] [] [86] true false 0 0 ([(zw.mk 46 0 [] [])]) [] [])]))]) H) y y y<|A ?_
 refine rg y<|u<|sx [] (zoD y)<|zv (env0:=[(1,zjI 2 zdJ f.1),(2,iA f.2),(11,.msl 0 0 3)]) (st0:=[some (6,[[sA [70,97,99,101],sA [79,98,106,101,99,116],bA true,.lit (.slice none 0 0),.lit (.slice none 0 0),.msl 1 0 1],[sA [65,97],sA [79,98,106,101,99,116],bA false,.msl 2 0 1,.msl 3 0 2,.msl 4 0 1],[sA [66,98],sA [65,97],bA false,.lit (.slice none 0 0),.msl 6 0 1,.msl 7 0 1]]),some (10,[[sA [102],.lit (.slice none 0 0),sA [73],bA false,bA true,iA 0,iA 0,.lit (.slice none 0 0),.lit (.slice none 0 0),.lit (.slice none 0 0)]]),some (1,[[sA [70,97,99,101]]]),some (3,[[sA [120],sA [73],bA false],[sA [115],sA [73],bA true]]),some (10,[[sA [102],.lit (.slice none 0 0),sA [73],bA false,bA false,iA 1,iA 1,.msl 5 0 2,.lit (.slice none 0 0),.lit (.slice none 0 0)]]),some (4,[[iA 1,iA 5,sA [],sA []],[iA 47,iA 0,sA [],sA []]]),some (3,[[sA [121],sA [91,65,97],bA false]]),some (10,[[sA [109,97,105,110],.lit (.slice none 0 0),sA [86],bA true,bA false,iA 0,iA 0,.msl 8 0 1,.lit (.slice none 0 0),.lit (.slice none 0 0)]]),some (4,[[iA 46,iA 0,sA [],sA []]])]) (zp [.old 0,.old 1,.old 2,.old 3,.old 4,.old 5,.old 6,.old 7,.old 8])<|A ?_
 refine rg y<|u<|mv y<|u<|ixX ti y ti y y y<|A ?_
 refine u<|ixX ti y ti y y y<|A ?_
 refine u<|ixX ti y ti y y y<|A ?_
 obtain ⟨I,J,h⟩:=bs h
 refine rg y<|u<|mv y<|zv (env0:=[(1,zjI 2 zdJ f.1),(2,iA f.2),(22,.isl 6 (map zc ([(za.mk [70,97,99,101] [79,98,106,101,99,116] true [] [] ([(zb.mk [102] [] [73] false true 0 0 [] [] [])])),(za.mk [65,97] [79,98,106,101,99,116] false ([[70,97,99,101]]) ([(zq.mk [120] [73] false),(zq.mk [115] [73] true)]) ([(zb.mk [102] [] [73] false false 1 1 ([(zw.mk 2 0 [] []),(zw.mk 47 0 [] [])]) [] [])])),(za.mk [66,98] [65,97] false [] ([(zq.mk [121] [91,65,97] false)]) ([(zb.mk [109,97,105,110] [] [86] true false 0 0 ([(zw.mk 46 0 [] [])]) [] [])]))])))]) (st0:=[]) (zp [])<|u<|pc (zlR ([(za.mk [70,97,99,101] [79,98,106,101,99,116] true [] [] ([(zb.mk [102] [] [73] false true 0 0 [] [] [])])),(za.mk [65,97] [79,98,106,101,99,116] false ([[70,97,99,101]]) ([(zq.mk [120] [73] false),(zq.mk [115] [73] true)]) ([(zb.mk [102] [] [73] false false 1 1 ([(zw.mk 2 0 [] []),(zw.mk 47 0 [] [])]) [] [])])),(za.mk [66,98] [65,97] false [] ([(zq.mk [121] [91,65,97] false)]) ([(zb.mk [109,97,105,110] [] [86] true false 0 0 ([(zw.mk 46 0 [] [])]) [] [])]))]) J) y y y<|A ?_
 refine zf<|A ?_
 refine zeh h y (fun s h=>?_) fun s h=>?_
 ·refine A ?_
  exact RT0
 ·refine ze ?_
  obtain ⟨K,o,L,a,M,b,v,c,h⟩:=bs4 h
  obtain ⟨B,d,C,e,h⟩:=bs2 h
  refine rg y<|u<|pc (zmv y) y y y<|u<|mv y<|zhw (x:=K) (j:=1) 2 y y y y y gpn (fun p=>by replace o:=bT p o;obtain ⟨R,N,o⟩:=bs o;obtain rfl:=sm o;exact g y p<|mv y<|g y p<|pc (zcf f.1 [65,97] 0 N) y y (zxY (zq2 (fun _=>y)) (y))<|zn (eg [34,35] 2 y y y y)) (fun hb=>(sm (bF hb o)).symm)<|u<|mv y<|zhw (x:=L) (j:=5) 2 y y y y y gpn (fun q=>by replace a:=bT q a;obtain ⟨S,O,a⟩:=bs a;obtain rfl:=sm a;exact g y q<|mv y<|g y q<|pc (zcf f.1 [66,98] 0 O) y y (zxY (zq2 (fun _=>y)) (y))<|zn (eg [38,39] 2 y y y y)) (fun hb=>(sm (bF hb a)).symm)<|u<|mv y<|zhw (x:=M) (j:=9) 3 y y y y y gpn (fun i=>by replace b:=bT i b;obtain ⟨T,D,b⟩:=bs b;obtain rfl:=sm b;exact g y i<|mv y<|g y i<|pc (zcf I.1 [65,97] 0 D) y y (zxY (zq2 (fun _=>y)) (y))<|g y i<|nt y<|zn (eg [42,43,44] 3 y y y y)) (fun hb=>(sm (bF hb b)).symm)<|u<|mv y<|zhw (x:=v) (j:=14) 3 y y y y y gpn (fun l=>by replace c:=bT l c;obtain ⟨U,E,c⟩:=bs c;obtain rfl:=sm c;exact g y l<|mv y<|g y l<|pc (zcf f.1 [70,97,99,101] 0 E) y y (zxY (zq2 (fun _=>y)) (y))<|g y l<|nt y<|zn (eg [47,48,49] 3 y y y y)) (fun hb=>(sm (bF hb c)).symm)<|u<|mv y<|zhw (x:=B) (j:=19) 3 y y y y y gpn (fun m=>by replace d:=bT m d;obtain ⟨P,F,d⟩:=bs d;obtain rfl:=sm d;exact g y m<|mv y<|g y m<|pc (zcf f.1 [65,97] 1 F) y y (zxY (zq2 (fun _=>y)) (y))<|g y m<|nt y<|zn (eg [52,53,54] 3 y y y y)) (fun hb=>(sm (bF hb d)).symm)<|u<|mv y<|zhw (x:=C) (j:=24) 3 y y y y y gpn (fun n=>by replace e:=bT n e;obtain ⟨Q,G,e⟩:=bs e;obtain rfl:=sm e;exact g y n<|mv y<|g y n<|pc (zcf f.1 [90,122] 0 G) y y (zxY (zq2 (fun _=>y)) (y))<|g y n<|nt y<|zn (eg [57,58,59] 3 y y y y)) (fun hb=>(sm (bF hb e)).symm)<|u<|asg y<|zn ?_
  exact RT0
instance:PF Tryz.prog 34 [] (zjC) bA:=⟨fun _=>zlC ⟩
def rK(h0:List za)(c:T0)(m:zb)(x0:AV)(x1:AV)(x2:AV):List AV:=[.ipt 1 [[.isl 6 (map zc h0)]] 0 0,sA c,sA m.Name,.isl 1 (map zt m.Params),sA m.Ret,bA m.Static,bA m.Abstract,iA m.Locals,iA m.Stack,.isl 4 (map zi m.Code),.isl 3 (map zx m.Maps),.isl 4 (map zap m.Traps),x0,x1,x2]
abbrev sR(h0:List za)(c:T0)(m:zb)(x y:T1)(b:Bool)(t:St):St:=some (15,[rK h0 c m (.isl 1 (x.map zt)) (.isl 1 (y.map zt)) (bA b)])::t
abbrev tR(h0:List za)(c:T0)(m:zb)(x y:T1)(b:Bool)(t:List SB):List SB:=.one 15 (rK h0 c m (.isl 1 (x.map zt)) (.isl 1 (y.map zt)) (bA b))::t
structure zgv where
  locals:T1
  stack:T1
def zvb(x:zgv):List AV:=[.isl 1 (map zt x.locals),.isl 1 (map zt x.stack)]
def zrY(a:T0)(b:Int):Option (T0×Int):=
  some (a,b)
def zgp(a:T0)(b:Int):Option (Sum (T0×Int) (Sum (T0×Int) (T0×Int))):=
  (cond (decide (0<(length a:Int))) ((idx a 0).bind fun e=>some ((e.toNat:Int) == (91:Int))) (some false)).bind fun c=>cond c ((zhs a 1 (length a:Int)).bind fun d=>some (.inl (d,(IntKind.i64.wrap (b+1))))) (some (.inr (.inl (a,b))))
def zih(a:T0):Option (T0×Int):=
  (zs (fun z=>zgp z.1 z.2) (a,0)).bind fun o=>zQ o (fun b=>zrY b.1 b.2) some
instance (d:T0):PF Tryz.prog 289 [sA d] (zih d) (fun r=>(.tup [sA r.1,iA r.2])):=⟨fun r h=>by
 refine zl Tryz.func289 y kz y y<|A ?_
 refine A ?_
 obtain ⟨o,ho,h⟩:=bs h
 refine lpA ho (fun z=>[(0,sA z.1),(4,iA z.2)]) (fun z=>[]) (fun b=>[(0,sA b.1),(4,iA b.2)]) (fun b=>[]) (pG Tryz.f289 (fun r=>.tup [sA r.1,iA r.2])) (zaE []) ?_ ?_
 ·rintro ⟨f,n⟩ r h
  refine zf ?_
  obtain ⟨i,p,h⟩:=bs h
  refine A ?_
  refine zeh h y (fun e h=>?_) fun e h=>?_
  ·refine ze<|zj ?_
   obtain ⟨j,c,h⟩:=bs h
   refine rg y<|u<|mv y<|u<|slS (a:=1) (b:=(length f:Int)) ti y y (zfP y c) y c<|A ?_
   refine A ?_
   obtain rfl:=sm h
   exact ⟨_,y,zp []⟩
  ·refine zy ?_
   obtain rfl:=sm h
   exact ⟨y,_,y,zp []⟩
 ·rintro ⟨l,m⟩ rfl
  refine A ?_
  exact RT0⟩
def zV(c:List za)(a:T0):Option (Bool):=
  (zf4 a).bind fun d=>cond (!d) (some false) ((zih a).bind fun b=>(cond (b.1 == [73]) (some true) ((zae c b.1).bind fun e=>some (decide (0≤e)))).bind fun f=>some f)
instance (a:List za)(b:T0):PF Tryz.prog 205 [.ipt 1 [[.isl 6 (map zc a)]] 0 0,sA b] (zV a b) bA:=⟨fun r h=>by
 refine zl Tryz.func205 y kz y y<|A ?_
 refine zf ?_
 obtain ⟨d,e,h⟩:=bs h
 refine A ?_
 refine zeh h y (fun c h=>?_) fun c h=>?_
 ·refine A ?_
  exact RT0
 ·refine ze ?_
  obtain ⟨f,i,h⟩:=bs h
  refine A ?_
  obtain ⟨j,l,h⟩:=bs h
  refine A ?_
  exact RT0⟩
def zja(a:List za)(b:T0)(c:zb)(d:Bool)(e:Bool):Unit:=
  ()
theorem zfN(a:List za)(b:T0)(c:zb)(d:Bool)(e:Bool){r:Unit}(h:zja a b c d e=r):SC Tryz.prog 204 [.mpt 0 0 0,bA e] [.one 15 (rK a b c (.lit (.slice none 0 0)) (.lit (.slice none 0 0)) (bA d))] (.tup []) [.one 15 (rK a b c (.lit (.slice none 0 0)) (.lit (.slice none 0 0)) (bA (d||(!e))))]:=by
 refine ⟨⟨t,t⟩,zP Tryz.func204 y kz y ?_⟩
 unfold zja at h
 refine A ?_
 obtain rfl:=h
 exact ⟨_,y,zab [.old 0]⟩
def zkE(a:T1):Option (T1):=
  some a
def zfs(c:zb)(a:T1):Option (Sum (T1) (Sum (T1) (T1))):=
  cond (decide (((length a):Int)<c.Locals)) ((zfY 16 a ([[84]])).bind fun b=>some (.inl b)) (some (.inr (.inl a)))
def zcN(a:zb)(c:T1):Option (T1):=
  (zfY 16 c a.Params).bind fun d=>(zs (fun z=>zfs a z) d).bind fun o=>zQ o (fun b=>zkE b) some
def zfc(e:List za)(c:T0)(a:zb)(b:T1)(f:T1)(i:Bool):Option (T1):=
  cond (!a.Static) ((zfY 16 b [c]).bind fun d=>zcN a d) (zcN a b)
theorem zkF(e:List za)(c:T0)(d:zb)(j:T1)(a:T1)(i:Bool){r:T1}(h:zfc e c d j a i=some r):SC Tryz.prog 206 [.mpt 0 0 0] [.one 15 (rK e c d (.msl 1 0 (length j)) (.msl 2 0 (length a)) (bA i)),.many 1 (map zt j),.many 1 (map zt a)] (.tup []) [.one 15 (rK e c d (.msl 3 0 (length r)) (.msl 2 0 (length a)) (bA i)),.no,.many 1 (map zt a),.many 1 (map zt r)]:=by
 refine ⟨⟨t,t,zgu (sz:=1) (fun _=>y),zgu (sz:=1) (fun _=>y),t⟩,zP Tryz.func206 y kz y ?_⟩
 refine zaA (X:=T1) (fun z=>[(0,.mpt 0 0 0)]) (fun z=>[some (15,[(rK e c d (.msl 3 0 (length z)) (.msl 2 0 (length a)) (bA i))]),none,some (1,map zt a),some (1,map zt z)]) (fun z=>zcN d z=some r) ?_ ?_
 ·refine A ?_
  refine zeh h y (fun p h=>?_) fun p h=>?_
  ·obtain ⟨l,s,h⟩:=bs h
   refine ziy [(0,_)] [some (15,[(rK e c d (.msl 3 0 (length l)) (.msl 2 0 (length a)) (bA i))]),none,some (1,map zt a),some (1,map zt l)] [10,11,15] [0,1,2,3,4,5,6,7,8,9] [(17,_),(16,_),(15,_),(14,_),(13,_),(12,_),(11,_),(10,_),(9,_),(8,_)] 3 (zcC (z:=by exact ⟨(fun _ _=>⟨_,y,y,bl 3 ti y ti y (by decide) (by decide) y y y<|⟨(.msl 3 0 1),[],[(18,_)],y,y,y,y,zcC (z:=by exact ⟨nv,(fun _ _=>⟨_,y,y,apM 4 ti y ti y y (by decide) ti y y y y (roX (f:=zt) (z:=[c]) y y) (fun _=>y) y s<|⟨(.msl 4 0 (length l)),[12,13,14],[(22,_),(21,_),(20,_),(19,_)],y,y,y,y,zcC (z:=by exact ⟨nv,nv,(fun _ _=>⟨_,y,y,sto ti y y y<|⟨.any,[],[],y,y,y,t,zdg (z:=zaE [.old 0,.dead,.old 2,.old 4])⟩⟩),t⟩)⟩⟩),nw,t⟩)⟩⟩),nw,nw,t⟩)) ?_
   exact ⟨l,h,zp [.old 0,.dead,.old 2,.old 3]⟩
  ·refine ze ?_
   exact ⟨j,h,zp [.old 0,.dead,.old 2,.old 1]⟩
 ·rintro D h
  obtain ⟨n,v,h⟩:=bs h
  refine rdA [(0,_)] [some (15,[(rK e c d (.msl 3 0 (length n)) (.msl 2 0 (length a)) (bA i))]),none,some (1,map zt a),some (1,map zt n)] [11,15] [0,1,2,3,4,5,6,7,8,9,10] [(33,_),(32,_),(31,_),(30,_),(29,_),(28,_),(27,_),(26,_),(25,_),(24,_),(23,_)] 2 (zcC (z:=by exact ⟨(fun _ _=>⟨_,y,y,apM 4 ti y ti y y (by decide) ti y y y y roI (fun _=>y) y v<|⟨(.msl 4 0 (length n)),[12,13,14],[(37,_),(36,_),(35,_),(34,_)],y,y,y,y,zcC (z:=by exact ⟨nv,(fun _ _=>⟨_,y,y,sto ti y y y<|⟨.any,[],[],y,y,y,t,zdg (z:=zaE [.old 0,.dead,.old 2,.old 4])⟩⟩),t⟩)⟩⟩),nw,t⟩)) ?_
  obtain ⟨o,ho,h⟩:=bs h
  refine lpB ho (fun z=>[(0,.mpt 0 0 0)]) (fun z=>[some (15,[(rK e c d (.msl 3 0 (length z)) (.msl 2 0 (length a)) (bA i))]),none,some (1,map zt a),some (1,map zt z)]) (fun b=>[]) (fun b=>[some (15,[(rK e c d (.msl 3 0 (length b)) (.msl 2 0 (length a)) (bA i))]),none,some (1,map zt a),some (1,map zt b)]) (fun r env st=>zj8 Tryz.prog Tryz.f206 3 (.tup []) [some (15,[(rK e c d (.msl 3 0 (length r)) (.msl 2 0 (length a)) (bA i))]),none,some (1,map zt a),some (1,map zt r)] env st) (zaE [.old 0,.dead,.old 2,.old 3]) ?_ ?_
  ·rintro m r h
   refine zf ?_
   refine rdA [(0,_),(49,_)] [some (15,[(rK e c d (.msl 3 0 (length m)) (.msl 2 0 (length a)) (bA i))]),none,some (1,map zt a),some (1,map zt m)] [] [0,1,2,3,4,5,6,7,8,9,10,11] [(49,_),(48,_),(47,_),(46,_),(45,_),(44,_),(43,_),(42,_),(41,_),(40,_),(39,_),(38,_)] 0 (zdg (z:=zaE [.old 0,.dead,.old 2,.old 3])) ?_
   refine zeh h y (fun q h=>?_) fun q h=>?_
   ·refine ze<|zj ?_
    obtain ⟨B,x,h⟩:=bs h
    refine A ?_
    refine u<|apM 5 ti y ti y y (by decide) ti y y y y (roX (f:=zt) (z:=[[84]]) y y) (fun _=>y) y x<|A ?_
    obtain rfl:=sm h
    exact ⟨_,y,zp [.old 0,.dead,.old 2,.old 5]⟩
   ·refine zy ?_
    obtain rfl:=sm h
    exact ⟨y,_,y,zp [.old 0,.dead,.old 2,.old 3]⟩
  ·rintro C rfl
   refine zu ?_
   obtain rfl:=sm h
   exact ⟨_,y,zab [.old 0,.dead,.old 2,.old 3]⟩
def zkI:Option (zU×Bool):=
  some ((zU.mk 0 [] []),false)
def zbL(b:zb)(e:Int)(a:Int):Option (Sum (Int) (Sum (Unit) (zU×Bool))):=
  cond (decide (a<(length b.Maps:Int))) ((idx b.Maps a).bind fun c=>cond (c.At == e) ((idx b.Maps a).bind fun d=>some (.inr (.inr (d,true)))) (some (.inl (IntKind.i64.wrap (a+1))))) (some (.inr (.inl ())))
def zc6(d:List za)(e:T0)(a:zb)(f:T1)(i:T1)(j:Bool)(c:Int):Option (zU×Bool):=
  (zs (fun z=>zbL a c z) 0).bind fun o=>zQ o (fun b=>zkI) some
theorem zft(a:List za)(c:T0)(d:zb)(e:T1)(f:T1)(i:Bool)(j:Int){r:zU×Bool}(h:zc6 a c d e f i j=some r):SC Tryz.prog 207 [.mpt 0 0 0,iA j] (tR a c d e f i []) (.tup [.agg (zx r.1),bA r.2]) (tR a c d e f i []):=by
 refine ⟨⟨t,t⟩,zP Tryz.func207 y kz y ?_⟩
 refine A ?_
 refine zf<|A ?_
 obtain ⟨o,ho,h⟩:=bs h
 refine lpB ho (fun z=>[(0,.mpt 0 0 0),(1,iA j),(4,.mpt 1 0 0),(6,iA z)]) (fun z=>(sR a c d e f i [some (3,[[iA 0,.lit (.slice none 0 0),.lit (.slice none 0 0)]])])) (fun b=>[(4,.mpt 1 0 0)]) (fun b=>(sR a c d e f i [some (3,[[iA 0,.lit (.slice none 0 0),.lit (.slice none 0 0)]])])) (fun r env st=>zj8 Tryz.prog Tryz.f207 1 (.tup [.agg (zx r.1),bA r.2]) (sR a c d e f i []) env st) (zaE [.old 0,.old 1]) ?_ ?_
 ·rintro n r h
  refine zf<|A ?_
  refine zeh h y (fun l h=>?_) fun l h=>?_
  ·refine ze<|zf<|zj ?_
   obtain ⟨p,s,h⟩:=bs h
   refine A ?_
   refine zeh h y (fun m h=>?_) fun m h=>?_
   ·obtain ⟨q,v,h⟩:=bs h
    refine A ?_
    refine zD ?_
    obtain rfl:=sm h
    exact ⟨_,y,_,y,zab [.old 0]⟩
   ·refine ze<|A ?_
    obtain rfl:=sm h
    exact ⟨_,y,zp [.old 0,.old 1]⟩
  ·refine zy ?_
   obtain rfl:=sm h
   exact ⟨y,_,y,zp [.old 0,.old 1]⟩
 ·rintro ⟨⟩ rfl
  refine zu<|A ?_
  exact RT1
def zkd(a:T1):Option (T1):=
  some a
def za8(c:List za)(b:T1)(a:Int):Option (Sum (T1×Int) (Sum (T1) (T1))):=
  cond (decide (0≤a)) ((idx c a).bind fun d=>(zfY 16 b [d.Name]).bind fun e=>(idx c a).bind fun f=>(zae c f.Super).bind fun i=>some (.inl (e,i))) (some (.inr (.inl b)))
def zbh(a:List za)(c:T0):Option (T1):=
  (zae a c).bind fun d=>(zs (fun z=>za8 a z.1 z.2) ([],d)).bind fun o=>zQ o (fun b=>zkd b) some
theorem zby(a:List za)(c:T0){r:T1}(h:zbh a c=some r):SC Tryz.prog 142 [.ipt 1 [[.isl 6 (map zc a)]] 0 0,sA c] [] (.msl 0 0 (length r)) [.many 1 (map zt r)]:=by
 refine ⟨⟨zgu (sz:=1) (fun _=>y),t⟩,zP Tryz.func142 y kz y ?_⟩
 refine A ?_
 refine A ?_
 refine zf ?_
 obtain ⟨x,B,h⟩:=bs h
 refine A ?_
 obtain ⟨o,ho,h⟩:=bs h
 refine lpB ho (fun z=>[(0,.ipt 1 [[.isl 6 (map zc a)]] 0 0),(5,.msl 0 0 (length z.1)),(6,iA z.2)]) (fun z=>[some (1,map zt z.1)]) (fun b=>[(5,.msl 0 0 (length b))]) (fun b=>[some (1,map zt b)]) (pF Tryz.f142 (fun r=>.msl 0 0 (length r)) fun r=>[some (1,map zt r)]) ⟨[.fresh 1],ce y y<|cv y (.nilown y)<|ce y y<|cn,y,⟨w,t⟩,y,k⟩ ?_ ?_
 ·rintro ⟨j,l⟩ r h
  refine zf<|A ?_
  refine zeh h y (fun d h=>?_) fun d h=>?_
  ·refine ze<|zf<|zj ?_
   obtain ⟨e,C,m,i,h⟩:=bs2 h
   refine A ?_
   refine u<|apM 2 ti y ti y y (by decide) ti y y y y (roX (f:=zt) (z:=[e.Name]) y y) (fun _=>y) y i<|A ?_
   obtain ⟨n,p,q,s,h⟩:=bs2 h
   refine A ?_
   obtain rfl:=sm h
   exact ⟨_,y,zp [.old 2]⟩
  ·refine zy ?_
   obtain rfl:=sm h
   exact ⟨y,_,y,zp [.old 0]⟩
 ·rintro v rfl
  refine zu<|A ?_
  exact RT1
def zs3:Option (Bool):=
  some false
def zg2(b:T1)(c:T0)(a:Int):Option (Sum (Int) (Sum (Unit) (Bool))):=
  cond (decide (a<(length b:Int))) ((idx b a).bind fun d=>cond (d == c) (some (.inr (.inr true))) (some (.inl (IntKind.i64.wrap (a+1))))) (some (.inr (.inl ())))
def ziD(a:T1)(c:T0):Option (Bool):=
  (zs (fun z=>zg2 a c z) 0).bind fun o=>zQ o (fun b=>zs3) some
theorem zfu(a:T1)(c:T0){r:Bool}(h:ziD a c=some r):zaF Tryz.prog 344 [.isl 1 (map zt a),sA c] (bA r):=by
 refine zl Tryz.func344 y kz y y<|A ?_
 refine zf<|A ?_
 obtain ⟨o,ho,h⟩:=bs h
 refine lpB ho (fun z=>[(0,.isl 1 (map zt a)),(1,sA c),(5,iA z)]) (fun z=>[]) (fun b=>[]) (fun b=>[]) (pG Tryz.f344 bA) (zaE []) ?_ ?_
 ·rintro f r h
  refine zf<|A ?_
  refine zeh h y (fun d h=>?_) fun d h=>?_
  ·refine ze<|zf<|zj ?_
   obtain ⟨i,j,h⟩:=bs h
   refine A ?_
   refine zeh h y (fun e h=>?_) fun e h=>?_
   ·refine A ?_
    refine zD ?_
    obtain rfl:=sm h
    exact ⟨_,y,_,y,zab []⟩
   ·refine ze<|A ?_
    obtain rfl:=sm h
    exact ⟨_,y,zp []⟩
  ·refine zy ?_
   obtain rfl:=sm h
   exact ⟨y,_,y,zp []⟩
 ·rintro ⟨⟩ rfl
  refine zu<|A ?_
  exact RT0
instance (a:T1)(b:T0):PF Tryz.prog 344 [.isl 1 (map zt a),sA b] (ziD a b) bA:=⟨fun _=>zfu a b⟩
def zlI(a:T1)(j:T0)(b:Int):Option (T1):=
  (zhs a 0 b).bind fun c=>(zfY 16 ([]:T1) c).bind fun d=>(zhs a b (length a:Int)).bind fun e=>(zfY 16 d [j]).bind fun f=>(zfY 16 f e).bind fun i=>some i
def zdp(b:T1)(c:T0)(a:Int):Option (Sum (Int) (Sum (Int) (T1))):=
  (cond (decide (a<(length b:Int))) ((idx b a).bind fun d=>some (Op.bytesLess d c)) (some false)).bind fun e=>cond e (some (.inl (IntKind.i64.wrap (a+1)))) (some (.inr (.inl a)))
def zjO(a:T1)(c:T0):Option (T1):=
  (zs (fun z=>zdp a c z) 0).bind fun o=>zQ o (fun b=>zlI a c b) some
theorem zps(d:T1)(e:T0){r:T1}(h:zjO d e=some r):SC Tryz.prog 351 [.isl 1 (map zt d),sA e] [] (.msl 0 0 (length r)) [.many 1 (map zt r)]:=by
 refine ⟨⟨zgu (sz:=1) (fun _=>y),t⟩,zP Tryz.func351 y kz y ?_⟩
 refine A ?_
 refine A ?_
 obtain ⟨o,ho,h⟩:=bs h
 refine lpA ho (fun z=>[(0,.isl 1 (map zt d)),(1,sA e),(5,iA z)]) (fun z=>[]) (fun b=>[(0,.isl 1 (map zt d)),(1,sA e),(5,iA b)]) (fun b=>[]) (pF Tryz.f351 (fun r=>.msl 0 0 (length r)) fun r=>[some (1,map zt r)]) (zaE []) ?_ ?_
 ·rintro C r h
  refine zf ?_
  obtain ⟨D,E,h⟩:=bs h
  refine A ?_
  refine zeh h y (fun l h=>?_) fun l h=>?_
  ·refine ze<|zj<|A ?_
   obtain rfl:=sm h
   exact ⟨_,y,zp []⟩
  ·refine zy ?_
   obtain rfl:=sm h
   exact ⟨y,_,y,zp []⟩
 ·rintro j rfl
  obtain ⟨v,m,x,n,h⟩:=bs2 h
  refine A ?_
  refine u<|slI (a:=0) (b:=j) ti y ti y y y (zjZ y m) m<|u<|apN (f:=zt) 0 ti y ti y y (by decide) ti y y y roI (fun _=>y) y n<|A ?_
  obtain ⟨B,c,p,q,i,s,h⟩:=bs3 h
  refine rdA [(4,.msl 0 0 (length i))] [some (1,map zt i)] [2,3,7] [0,1,4,5,6] [(31,_),(30,_),(29,_),(26,_),(25,_)] 3 (zcC ⟨peC,peC,peC,peC,(by exact pb y (slI (a:=j) (b:=(length d:Int)) ti y ti y y (zfP y c) y c<|w)),t⟩ (by exact ⟨(fun _ _=>⟨_,y,y,bl 1 ti y ti y (by decide) (by decide) y y y<|⟨(.msl 1 0 1),[],[(27,_)],y,y,y,y,zcC ⟨peC,peC,peC,peC,(by exact pb y (slI (a:=j) (b:=(length d:Int)) ti y ti y y (zfP y c) y c<|w)),t⟩ (by exact ⟨nv,(fun _ _=>⟨_,y,y,apM 2 ti y ti y y (by decide) ti y y y y (roX (f:=zt) (z:=[e]) y y) (fun _=>y) y q<|⟨(.msl 2 0 (length p)),[],[(28,_)],y,y,y,y,zcC ⟨peC,peC,peC,peC,(by exact pb y (slI (a:=j) (b:=(length d:Int)) ti y ti y y (zfP y c) y c<|w)),t⟩ (by exact ⟨nv,nv,(fun _ _=>⟨_,y,y,apM 3 ti y ti y y (by decide) ti y y y y roI (fun _=>y) y s<|⟨(.msl 3 0 (length i)),[8],[(4,_),(32,_)],y,y,y,y,zdg (z:=zaE [.old 3])⟩⟩),t⟩)⟩⟩),nw,t⟩)⟩⟩),nw,nw,t⟩)) ?_
  exact RT1
def zl3(a:T1):Option (T1):=
  some a
def zeL(a:Int)(b:T1):Option (Sum (T1×Int) (Sum (T1) (T1))):=
  some (.inl (b,(IntKind.i64.wrap (a+1))))
def zaZ(i:List za)(c:List Bool)(b:T1)(a:Int):Option (Sum (T1×Int) (Sum (T1) (T1))):=
  cond (decide (a<(length i:Int))) ((idx c a).bind fun d=>cond d ((idx i a).bind fun e=>(zjO b e.Name).bind fun f=>zeL a f) (zeL a b)) (some (.inr (.inl b)))
def zib(c:List za)(a:List Bool):Option (T1):=
  (zs (fun z=>zaZ c a z.1 z.2) ([],0)).bind fun o=>zQ o (fun b=>zl3 b) some
def zl2(a:List Bool)(b:Bool):Option (Sum ((List Bool)×Bool) (Sum ((List Bool)) (T1))):=
  some (.inl (a,b))
def zeK(a:Int)(b:List Bool)(c:Bool):Option (Sum ((List Bool)×Bool×Int) (Sum ((List Bool)×Bool) (T1))):=
  some (.inl (b,c,(IntKind.i64.wrap (a+1))))
def zeM(a:Int)(b:List Bool)(c:Bool):Option (Sum ((List Bool)×Bool×Int) (Sum ((List Bool)×Bool) (T1))):=
  zeK a b c
def zeJ(a:Int)(b:List Bool)(c:Bool):Option (Sum ((List Bool)×Bool×Int) (Sum ((List Bool)×Bool) (T1))):=
  some (.inl (b,c,(IntKind.i64.wrap (a+1))))
def zcp(j:List za)(d:za)(a:List Bool)(e:Bool)(b:Int):Option (Sum ((List Bool)×Bool×Int) (Sum ((List Bool)×Bool) (T1))):=
  cond (decide (b<(length d.Impl:Int))) ((idx d.Impl b).bind fun f=>(zae j f).bind fun c=>(idx a c).bind fun i=>cond (!i) ((idx a c).bind fun l=>zeJ b (List.set a (Int.toNat c) true) true) (zeJ b a e)) (some (.inr (.inl (a,e))))
def zcq(f:List za)(m:T1)(c:List Bool)(d:Bool)(a:Int):Option (Sum ((List Bool)×Bool×Int) (Sum ((List Bool)×Bool) (T1))):=
  cond (decide (a<(length f:Int))) ((idx f a).bind fun e=>(idx c a).bind fun i=>(cond (!i) ((ziD m e.Name).bind fun j=>some (!j)) (some false)).bind fun l=>cond l (zeK a c d) ((zs (fun z=>zcp f e z.1 z.2.1 z.2.2) (c,d,0)).bind fun o=>zQ o (fun b=>zeM a b.1 b.2) (fun r=>some (.inr (.inr r))))) (some (.inr (.inl (c,d))))
def zeN(d:List za)(e:T1)(a:List Bool)(c:Bool):Option (Sum ((List Bool)×Bool) (Sum ((List Bool)) (T1))):=
  cond c ((zs (fun z=>zcq d e z.1 z.2.1 z.2.2) (a,false,0)).bind fun o=>zQ o (fun b=>zl2 b.1 b.2) (fun r=>some (.inr (.inr r)))) (some (.inr (.inl a)))
def zd9(a:List za)(c:T0)(d:List Bool):Option (T1):=
  (zbh a c).bind fun e=>(zs (fun z=>zeN a e z.1 z.2) (d,true)).bind fun o=>zQ o (fun b=>zib a b) some
def zfq(a:List za)(c:T0):Option (T1):=
  (mkP 1 (length a:Int)).bind fun d=>(zae a c).bind fun b=>cond (decide (b<0)) (some []) ((idx a b).bind fun e=>cond e.Interface ((idx (List.replicate d false) b).bind fun f=>zd9 a c (List.set (List.replicate d false) (Int.toNat b) true)) (zd9 a c (List.replicate d false)))
theorem ziA(a:List za)(s:T0){r:T1}(h:zfq a s=some r):SC Tryz.prog 313 [.ipt 1 [[.isl 6 (map zc a)]] 0 0,sA s] [] (.msl 0 0 (length r)) [.many 1 (map zt r)]:=by
 refine ⟨⟨zgu (sz:=1) (fun _=>y),t⟩,zP Tryz.func313 y kz y ?_⟩
 refine A ?_
 obtain ⟨R,Z,h⟩:=bs h
 refine A ?_
 refine u<|mks (f:=rB) (z:=false) 0 ti y ti y y y y y y Z<|A ?_
 obtain ⟨v4,q2,h⟩:=bs h
 refine A ?_
 refine zf<|A ?_
 refine zeh h y (fun S h=>?_) fun S h=>?_
 ·refine A ?_
  refine zD ?_
  obtain rfl:=sm h
  exact ⟨_,y,[.fresh 1],.nilown y,y,⟨w,t⟩,y,k⟩
 ·refine ze ?_
  refine zaA (X:=(List Bool)) (fun z=>[(0,.ipt 1 [[.isl 6 (map zc a)]] 0 0),(1,sA s),(5,.msl 0 0 (length z))]) (fun z=>[some (1,map rB z)]) (fun z=>zd9 a s z=some r) ?_ ?_
  ·obtain ⟨v5,q4,h⟩:=bs h
   refine A ?_
   refine zeh h y (fun T h=>?_) fun T h=>?_
   ·obtain ⟨v6,q6,h⟩:=bs h
    refine A ?_
    exact u<|zB6 (c':=true) ti y y (zm q6).2.2 y y y y y<|zn (⟨(List.set (List.replicate R false) (Int.toNat v4) true),h,[.old 0],ce y y<|ce y y<|cv y (zBK (by simp) y)<|cn,y,⟨⟨_,y,zbs (fun _=>y)⟩,t⟩,y,k⟩)
   ·refine ze ?_
    exact ⟨(List.replicate R false),h,zp [.old 0]⟩
  ·rintro U h
   obtain ⟨c,q7,h⟩:=bs h
   refine A ?_
   refine u<|sx [] (zby a s q7)<|zv (env0:=[(0,.ipt 1 [[.isl 6 (map zc a)]] 0 0),(5,.msl 0 0 (length U)),(39,.msl 1 0 (length c))]) (st0:=[some (1,map rB U),some (1,map zt c)]) (zp [.old 0,.old 1])<|A ?_
   refine zf<|A ?_
   obtain ⟨o,ho,h⟩:=bs h
   refine lpB ho (fun z=>[(0,.ipt 1 [[.isl 6 (map zc a)]] 0 0),(5,.msl 0 0 (length z.1)),(7,.msl 1 0 (length c)),(8,bA z.2)]) (fun z=>[some (1,map rB z.1),some (1,map zt c)]) (fun b=>[(0,.ipt 1 [[.isl 6 (map zc a)]] 0 0),(5,.msl 0 0 (length b))]) (fun b=>[some (1,map rB b)]) (pF Tryz.f313 (fun r=>.msl 0 0 (length r)) fun r=>[some (1,map zt r)]) (zaE [.old 0,.old 1]) ?_ ?_
   ·rintro ⟨v71,v72⟩ r h
    refine zf<|A ?_
    refine zeh h y (fun F h=>?_) fun F h=>?_
    ·refine ze<|zj<|A ?_
     refine A ?_
     obtain ⟨o,ho,h⟩:=bs h
     refine lpS ho (fun z=>[(0,.ipt 1 [[.isl 6 (map zc a)]] 0 0),(5,.msl 0 0 (length z.1)),(7,.msl 1 0 (length c)),(8,bA z.2.1),(9,iA z.2.2)]) (fun z=>[some (1,map rB z.1),some (1,map zt c)]) (fun b=>[(0,.ipt 1 [[.isl 6 (map zc a)]] 0 0),(5,.msl 0 0 (length b.1)),(7,.msl 1 0 (length c)),(8,bA b.2)]) (fun b=>[some (1,map rB b.1),some (1,map zt c)]) (pF Tryz.f313 (fun r=>.msl 0 0 (length r)) fun r=>[some (1,map zt r)]) (zaE [.old 0,.old 1]) ?_ ?_ ?_
     ·rintro ⟨G,H,e⟩ r h
      refine zf<|A ?_
      refine zeh h y (fun I h=>?_) fun I h=>?_
      ·refine ze ?_
       refine zaA (X:=(List Bool)×Bool) (fun z=>[(0,.ipt 1 [[.isl 6 (map zc a)]] 0 0),(5,.msl 0 0 (length z.1)),(7,.msl 1 0 (length c)),(8,bA z.2),(9,iA e)]) (fun z=>[some (1,map rB z.1),some (1,map zt c)]) (fun z=>zeK e z.1 z.2=some r) ?_ ?_
       ·refine zj ?_
        obtain ⟨n,q67,h⟩:=bs h
        refine A ?_
        refine zf ?_
        obtain ⟨v106,q68,J,l,h⟩:=bs2 h
        refine A ?_
        refine zhw (x:=J) (j:=5) 5 y y y y y gpn (fun i=>by replace l:=bT i l;obtain ⟨v107,V,l⟩:=bs l;obtain rfl:=sm l;exact g y i<|mv y<|g y i<|fa ti y y y<|g y i<|ld ti y y<|g y i<|pcs (zfu c n.Name V) y y (.cons (zgK y (fun _=>y)) (.cons (si y) .nil)) zbF<|g y i<|nt y<|zn (eg [63,64,65,66,67] 5 y y y y)) (fun hb=>(sm (bF hb l)).symm)<|zn ?_
        refine zeh h y (fun K h=>?_) fun K h=>?_
        ·refine zy ?_
         exact ⟨⟨G,H⟩,h,zp [.old 0,.old 1]⟩
        ·refine ze<|A ?_
         obtain ⟨o,ho,h⟩:=bs h
         refine lpS ho (fun z=>[(0,.ipt 1 [[.isl 6 (map zc a)]] 0 0),(5,.msl 0 0 (length z.1)),(7,.msl 1 0 (length c)),(8,bA z.2.1),(9,iA e),(10,.mpt 2 0 0),(11,iA z.2.2)]) (fun z=>[some (1,map rB z.1),some (1,map zt c),some (6,[(zc n)])]) (fun b=>[(0,.ipt 1 [[.isl 6 (map zc a)]] 0 0),(5,.msl 0 0 (length b.1)),(7,.msl 1 0 (length c)),(8,bA b.2),(9,iA e)]) (fun b=>[some (1,map rB b.1),some (1,map zt c)]) (pF Tryz.f313 (fun r=>.msl 0 0 (length r)) fun r=>[some (1,map zt r)]) (zaE [.old 0,.old 1,.old 2]) ?_ ?_ ?_
         ·rintro ⟨v,L,B⟩ r h
          refine zf<|A ?_
          refine zeh h y (fun M h=>?_) fun M h=>?_
          ·refine ze ?_
           refine zaA (X:=(List Bool)×Bool) (fun z=>[(0,.ipt 1 [[.isl 6 (map zc a)]] 0 0),(5,.msl 0 0 (length z.1)),(7,.msl 1 0 (length c)),(8,bA z.2),(9,iA e),(10,.mpt 2 0 0),(11,iA B)]) (fun z=>[some (1,map rB z.1),some (1,map zt c),some (6,[(zc n)])]) (fun z=>zeJ B z.1 z.2=some r) ?_ ?_
           ·refine zj ?_
            obtain ⟨v121,q80,N,q81,h⟩:=bs2 h
            refine A ?_
            obtain ⟨v123,q82,h⟩:=bs h
            refine A ?_
            refine zeh h y (fun O h=>?_) fun O h=>?_
            ·obtain ⟨v124,W,h⟩:=bs h
             refine A ?_
             refine u<|zB6 (c':=true) ti y y (zm W).2.2 y y y y y<|A ?_
             exact (⟨⟨(List.set v (Int.toNat N) true),true⟩,h,[.old 0,.old 1,.old 2],ce y y<|cv y (zBK (by simp) y)<|cv y (.msl y)<|ce y y<|ce y y<|cv y (.mpt y)<|ce y y<|cn,y,⟨⟨_,y,zbs (fun _=>y)⟩,⟨_,y,zbs (fun _=>y)⟩,⟨_,y,zaz (ciL y)⟩,t⟩,y,k⟩)
            ·refine ze ?_
             exact ⟨⟨v,L⟩,h,zp [.old 0,.old 1,.old 2]⟩
           ·rintro ⟨v125,v126⟩ h
            refine A ?_
            obtain rfl:=sm h
            exact ⟨_,y,zp [.old 0,.old 1,.old 2]⟩
          ·refine zy ?_
           obtain rfl:=sm h
           exact ⟨y,_,y,zp [.old 0,.old 1]⟩
         ·rintro ⟨C,D⟩ rfl
          replace h:zeM e C D=some r:=h
          unfold zeM at h
          refine zu ?_
          exact ⟨⟨C,D⟩,h,zp [.old 0,.old 1]⟩
         ·rintro r' rfl env st hp
          obtain rfl:=sm h
          exact ⟨_,y,hp⟩
       ·rintro ⟨v129,v130⟩ h
        refine A ?_
        obtain rfl:=sm h
        exact ⟨_,y,zp [.old 0,.old 1]⟩
      ·refine zy ?_
       obtain rfl:=sm h
       exact ⟨y,_,y,zp [.old 0,.old 1]⟩
     ·rintro ⟨v131,v132⟩ rfl
      refine zu ?_
      obtain rfl:=sm h
      exact ⟨_,y,zp [.old 0,.old 1]⟩
     ·rintro r' rfl env st hp
      obtain rfl:=sm h
      exact ⟨_,y,hp⟩
    ·refine zy ?_
     obtain rfl:=sm h
     exact ⟨y,_,y,zp [.old 0]⟩
   ·rintro d rfl
    refine zu<|A ?_
    refine zf<|A ?_
    obtain ⟨o,ho,h⟩:=bs h
    refine lpB ho (fun z=>[(0,.ipt 1 [[.isl 6 (map zc a)]] 0 0),(5,.msl 0 0 (length d)),(13,.msl 1 0 (length z.1)),(14,iA z.2)]) (fun z=>[some (1,map rB d),some (1,map zt z.1)]) (fun b=>[(13,.msl 0 0 (length b))]) (fun b=>[some (1,map zt b)]) (pF Tryz.f313 (fun r=>.msl 0 0 (length r)) fun r=>[some (1,map zt r)]) ⟨[.old 0,.fresh 1],ce y y<|cv y (.msl y)<|cv y (.nilown y)<|ce y y<|cn,y,⟨⟨_,y,zbs (fun _=>y)⟩,w,t⟩,y,k⟩ ?_ ?_
    ·rintro ⟨p,m⟩ r h
     refine zf<|A ?_
     refine zeh h y (fun P h=>?_) fun P h=>?_
     ·refine ze ?_
      refine zaA (X:=T1) (fun z=>[(0,.ipt 1 [[.isl 6 (map zc a)]] 0 0),(5,.msl 0 0 (length d)),(13,.msl 1 0 (length z)),(14,iA m)]) (fun z=>[some (1,map rB d),some (1,map zt z)]) (fun z=>zeL m z=some r) ?_ ?_
      ·refine zj ?_
       obtain ⟨v142,q91,h⟩:=bs h
       refine A ?_
       refine zeh h y (fun Q h=>?_) fun Q h=>?_
       ·obtain ⟨E,q93,q,Y,h⟩:=bs2 h
        refine A ?_
        refine zv (env0:=[(0,.ipt 1 [[.isl 6 (map zc a)]] 0 0),(5,.msl 0 0 (length d)),(14,iA m),(104,.isl 1 (map zt p)),(112,sA E.Name)]) (st0:=[some (1,map rB d)]) (zp [.old 0])<|u<|sx [] (zps p E.Name Y)<|zv (env0:=[(0,.ipt 1 [[.isl 6 (map zc a)]] 0 0),(5,.msl 0 0 (length d)),(14,iA m),(113,.msl 1 0 (length q))]) (st0:=[some (1,map rB d),some (1,map zt q)]) (zp [.old 0,.old 1])<|A ?_
        exact (⟨q,h,zp [.old 0,.old 1]⟩)
       ·refine ze ?_
        exact ⟨p,h,zp [.old 0,.old 1]⟩
      ·rintro v145 h
       refine A ?_
       obtain rfl:=sm h
       exact ⟨_,y,zp [.old 0,.old 1]⟩
     ·refine zy ?_
      obtain rfl:=sm h
      exact ⟨y,_,y,zp [.old 1]⟩
    ·rintro v146 rfl
     refine zu<|A ?_
     exact RT1
def zbu(s:((List za)×T0×T0→Option Bool))(b:List za)(c:T0)(d:T0):Option (Bool):=
  (zV b c).bind fun v=>(cond (!v) (some true) ((zV b d).bind fun x=>some (!x))).bind fun B=>cond B (some false) (cond (c == d) (some true) ((zih c).bind fun e=>(zih d).bind fun a=>cond ((e.2 == (0:Int))&&(a.2 == (0:Int))) ((cond ((!(e.1 == [73]))&&(!(a.1 == [73]))) ((zbh b e.1).bind fun C=>(ziD C a.1).bind fun j=>(cond j (some true) ((zfq b e.1).bind fun l=>(ziD l a.1).bind fun m=>some m)).bind fun n=>some n) (some false)).bind fun o=>some o) (cond (a.2 == (0:Int)) (some (a.1 == [79,98,106,101,99,116])) (cond (e.2 == (0:Int)) (some false) ((zhs c 1 (length c:Int)).bind fun f=>(zhs d 1 (length d:Int)).bind fun i=>(cond ((!(f == [73]))&&(!(i == [73]))) ((s (b,f,i)).bind fun p=>some p) (some false)).bind fun q=>some q)))))
theorem zkD(C:((List za)×T0×T0→Option Bool))(hrec:∀z r,C z=some r→zaF Tryz.prog 291 [.ipt 1 [[.isl 6 (map zc z.1)]] 0 0,sA z.2.1,sA z.2.2] (bA r))(m:List za)(p:T0)(q:T0){r:Bool}(h:zbu C m p q=some r):zaF Tryz.prog 291 [.ipt 1 [[.isl 6 (map zc m)]] 0 0,sA p,sA q] (bA r):=by
 refine zl Tryz.func291 y kz y y<|A ?_
 refine zf ?_
 obtain ⟨W,X,Y,Z,h⟩:=bs2 h
 refine A ?_
 refine zeh h y (fun D h=>?_) fun D h=>?_
 ·refine A ?_
  exact RT0
 ·refine ze<|zf<|A ?_
  refine zeh h y (fun E h=>?_) fun E h=>?_
  ·refine A ?_
   exact RT0
  ·refine ze ?_
   obtain ⟨F,q7,h⟩:=bs h
   refine A ?_
   obtain ⟨G,q8,h⟩:=bs h
   refine A ?_
   refine zf<|zj<|A ?_
   refine zeh h y (fun s h=>?_) fun s h=>?_
   ·obtain ⟨H,d,h⟩:=bs h
    refine A ?_
    refine zBW (x:=H) (j:=6) 12 2 y y y y y gpn (fun c=>by replace d:=bT c d;obtain ⟨S,I,d⟩:=bs d;obtain ⟨T,J,d⟩:=bs d;obtain ⟨K,f,d⟩:=bs d;obtain rfl:=sm d;exact g y c<|mv y<|g y c<|mv y<|g y c<|sx [] (zby m F.1 I)<|g y c<|mv y<|g y c<|pcs (zfu S G.1 J) y y (.cons (zgK y (fun _=>y)) (.cons (si y) .nil)) zbF<|g y c<|mv y<|zBX (x:=K) (j:=12) 5 1 y y y y y (gps y y c) (fun e=>by replace f:=bF e f;obtain ⟨L,M,f⟩:=bs f;obtain ⟨U,N,f⟩:=bs f;obtain rfl:=sm f;exact g y e<|mv y<|g y e<|mv y<|g y e<|sx [] (ziA m F.1 M)<|g y e<|mv y<|g y e<|pcs (zfu L G.1 N) y y (.cons (zgK y (fun _=>y)) (.cons (si y) .nil)) zbF<|zn (xg [56,57,58,59,60] 5 y y y y y y)) (fun hb=>(sm (bT hb f)).symm)<|zn (xg [50,51,52,53,54,55,56,57,58,59,60,61] 7 y y y y y y)) (fun hb=>(sm (bF hb d)).symm)<|A ?_
    exact RT0
   ·refine A ?_
    refine zeh h y (fun v h=>?_) fun v h=>?_
    ·refine A ?_
     exact RT0
    ·refine A ?_
     refine zeh h y (fun B h=>?_) fun B h=>?_
     ·refine A ?_
      exact RT0
     ·refine ze ?_
      obtain ⟨O,n,P,o,h⟩:=bs2 h
      refine rdA [(0,_),(11,_),(12,_)] [] [] [0,1,2,3,4,5] [(12,_),(11,_),(74,_),(73,_),(72,_),(71,_)] 0 (zdg ⟨peC,(by exact pb y (slS (a:=1) (b:=(length p:Int)) ti y y (zfP y n) y n<|w)),peC,(by exact pb y (slS (a:=1) (b:=(length q:Int)) ti y y (zfP y o) y o<|w)),peC,peC,t⟩ (zaE [])) ?_
      obtain ⟨Q,l,h⟩:=bs h
      refine A ?_
      refine zhw (x:=Q) (j:=6) 4 y y y y y gpn (fun i=>by replace l:=bT i l;obtain ⟨V,R,l⟩:=bs l;obtain rfl:=sm l;exact g y i<|mv y<|g y i<|mv y<|g y i<|mv y<|g y i<|pc (hrec (m,O,P) _ R) y y y<|zn (eg [82,83,84,85] 4 y y y y)) (fun hb=>(sm (bF hb l)).symm)<|A ?_
      exact RT0
def zeV(a:List za)(b:T0)(c:T0):Option Bool:=
  zAP (fun d z=>zbu d z.1 z.2.1 z.2.2) (a,b,c)
theorem zic(b:List za)(c:T0)(d:T0){r:Bool}(h:zeV b c d=some r):zaF Tryz.prog 291 [.ipt 1 [[.isl 6 (map zc b)]] 0 0,sA c,sA d] (bA r):=
  zxa (F:=(fun a z=>zbu a z.1 z.2.1 z.2.2)) (Q:=fun z r=>zaF Tryz.prog 291 [.ipt 1 [[.isl 6 (map zc z.1)]] 0 0,sA z.2.1,sA z.2.2] (bA r)) (fun a hv z r h=>zkD a hv z.1 z.2.1 z.2.2 h) h
def zbo(c:List za)(a:T0)(b:T0):Option (Bool):=
  cond (b == [84]) ((cond ((a == [84])||(a == [78])) (some true) ((zV c a).bind fun o=>some o)).bind fun p=>some p) (cond (a == [78]) ((cond (b == [78]) (some true) ((cond (!(b == [73])) ((zV c b).bind fun q=>some q) (some false)).bind fun s=>some s)).bind fun v=>some v) (cond (a == b) ((zV c a).bind fun x=>some x) ((cond ((a == [73])||(b == [73])) (some true) ((zV c a).bind fun e=>some (!e))).bind fun f=>(cond f (some true) ((zV c b).bind fun i=>some (!i))).bind fun j=>cond j (some false) ((zae c b).bind fun d=>(cond (decide (0≤d)) ((idx c d).bind fun l=>some l.Interface) (some false)).bind fun m=>cond m (some true) ((zeV c a b).bind fun n=>some n)))))
instance (a:List za)(b:T0)(c:T0):PF Tryz.prog 343 [.ipt 1 [[.isl 6 (map zc a)]] 0 0,sA b,sA c] (zbo a b c) bA:=⟨fun r h=>by
 refine zl Tryz.func343 y kz y y<|A ?_
 refine zf<|zj<|A ?_
 refine zeh h y (fun i h=>?_) fun i h=>?_
 ·obtain ⟨E,F,h⟩:=bs h
  refine A ?_
  exact RT0
 ·refine A ?_
  refine zeh h y (fun j h=>?_) fun j h=>?_
  ·obtain ⟨G,m,h⟩:=bs h
   refine A ?_
   exact RT0
  ·refine A ?_
   refine zeh h y (fun d h=>?_) fun d h=>?_
   ·obtain ⟨H,n,h⟩:=bs h
    refine A ?_
    exact RT0
   ·obtain ⟨o,p,q,s,h⟩:=bs2 h
    refine A ?_
    refine zeh h y (fun e h=>?_) fun e h=>?_
    ·refine A ?_
     exact RT0
    ·refine ze<|zf ?_
     obtain ⟨v,x,h⟩:=bs h
     refine A ?_
     obtain ⟨B,C,h⟩:=bs h
     refine A ?_
     refine zeh h y (fun f h=>?_) fun f h=>?_
     ·refine A ?_
      exact RT0
     ·refine ze ?_
      obtain ⟨D,l,h⟩:=bs h
      refine rg y<|u<|mv y<|u<|mv y<|u<|mv y<|u<|pc (zic a b c l) y y y<|u<|asg y<|zn ?_
      exact RT0⟩
def zl1:Option (Bool):=
  some true
def zco(e:List za)(b:T1)(f:T1)(a:Int):Option (Sum (Int) (Sum (Unit) (Bool))):=
  cond (decide (a<(length b:Int))) ((idx b a).bind fun i=>(idx f a).bind fun c=>(zbo e i c).bind fun d=>cond (!d) (some (.inr (.inr false))) (some (.inl (IntKind.i64.wrap (a+1))))) (some (.inr (.inl ())))
def zcb(d:List za)(a:T1)(c:T1):Option (Bool):=
  cond (!((length a:Int) == (length c:Int))) (some false) ((zs (fun z=>zco d a c z) 0).bind fun o=>zQ o (fun b=>zl1) some)
theorem zia(a:List za)(c:T1)(d:T1){r:Bool}(h:zcb a c d=some r):zaF Tryz.prog 290 [.ipt 1 [[.isl 6 (map zc a)]] 0 0,.isl 1 (map zt c),.isl 1 (map zt d)] (bA r):=by
 refine zl Tryz.func290 y kz y y<|A ?_
 refine zf<|A ?_
 refine zeh h y (fun f h=>?_) fun f h=>?_
 ·refine A ?_
  exact RT0
 ·refine ze<|zf<|A ?_
  obtain ⟨o,ho,h⟩:=bs h
  refine lpB ho (fun z=>[(0,.ipt 1 [[.isl 6 (map zc a)]] 0 0),(1,.isl 1 (map zt c)),(2,.isl 1 (map zt d)),(7,iA z)]) (fun z=>[]) (fun b=>[]) (fun b=>[]) (pG Tryz.f290 bA) (zaE []) ?_ ?_
  ·rintro n r h
   refine zf<|A ?_
   refine zeh h y (fun i h=>?_) fun i h=>?_
   ·refine ze<|zf<|zj ?_
    obtain ⟨p,q,j,s,l,m,h⟩:=bs3 h
    refine rdA [(0,_),(1,_),(2,_),(7,_),(29,_)] [] [] [0,1,2,3,4,5,6,7,8,9,10] [(29,_),(28,_),(27,_),(26,_),(25,_),(24,_),(23,_),(22,_),(21,_),(20,_),(19,_)] 0 (zdg (z:=zaE [])) ?_
    refine zeh h y (fun e h=>?_) fun e h=>?_
    ·refine A ?_
     refine zD ?_
     obtain rfl:=sm h
     exact ⟨_,y,_,y,zab []⟩
    ·refine ze<|A ?_
     obtain rfl:=sm h
     exact ⟨_,y,zp []⟩
   ·refine zy ?_
    obtain rfl:=sm h
    exact ⟨y,_,y,zp []⟩
  ·rintro ⟨⟩ rfl
   refine zu<|A ?_
   exact RT0
instance (a:List za)(b:T1)(c:T1):PF Tryz.prog 290 [.ipt 1 [[.isl 6 (map zc a)]] 0 0,.isl 1 (map zt b),.isl 1 (map zt c)] (zcb a b c) bA:=⟨fun _=>zia a b c⟩
def zhF(a:List za)(b:T0)(c:zb)(d:T1)(e:T1)(f:Bool)(i:Bool):Unit:=
  ()
theorem zk(a:List za)(b:T0)(c:zb)(d:T1)(e:T1)(f:Bool)(i:Bool){r:Unit}(h:zhF a b c d e f i=r):SC Tryz.prog 204 [.mpt 0 0 0,bA i] (tR a b c d e f []) (.tup []) (tR a b c d e (f||(!i)) []):=by
 refine ⟨⟨t,t⟩,zP Tryz.func204 y kz y ?_⟩
 unfold zhF at h
 refine A ?_
 obtain rfl:=h
 exact ⟨_,y,zab [.old 0]⟩
def zdF(c:List za)(f:T0)(i:zb)(j:T1)(l:T1)(b:Bool)(m:Int)(n:T1)(o:T1):Option (Bool):=
  (zc6 c f i j l b m).bind fun a=>cond a.2 ((zcb c n a.1.Locals).bind fun d=>cond d ((zcb c o a.1.Stack).bind fun e=>some (b||(!e))) (some (b||(!false)))) (some (b||(!false)))
theorem zfM(a:List za)(b:T0)(c:zb)(d:T1)(e:T1)(f:Bool)(n:Int)(o:T1)(p:T1){r:Bool}(h:zdF a b c d e f n o p=some r):SC Tryz.prog 208 [.mpt 0 0 0,iA n,.isl 1 (map zt o),.isl 1 (map zt p)] (tR a b c d e f []) (.tup []) (tR a b c d e r []):=by
 refine ⟨⟨t,t⟩,zP Tryz.func208 y kz y ?_⟩
 obtain ⟨i,s,h⟩:=bs h
 refine A ?_
 refine u<|sx [0] (zft a b c d e f n s)<|zv (env0:=[(0,.mpt 0 0 0),(2,.isl 1 (map zt o)),(3,.isl 1 (map zt p)),(13,.tup [.agg (zx i.1),bA i.2])]) (st0:=(sR a b c d e f [])) (zp [.old 0])<|A ?_
 rcases bb i.2 with j |j
 ·replace h:=bT j h
  obtain ⟨q,v,h⟩:=bs h
  rcases bb q with l |l
  ·replace h:=bT l h
   obtain ⟨m,x,h⟩:=bs h
   refine ziy [] (sR a b c d e (f||(!m)) []) [22] [0,1,2,3,4,5,6,7,8,9,10,11,12,13,14,15,16,17,18,19,20,21] [(37,_),(36,_),(35,_),(34,_),(33,_),(32,_),(31,_),(30,_),(29,_),(28,_),(27,_),(26,_),(25,_),(24,_),(23,_),(22,_),(21,_),(20,_),(19,_),(18,_),(17,_),(16,_)] 1 (zcC (z:=by exact ⟨(fun _ _=>⟨_,y,y,sc [0] (args:=[.mpt 0 0 0,bA m]) (zk a b c d e f m y) y y y y ⟨(.mpt y),(rnI y),t⟩ ⟨⟨_,y,(zr3 y)⟩,t⟩<|⟨(.tup []),[],[(38,_)],y,y,y,y,zdg (z:=zaE [.old 0])⟩⟩),t⟩)) ?_
   obtain rfl:=sm h
   exact ⟨_,y,zab [.old 0]⟩
  ·replace h:=bF l h
   refine ziy [] (sR a b c d e (f||(!false)) []) [22] [0,1,2,3,4,5,6,7,8,9,10,11,12,13,14,15,16,17,18,19,20,21] [(37,_),(36,_),(35,_),(34,_),(33,_),(32,_),(31,_),(30,_),(29,_),(28,_),(27,_),(26,_),(25,_),(24,_),(23,_),(22,_),(21,_),(20,_),(19,_),(18,_),(17,_),(16,_)] 1 (zcC (z:=by exact ⟨(fun _ _=>⟨_,y,y,sc [0] (args:=[.mpt 0 0 0,bA false]) (zk a b c d e f false y) y y y y ⟨(.mpt y),(rnI y),t⟩ ⟨⟨_,y,(zr3 y)⟩,t⟩<|⟨(.tup []),[],[(38,_)],y,y,y,y,zdg (z:=zaE [.old 0])⟩⟩),t⟩)) ?_
   obtain rfl:=sm h
   exact ⟨_,y,zab [.old 0]⟩
 ·replace h:=bF j h
  refine ziy [] (sR a b c d e (f||(!false)) []) [22] [21,20,19,18,17,16,15,14,13,12,11,10,9,8,7,6,5,4,3,2,1,0] [(37,bA false),(36,.lit undef),(35,.lit undef),(34,.lit undef),(33,.lit undef),(32,.lit undef),(31,.lit undef),(30,.lit undef),(29,.lit undef),(28,bA false),(27,bA false),(26,.lit undef),(25,.lit undef),(24,.lit undef),(23,.lit undef),(22,.lit undef),(21,.lit undef),(20,.lit undef),(19,.lit undef),(18,bA i.2),(17,bA i.2),(16,.mpt 0 0 0)] 1 (zC6 ⟨(fun _ _=>⟨_,y,y,sc [0] (args:=[.mpt 0 0 0,bA false]) (zk a b c d e f false y) y y y y ⟨(.mpt y),(rnI y),t⟩ ⟨⟨_,y,(zr3 y)⟩,t⟩<|⟨(.tup []),[],[(38,.tup [])],y,y,kz,y,zCv (zp [.old 0])⟩⟩),t⟩) ?_
  obtain rfl:=sm h
  exact ⟨_,y,zab [.old 0]⟩
def zdK(a:zgv):Option (T1×T1):=
  (zfY 16 ([]:T1) a.locals).bind fun b=>(zfY 16 ([]:T1) a.stack).bind fun c=>some (b,c)
theorem ziE(c:zgv){r:T1×T1}(h:zdK c=some r):SC Tryz.prog 209 [.agg (zvb c)] [] (.agg [.msl 0 0 (length r.1),.msl 1 0 (length r.2)]) [.many 1 (map zt r.1),.many 1 (map zt r.2)]:=by
 refine ⟨⟨zgu (sz:=1) (fun _=>y),zgu (sz:=1) (fun _=>y),t⟩,zP Tryz.func209 y kz y ?_⟩
 unfold zdK at h
 refine A ?_
 obtain ⟨a,d,h⟩:=bs h
 obtain ⟨b,e,h⟩:=bs h
 refine rdA [(2,.mpt 0 0 0)] [some (2,[[.msl 1 0 (length a),.msl 2 0 (length b)]]),some (1,map zt a),some (1,map zt b)] [2,5,7] [0,1,3,4] [(7,_),(6,_),(4,_),(3,_)] 3 (zcC (z:=by exact ⟨(fun _ _=>⟨_,y,y,apN (f:=zt) 2 ti y ti y y (by decide) ti y y y roI (fun _=>y) y d<|⟨(.msl 2 0 (length a)),[],[(5,_)],y,y,y,y,zcC (z:=by exact ⟨nv,(fun _ _=>⟨_,y,y,apN (f:=zt) 3 ti y ti y y (by decide) ti y y y roI (fun _=>y) y e<|⟨(.msl 3 0 (length b)),[6],[(9,_),(8,_)],y,y,y,y,zcC (z:=by exact ⟨nv,nv,(fun _ _=>⟨_,y,y,sto ti y y y<|⟨.any,[],[],y,y,y,t,zdg (z:=zaE [.old 1,.old 2,.old 3])⟩⟩),t⟩)⟩⟩),nw,t⟩)⟩⟩),nw,nw,t⟩)) ?_
 refine zD ?_
 obtain rfl:=sm h
 exact ⟨_,y,zxW [.old 1,.old 2]⟩
def zeq(c:List za)(f:T0)(i:zb)(j:T1)(l:T1)(b:Bool)(m:Int)(n:T1)(o:T1):Option (Bool):=
  (zc6 c f i j l b m).bind fun a=>cond a.2 ((zcb c n a.1.Locals).bind fun d=>cond d ((zcb c o a.1.Stack).bind fun e=>some (b||(!e))) (some (b||(!false)))) (some (b||(!false)))
theorem zjL(a:List za)(c:T0)(d:zb)(e:T1)(f:T1)(i:Bool)(q:Int)(s:T1)(j:T1){r:Bool}(h:zeq a c d e f i q s j=some r):SC Tryz.prog 208 [.mpt 0 0 0,iA q,.isl 1 (map zt s),.msl 1 0 (length j)] (tR a c d e f i [.many 1 (map zt j)]) (.tup []) (tR a c d e f r [.many 1 (map zt j)]):=by
 refine ⟨⟨t,zgu (sz:=1) (fun _=>y),t⟩,zP Tryz.func208 y kz y ?_⟩
 obtain ⟨l,v,h⟩:=bs h
 refine A ?_
 refine u<|sx [0] (zft a c d e f i q v)<|zv (env0:=[(0,.mpt 0 0 0),(2,.isl 1 (map zt s)),(3,.msl 1 0 (length j)),(13,.tup [.agg (zx l.1),bA l.2])]) (st0:=(sR a c d e f i [some (1,map zt j)])) (zp [.old 0,.old 1])<|A ?_
 rcases bb l.2 with n |n
 ·replace h:=bT n h
  obtain ⟨p,B,h⟩:=bs h
  rcases bb p with m |m
  ·replace h:=bT m h
   obtain ⟨o,x,h⟩:=bs h
   refine ziy [] (sR a c d e f (i||(!o)) [some (1,map zt j)]) [22] [0,1,2,3,4,5,6,7,8,9,10,11,12,13,14,15,16,17,18,19,20,21] [(37,_),(36,_),(35,_),(34,_),(33,_),(32,_),(31,_),(30,_),(29,_),(28,_),(27,_),(26,_),(25,_),(24,_),(23,_),(22,_),(21,_),(20,_),(19,_),(18,_),(17,_),(16,_)] 1 (zcC ⟨peC,peC,peC,peC,peC,peC,peC,peC,peC,peC,peC,peC,peC,peC,peC,peC,peC,peC,peC,peC,(by exact fun _=>pag (b:=p) y y y y m y (pcs (zia a j l.1.Stack x) y y (.cons (si y) (.cons (zgK y (fun _=>y)) (.cons (si y) .nil))) zbF<|w)),peC,t⟩ (by exact ⟨(fun _ _=>⟨_,y,y,sc [0] (args:=[.mpt 0 0 0,bA o]) (zk a c d e f i o y) y y y y ⟨(.mpt y),(rnI y),t⟩ ⟨⟨_,y,(zr3 y)⟩,t⟩<|⟨(.tup []),[],[(38,_)],y,y,y,y,zdg (z:=zaE [.old 0,.old 1])⟩⟩),t⟩)) ?_
   obtain rfl:=sm h
   exact ⟨_,y,zab [.old 0,.old 1]⟩
  ·replace h:=bF m h
   refine ziy [] (sR a c d e f (i||(!false)) [some (1,map zt j)]) [22] [0,1,2,3,4,5,6,7,8,9,10,11,12,13,14,15,16,17,18,19,20,21] [(37,_),(36,_),(35,_),(34,_),(33,_),(32,_),(31,_),(30,_),(29,_),(28,_),(27,_),(26,_),(25,_),(24,_),(23,_),(22,_),(21,_),(20,_),(19,_),(18,_),(17,_),(16,_)] 1 (zcC (z:=by exact ⟨(fun _ _=>⟨_,y,y,sc [0] (args:=[.mpt 0 0 0,bA false]) (zk a c d e f i false y) y y y y ⟨(.mpt y),(rnI y),t⟩ ⟨⟨_,y,(zr3 y)⟩,t⟩<|⟨(.tup []),[],[(38,_)],y,y,y,y,zdg (z:=zaE [.old 0,.old 1])⟩⟩),t⟩)) ?_
   obtain rfl:=sm h
   exact ⟨_,y,zab [.old 0,.old 1]⟩
 ·replace h:=bF n h
  refine ziy [] (sR a c d e f (i||(!false)) [some (1,map zt j)]) [22] [21,20,19,18,17,16,15,14,13,12,11,10,9,8,7,6,5,4,3,2,1,0] [(37,bA false),(36,.lit undef),(35,.lit undef),(34,.lit undef),(33,.lit undef),(32,.lit undef),(31,.lit undef),(30,.lit undef),(29,.lit undef),(28,bA false),(27,bA false),(26,.lit undef),(25,.lit undef),(24,.lit undef),(23,.lit undef),(22,.lit undef),(21,.lit undef),(20,.lit undef),(19,.lit undef),(18,bA l.2),(17,bA l.2),(16,.mpt 0 0 0)] 1 (zC6 ⟨(fun _ _=>⟨_,y,y,sc [0] (args:=[.mpt 0 0 0,bA false]) (zk a c d e f i false y) y y y y ⟨(.mpt y),(rnI y),t⟩ ⟨⟨_,y,(zr3 y)⟩,t⟩<|⟨(.tup []),[],[(38,.tup [])],y,y,kz,y,zCv (zp [.old 0,.old 1])⟩⟩),t⟩) ?_
  obtain rfl:=sm h
  exact ⟨_,y,zab [.old 0,.old 1]⟩
def zkK(a:Bool):Option (Bool):=
  some a
def zec(a:Int)(b:Bool):Option (Sum (Bool×Int) (Sum (Bool) (Bool))):=
  some (.inl (b,(IntKind.i64.wrap (a+1))))
def zcQ(f:List za)(m:T0)(n:zb)(i:T1)(o:T1)(j:Int)(b:Bool)(c:Int)(a:zan)(d:T0):Option (Sum (Bool×Int) (Sum (Bool) (Bool))):=
  (zeV f d [84,104,114,111,119,110]).bind fun e=>cond ((decide (a.From≤j))&&(decide (j<a.To))) ((zeq f m n i o (b||(!e)) a.At i [d]).bind fun l=>zec c l) (zec c (b||(!e)))
def zbM(e:List za)(f:T0)(d:zb)(i:T1)(j:T1)(l:Int)(c:Bool)(a:Int):Option (Sum (Bool×Int) (Sum (Bool) (Bool))):=
  cond (decide (a<(length d.Traps:Int))) ((idx d.Traps a).bind fun b=>cond (b.C == []) (zcQ e f d i j l c a b [84,104,114,111,119,110]) (zcQ e f d i j l c a b b.C)) (some (.inr (.inl c)))
def zbX(a:List za)(c:T0)(d:zb)(e:T1)(f:T1)(i:Bool)(j:Int):Option (Bool):=
  (zs (fun z=>zbM a c d e f j z.1 z.2) (i,0)).bind fun o=>zQ o (fun b=>zkK b) some
theorem zkL(a:List za)(d:T0)(e:zb)(c:T1)(f:T1)(x:Bool)(m:Int){r:Bool}(h:zbX a d e c f x m=some r):SC Tryz.prog 210 [.mpt 0 0 0,iA m] (tR a d e c f x []) (.tup []) (tR a d e c f r []):=by
 refine ⟨⟨t,t⟩,zP Tryz.func210 y kz y ?_⟩
 refine A ?_
 obtain ⟨o,ho,h⟩:=bs h
 refine lpB ho (fun z=>[(0,.mpt 0 0 0),(1,iA m),(4,iA z.2)]) (fun z=>(sR a d e c f z.1 [])) (fun b=>[]) (fun b=>(sR a d e c f b [])) (fun r env st=>zj8 Tryz.prog Tryz.f210 1 (.tup []) (sR a d e c f r []) env st) (zaE [.old 0]) ?_ ?_
 ·rintro ⟨i,j⟩ r h
  refine zf<|A ?_
  refine zeh h y (fun B h=>?_) fun B h=>?_
  ·refine ze ?_
   refine zaA (X:=Bool) (fun z=>[(0,.mpt 0 0 0),(1,iA m),(4,iA j)]) (fun z=>(sR a d e c f z [])) (fun z=>zec j z=some r) ?_ ?_
   ·refine zj ?_
    obtain ⟨l,H,h⟩:=bs h
    refine A ?_
    refine A ?_
    refine zaA (X:=T0) (fun z=>[(0,.mpt 0 0 0),(1,iA m),(4,iA j),(5,.mpt 1 0 0),(6,sA z)]) (fun z=>(sR a d e c f i [some (4,[(zap l)])])) (fun z=>zcQ a d e c f m i j l z=some r) ?_ ?_
    ·refine A ?_
     refine zeh h y (fun s h=>?_) fun s h=>?_
     ·refine A ?_
      exact (⟨[84,104,114,111,119,110],h,zp [.old 0,.old 1]⟩)
     ·refine ze ?_
      exact ⟨l.C,h,zp [.old 0,.old 1]⟩
    ·rintro p h
     obtain ⟨n,D,h⟩:=bs h
     refine rg y<|u<|mv y<|u<|mv y<|u<|nc y y<|u<|fa ti y y y<|u<|ld ti y y<|u<|mv y<|u<|pc (zic a p [84,104,114,111,119,110] D) y y y<|u<|sx [0] (zk a d e c f i n y)<|zv (env0:=[(0,.mpt 0 0 0),(1,iA m),(4,iA j),(5,.mpt 1 0 0),(6,sA p)]) (st0:=(sR a d e c f (i||(!n)) [some (4,[(zap l)])])) (zp [.old 0,.old 1])<|zn ?_
     refine A ?_
     refine zeh h y (fun v h=>?_) fun v h=>?_
     ·obtain ⟨q,E,h⟩:=bs h
      refine ziy [(0,_),(1,_),(4,_)] (sR a d e c f q []) [9,10] [0,1,2,3,4,5,6,7,8] [(55,_),(54,_),(53,_),(52,_),(51,_),(50,_),(49,_),(48,_),(47,_)] 2 (zcC (z:=by exact ⟨(fun _ _=>⟨_,y,y,bl 2 ti y ti y (by decide) (by decide) y y y<|⟨(.msl 2 0 1),[],[(56,_)],y,y,y,y,zcC (z:=by exact ⟨nv,(fun _ _=>⟨_,y,y,sx [0,2] (zjL a d e c f (i||(!n)) l.At c [p] E)<|⟨(.tup []),[],[(57,_)],y,y,y,y,zdg (z:=zaE [.old 0])⟩⟩),t⟩)⟩⟩),nw,t⟩)) ?_
      exact ⟨q,h,zp [.old 0]⟩
     ·refine ze ?_
      exact ⟨(i||(!n)),h,zp [.old 0]⟩
   ·rintro F h
    refine A ?_
    obtain rfl:=sm h
    exact ⟨_,y,zp [.old 0]⟩
  ·refine zy ?_
   obtain rfl:=sm h
   exact ⟨y,_,y,zp [.old 0]⟩
 ·rintro G rfl
  refine zu ?_
  obtain rfl:=sm h
  exact ⟨_,y,zab [.old 0]⟩
def zad(e:List za)(f:T0)(i:zb)(j:T1)(a:T1)(b:Bool):Option (T0×T1×Bool):=
  cond ((length a:Int) == (0:Int)) (some ([78],a,true)) ((idx a (IntKind.i64.wrap ((length a:Int)-1))).bind fun c=>(zhs a 0 (IntKind.i64.wrap ((length a:Int)-1))).bind fun d=>some (c,d,b))
theorem zas(c:List za)(d:T0)(e:zb)(f:T1)(i:T1)(j:Bool){r:T0×T1×Bool}(h:zad c d e f i j=some r):SC Tryz.prog 345 [.mpt 0 0 0] (tR c d e f i j []) (sA r.1) (tR c d e f r.2.1 r.2.2 []):=by
 refine ⟨⟨t,t⟩,zP Tryz.func345 y kz y ?_⟩
 refine A ?_
 refine A ?_
 refine zf<|A ?_
 refine zeh h y (fun l h=>?_) fun l h=>?_
 ·refine A ?_
  refine A ?_
  exact RT1
 ·refine ze ?_
  obtain ⟨n,o,h⟩:=bs h
  refine A ?_
  obtain ⟨p,m,h⟩:=bs h
  refine A ?_
  refine u<|slI (a:=0) (b:=(IntKind.i64.wrap ((length i:Int)-1))) ti y ti y y y (zjZ y m) m<|A ?_
  refine A ?_
  exact RT1
def zlr(a:T1)(b:Bool):Option (T1×Bool):=
  some (a,b)
def zaL(e:List za)(j:T0)(l:zb)(m:T1)(n:T1)(c:T1)(d:Bool)(a:Int):Option (Sum (T1×Bool×Int) (Sum (T1×Bool) (T1×Bool))):=
  cond (decide (0≤a)) ((idx n a).bind fun f=>(zad e j l m c d).bind fun b=>(zbo e b.1 f).bind fun i=>some (.inl (b.2.1,(b.2.2||(!i)),(IntKind.i64.wrap (a-1))))) (some (.inr (.inl (c,d))))
def zR(c:List za)(d:T0)(e:zb)(f:T1)(i:T1)(j:Bool)(a:T1):Option (T1×Bool):=
  (zs (fun z=>zaL c d e f a z.1 z.2.1 z.2.2) (i,j,(IntKind.i64.wrap ((length a:Int)-1)))).bind fun o=>zQ o (fun b=>zlr b.1 b.2) some
theorem zS(a:List za)(c:T0)(d:zb)(e:T1)(l:T1)(m:Bool)(j:T1){r:T1×Bool}(h:zR a c d e l m j=some r):SC Tryz.prog 292 [.mpt 0 0 0,.isl 1 (map zt j)] (tR a c d e l m []) (.tup []) (tR a c d e r.1 r.2 []):=by
 refine ⟨⟨t,t⟩,zP Tryz.func292 y kz y ?_⟩
 refine A ?_
 obtain ⟨o,ho,h⟩:=bs h
 refine lpB ho (fun z=>[(0,.mpt 0 0 0),(1,.isl 1 (map zt j)),(4,iA z.2.2)]) (fun z=>(sR a c d e z.1 z.2.1 [])) (fun b=>[]) (fun b=>(sR a c d e b.1 b.2 [])) (fun r env st=>zj8 Tryz.prog Tryz.f292 1 (.tup []) (sR a c d e r.1 r.2 []) env st) (zaE [.old 0]) ?_ ?_
 ·rintro ⟨n,p,v⟩ r h
  refine zf<|A ?_
  refine zeh h y (fun q h=>?_) fun q h=>?_
  ·refine ze<|zf<|zj ?_
   obtain ⟨x,D,f,s,i,E,h⟩:=bs3 h
   refine ziy [(0,_),(1,_),(4,_)] (sR a c d e f.2.1 (f.2.2||(!i)) []) [6,12] [0,1,2,3,4,5,7,8,9,10] [(22,_),(21,_),(20,_),(19,_),(17,_),(16,_),(15,_),(14,_),(13,_),(12,_)] 2 (zcC (z:=by exact ⟨(fun _ _=>⟨_,y,y,sx [0] (zas a c d e n p s)<|⟨(sA f.1),[11],[(23,_),(18,_)],y,y,y,y,zcC (z:=by exact ⟨nv,(fun _ _=>⟨_,y,y,sx [0] (zk a c d e f.2.1 f.2.2 i y)<|⟨(.tup []),[],[(24,_)],y,y,y,y,zdg (z:=zaE [.old 0])⟩⟩),t⟩)⟩⟩),nw,t⟩)) ?_
   refine A ?_
   obtain rfl:=sm h
   exact ⟨_,y,zp [.old 0]⟩
  ·refine zy ?_
   obtain rfl:=sm h
   exact ⟨y,_,y,zp [.old 0]⟩
 ·rintro ⟨B,C⟩ rfl
  refine zu ?_
  obtain rfl:=sm h
  exact ⟨_,y,zab [.old 0]⟩
def zN(i:List za)(j:T0)(b:zb)(l:T1)(c:T1)(d:Bool)(e:T0):Option (T1×Bool):=
  (zfY 16 ([]:T1) c).bind fun f=>(zfY 16 f [e]).bind fun a=>some (a,(d||(!(decide ((length a:Int)≤b.Stack)))))
theorem zK(b:List za)(c:T0)(a:zb)(d:T1)(l:T1)(e:Bool)(j:T0){r:T1×Bool}(h:zN b c a d l e j=some r):SC Tryz.prog 293 [.mpt 0 0 0,sA j] (tR b c a d l e []) (.tup []) (tR b c a d r.1 r.2 []):=by
 refine ⟨⟨t,t⟩,zP Tryz.func293 y kz y ?_⟩
 obtain ⟨o,m,i,n,h⟩:=bs2 h
 refine A ?_
 refine u<|apN (f:=zt) 1 ti y ti y y (by decide) ti y y y roI (fun _=>y) y m<|A ?_
 refine u<|apM 3 ti y ti y y (by decide) ti y y y y (roX (f:=zt) (z:=[j]) y y) (fun _=>y) y n<|A ?_
 refine zo5 (env0:=[(0,.mpt 0 0 0)]) (st0:=(sR b c a d i e [])) (zp [.old 0]) ?_
 refine ziy [] (sR b c a d i (e||(!(decide ((length i:Int)≤a.Stack)))) []) [13] [0,1,2,3,4,5,6,7,8,9,10,11,12] [(29,_),(28,_),(27,_),(26,_),(25,_),(24,_),(23,_),(22,_),(21,_),(20,_),(19,_),(18,_),(17,_)] 1 (zcC (z:=by exact ⟨(fun _ _=>⟨_,y,y,sx [0] (zk b c a d i e (decide ((length i:Int)≤a.Stack)) y)<|⟨(.tup []),[],[(30,_)],y,y,y,y,zdg (z:=zaE [.old 0])⟩⟩),t⟩)) ?_
 obtain rfl:=sm h
 exact ⟨_,y,zab [.old 0]⟩
def zbm(b:List za)(c:T0)(d:zb)(e:T1)(f:T1)(i:Bool):Option (T0×T1×Bool):=
  (zad b c d e f i).bind fun a=>some (a.1,a.2.1,(a.2.2||(!(!(a.1 == [73])))))
theorem zbJ(b:List za)(c:T0)(d:zb)(e:T1)(f:T1)(i:Bool){r:T0×T1×Bool}(h:zbm b c d e f i=some r):SC Tryz.prog 346 [.mpt 0 0 0] (tR b c d e f i []) (sA r.1) (tR b c d e r.2.1 r.2.2 []):=by
 refine ⟨⟨t,t⟩,zP Tryz.func346 y kz y ?_⟩
 refine A ?_
 obtain ⟨a,j,h⟩:=bs h
 refine rg y<|u<|mv y<|u<|sx [0] (zas b c d e f i j)<|zv (env0:=[(0,.mpt 0 0 0),(5,sA a.1)]) (st0:=(sR b c d e a.2.1 a.2.2 [])) (zp [.old 0])<|A ?_
 refine A ?_
 refine u<|sx [0] (zk b c d e a.2.1 a.2.2 (!(a.1 == [73])) y)<|zv (env0:=[(3,sA a.1)]) (st0:=(sR b c d e a.2.1 (a.2.2||(!(!(a.1 == [73])))) [])) (zp [.old 0])<|zn ?_
 refine A ?_
 exact RT1
def za5(e:List za)(f:T0)(i:zb)(b:T1)(j:zw)(a:T1)(c:Bool):Option (T1×Bool):=
  (zdF e f i b a c j.A b a).bind fun d=>some (a,d)
def zcv(a:List za)(b:T0)(c:zb)(d:T1)(f:T1)(i:Bool)(e:zw):Option (T1×Bool):=
  cond (decide (e.Op≤26)) ((zR a b c d f i ([[73]])).bind fun n=>za5 a b c d e n.1 n.2) (cond (decide (e.Op≤32)) ((zR a b c d f i ([[73],[73]])).bind fun o=>za5 a b c d e o.1 o.2) (cond (decide (e.Op≤34)) ((zbm a b c d f i).bind fun j=>za5 a b c d e j.2.1 j.2.2) ((zbm a b c d f i).bind fun l=>(zbm a b c d l.2.1 l.2.2).bind fun m=>za5 a b c d e m.2.1 m.2.2)))
theorem zls(b:List za)(c:T0)(d:zb)(a:T1)(f:T1)(i:Bool)(e:zw){r:T1×Bool}(h:zcv b c d a f i e=some r):SC Tryz.prog 294 [.mpt 0 0 0,.agg (zi e)] (tR b c d a f i []) (.tup []) (tR b c d a r.1 r.2 []):=by
 refine ⟨⟨t,t⟩,zP Tryz.func294 y kz y ?_⟩
 refine A ?_
 refine zaA (X:=T1×Bool) (fun z=>[(0,.mpt 0 0 0),(3,.mpt 1 0 0)]) (fun z=>(sR b c d a z.1 z.2 [some (4,[(zi e)])])) (fun z=>za5 b c d a e z.1 z.2=some r) ?_ ?_
 ·refine zj<|A ?_
  refine zeh h y (fun q h=>?_) fun q h=>?_
  ·obtain ⟨o,C,h⟩:=bs h
   refine A ?_
   exact zv (env0:=[(0,.mpt 0 0 0),(3,.mpt 1 0 0),(12,.mpt 0 0 0),(13,.isl 1 (map zt ([[73]])))]) (st0:=(sR b c d a f i [some (4,[(zi e)])])) (zp [.old 0,.old 1])<|u<|sx [0] (zS b c d a f i ([[73]]) C)<|zv (env0:=[(0,.mpt 0 0 0),(3,.mpt 1 0 0)]) (st0:=(sR b c d a o.1 o.2 [some (4,[(zi e)])])) (zp [.old 0,.old 1])<|zn (⟨⟨o.1,o.2⟩,h,zp [.old 0,.old 1]⟩)
  ·refine A ?_
   refine zeh h y (fun s h=>?_) fun s h=>?_
   ·obtain ⟨p,D,h⟩:=bs h
    refine A ?_
    exact zv (env0:=[(0,.mpt 0 0 0),(3,.mpt 1 0 0),(19,.mpt 0 0 0),(20,.isl 1 (map zt ([[73],[73]])))]) (st0:=(sR b c d a f i [some (4,[(zi e)])])) (zp [.old 0,.old 1])<|u<|sx [0] (zS b c d a f i ([[73],[73]]) D)<|zv (env0:=[(0,.mpt 0 0 0),(3,.mpt 1 0 0)]) (st0:=(sR b c d a p.1 p.2 [some (4,[(zi e)])])) (zp [.old 0,.old 1])<|zn (⟨⟨p.1,p.2⟩,h,zp [.old 0,.old 1]⟩)
   ·refine A ?_
    refine zeh h y (fun v h=>?_) fun v h=>?_
    ·obtain ⟨j,E,h⟩:=bs h
     exact rl y<|u<|mv y<|u<|sx [0] (zbJ b c d a f i E)<|zv (env0:=[(0,.mpt 0 0 0),(3,.mpt 1 0 0)]) (st0:=(sR b c d a j.2.1 j.2.2 [some (4,[(zi e)])])) (zp [.old 0,.old 1])<|zn (⟨⟨j.2.1,j.2.2⟩,h,zp [.old 0,.old 1]⟩)
    ·obtain ⟨l,F,h⟩:=bs h
     refine rg y<|u<|mv y<|u<|sx [0] (zbJ b c d a f i F)<|zv (env0:=[(0,.mpt 0 0 0),(3,.mpt 1 0 0)]) (st0:=(sR b c d a l.2.1 l.2.2 [some (4,[(zi e)])])) (zp [.old 0,.old 1])<|zn ?_
     obtain ⟨m,G,h⟩:=bs h
     exact rl y<|u<|mv y<|u<|sx [0] (zbJ b c d a l.2.1 l.2.2 G)<|zv (env0:=[(0,.mpt 0 0 0),(3,.mpt 1 0 0)]) (st0:=(sR b c d a m.2.1 m.2.2 [some (4,[(zi e)])])) (zp [.old 0,.old 1])<|zn (⟨⟨m.2.1,m.2.2⟩,h,zp [.old 0,.old 1]⟩)
 ·rintro ⟨n,x⟩ h
  obtain ⟨B,H,h⟩:=bs h
  refine ziy [] (sR b c d a n B []) [13] [0,1,2,3,4,5,6,7,8,9,10,11,12] [(40,_),(39,_),(38,_),(37,_),(36,_),(35,_),(34,_),(33,_),(32,_),(31,_),(30,_),(29,_),(28,_)] 1 (zcC (z:=by exact ⟨(fun _ _=>⟨_,y,y,sx [0] (zfM b c d a n x e.A a n H)<|⟨(.tup []),[],[(41,_)],y,y,y,y,zdg (z:=zaE [.old 0])⟩⟩),t⟩)) ?_
  obtain rfl:=sm h
  exact ⟨_,y,zab [.old 0]⟩
def zmK:Option (T0×zq×Bool):=
  some ([],(zq.mk [] [] false),false)
def zc5(e:List za)(m:T0)(d:T1)(a:Int):Option (Sum (Int) (Sum (Unit) (T0×zq×Bool))):=
  cond (decide (a<((length d):Int))) ((idx d a).bind fun f=>(zae e f).bind fun i=>(idx e i).bind fun b=>(zi5 b m).bind fun c=>cond (decide (0≤c)) ((idx d a).bind fun j=>(idx b.Fields c).bind fun l=>some (.inr (.inr (j,l,true)))) (some (.inl (IntKind.i64.wrap (a+1))))) (some (.inr (.inl ())))
def zgE(a:List za)(c:T0)(d:T0):Option (T0×zq×Bool):=
  (zbh a c).bind fun e=>(zs (fun z=>zc5 a d e z) 0).bind fun o=>zQ o (fun b=>zmK) some
instance (a:List za)(e:T0)(d:T0):PF Tryz.prog 229 [.ipt 1 [[.isl 6 (map zc a)]] 0 0,sA e,sA d] (zgE a e d) (fun r=>(.tup [sA r.1,.agg (zA r.2.1),bA r.2.2])):=⟨fun r h=>by
 refine zl Tryz.func229 y kz y y<|A ?_
 obtain ⟨c,m,h⟩:=bs h
 refine A ?_
 refine u<|sx [] (zby a e m)<|zv (env0:=[(0,.ipt 1 [[.isl 6 (map zc a)]] 0 0),(2,sA d),(7,.mpt 0 0 0),(15,.msl 1 0 (length c))]) (st0:=[some (3,[[sA [],sA [],bA false]]),some (1,map zt c)]) (zp [.old 0,.old 1])<|A ?_
 refine zf<|A ?_
 obtain ⟨o,ho,h⟩:=bs h
 refine lpB ho (fun z=>[(0,.ipt 1 [[.isl 6 (map zc a)]] 0 0),(2,sA d),(7,.mpt 0 0 0),(9,.msl 1 0 (length c)),(10,iA z)]) (fun z=>[some (3,[[sA [],sA [],bA false]]),some (1,map zt c)]) (fun b=>[(7,.mpt 0 0 0)]) (fun b=>[some (3,[[sA [],sA [],bA false]])]) (pG Tryz.f229 (fun r=>.tup [sA r.1,.agg (zA r.2.1),bA r.2.2])) (zaE [.old 0,.old 1]) ?_ ?_
 ·rintro n r h
  refine zf<|A ?_
  refine zeh h y (fun f h=>?_) fun f h=>?_
  ·refine ze<|zf<|zj ?_
   obtain ⟨p,q,s,v,j,x,h⟩:=bs3 h
   refine rdA [(0,_),(2,_),(7,_),(9,_),(10,_),(11,_)] [some (3,[[sA [],sA [],bA false]]),some (1,map zt c),some (6,[(zc j)])] [12,13] [0,1,2,3,4,5,6,7,8,9,10,11] [(33,_),(32,_),(31,_),(30,_),(29,_),(28,_),(27,_),(26,_),(25,_),(24,_),(23,_),(22,_)] 2 (zcC (z:=by exact ⟨(fun _ _=>⟨_,y,y,al 2 ti y<|⟨(.mpt 2 0 0),[],[(11,_)],y,y,y,y,zcC (z:=by exact ⟨nv,(fun _ _=>⟨_,y,y,sto ti y y y<|⟨.any,[],[],y,y,y,t,zdg (z:=zaE [.old 0,.old 1,.old 2])⟩⟩),t⟩)⟩⟩),nw,t⟩)) ?_
   obtain ⟨B,C,h⟩:=bs h
   refine A ?_
   refine A ?_
   refine zeh h y (fun i h=>?_) fun i h=>?_
   ·obtain ⟨D,E,l,F,h⟩:=bs2 h
    refine rdA [(6,_),(7,_),(8,_)] [some (3,[(zA l)])] [10] [0,1,2,3,4,5,6,7,8,9] [(6,_),(47,_),(46,_),(45,_),(44,_),(43,_),(42,_),(41,_),(40,_),(39,_)] 1 (zcC (z:=by exact ⟨(fun _ _=>⟨_,y,y,sto ti y y y<|⟨.any,[11],[(8,_)],y,y,y,t,zdg (z:=zaE [.old 0])⟩⟩),t⟩)) ?_
    refine zD ?_
    obtain rfl:=sm h
    exact ⟨_,y,_,y,zab []⟩
   ·refine ze<|A ?_
    obtain rfl:=sm h
    exact ⟨_,y,zp [.old 0,.old 1]⟩
  ·refine zy ?_
   obtain rfl:=sm h
   exact ⟨y,_,y,zp [.old 0]⟩
 ·rintro ⟨⟩ rfl
  refine zu<|A ?_
  exact RT0⟩
def zbi(f:List za)(i:T0)(j:zb)(l:T1)(d:zw)(e:T0×zq×Bool)(a:T1)(b:Bool):Option (T1×Bool):=
  cond ((d.Op == (38:Int))||(d.Op == (40:Int))) ((zN f i j l a b e.2.1.Type_).bind fun c=>some (c.1,c.2)) (some (a,b))
def zaB(f:List za)(i:T0)(j:zb)(l:T1)(a:zw)(b:T0×zq×Bool)(c:T1)(d:Bool):Option (T1×Bool):=
  cond ((a.Op == (38:Int))||(a.Op == (39:Int))) ((zR f i j l c d [a.C]).bind fun e=>zbi f i j l a b e.1 e.2) (zbi f i j l a b c d)
def zbW(c:List za)(f:T0)(i:zb)(j:T1)(d:T1)(e:Bool)(a:zw):Option (T1×Bool):=
  (zae c a.C).bind fun n=>cond (decide (n<0)) (some (d,true)) (cond (a.Op == (37:Int)) ((idx c n).bind fun o=>(zN c f i j d (e||(!(!o.Interface))) a.C).bind fun l=>some (l.1,l.2)) ((zgE c a.C a.M).bind fun b=>cond (e||(!(b.2.2&&(b.2.1.Static == ((a.Op == (40:Int))||(a.Op == (41:Int))))))) (some (d,(e||(!(b.2.2&&(b.2.1.Static == ((a.Op == (40:Int))||(a.Op == (41:Int))))))))) (cond ((a.Op == (39:Int))||(a.Op == (41:Int))) ((zR c f i j d (e||(!(b.2.2&&(b.2.1.Static == ((a.Op == (40:Int))||(a.Op == (41:Int))))))) [b.2.1.Type_]).bind fun m=>zaB c f i j a b m.1 m.2) (zaB c f i j a b d (e||(!(b.2.2&&(b.2.1.Static == ((a.Op == (40:Int))||(a.Op == (41:Int)))))))))))
theorem zkG(c:List za)(d:T0)(e:zb)(f:T1)(i:T1)(j:Bool)(b:zw){r:T1×Bool}(h:zbW c d e f i j b=some r):SC Tryz.prog 295 [.mpt 0 0 0,.agg (zi b)] (tR c d e f i j []) (.tup []) (tR c d e f r.1 r.2 []):=by
 refine ⟨⟨t,t⟩,zP Tryz.func295 y kz y ?_⟩
 refine A ?_
 obtain ⟨M,N,h⟩:=bs h
 refine rdA [(0,_),(3,_),(4,_)] (sR c d e f i j [some (4,[(zi b)])]) [] [0,1,2,3,4,5,6,7] [(4,_),(14,_),(13,_),(12,_),(11,_),(10,_),(9,_),(8,_)] 0 (zdg (z:=zaE [.old 0,.old 1])) ?_
 refine zf<|A ?_
 refine zeh h y (fun D h=>?_) fun D h=>?_
 ·refine A ?_
  exact RT1
 ·refine ze<|zf<|A ?_
  refine zeh h y (fun E h=>?_) fun E h=>?_
  ·obtain ⟨s,O,h⟩:=bs h
   refine A ?_
   refine u<|sx [0] (zk c d e f i j (!s.Interface) y)<|zv (env0:=[(0,.mpt 0 0 0),(3,.mpt 1 0 0)]) (st0:=(sR c d e f i (j||(!(!s.Interface))) [some (4,[(zi b)])])) (zp [.old 0,.old 1])<|zn ?_
   obtain ⟨p,L,h⟩:=bs h
   refine A ?_
   refine u<|sx [0] (zK c d e f i (j||(!(!s.Interface))) b.C L)<|zv (env0:=[]) (st0:=(sR c d e f p.1 p.2 [])) (zp [.old 0])<|zn ?_
   exact RT1
  ·refine ze ?_
   obtain ⟨a,P,h⟩:=bs h
   refine rdA [(0,_),(3,_),(6,_),(7,_)] (sR c d e f i j [some (4,[(zi b)]),some (3,[(zA a.2.1)])]) [13,15] [0,1,2,3,4,5,6,7,8,9,10,11,12] [(53,_),(52,_),(51,_),(41,_),(50,_),(49,_),(48,_),(47,_),(46,_),(45,_),(44,_),(43,_),(42,_)] 2 (zcC (z:=by exact ⟨(fun _ _=>⟨_,y,y,al 2 ti y<|⟨(.mpt 2 0 0),[14],[(5,_),(6,_)],y,y,y,y,zcC (z:=by exact ⟨nv,(fun _ _=>⟨_,y,y,sto ti y y y<|⟨.any,[16],[(7,_)],y,y,y,t,zdg (z:=zaE [.old 0,.old 1,.old 2])⟩⟩),t⟩)⟩⟩),nw,t⟩)) ?_
   refine A ?_
   refine u<|sx [0] (zk c d e f i j (a.2.2&&(a.2.1.Static == ((b.Op == (40:Int))||(b.Op == (41:Int))))) y)<|zv (env0:=[(0,.mpt 0 0 0),(3,.mpt 1 0 0),(6,.mpt 2 0 0)]) (st0:=(sR c d e f i (j||(!(a.2.2&&(a.2.1.Static == ((b.Op == (40:Int))||(b.Op == (41:Int))))))) [some (4,[(zi b)]),some (3,[(zA a.2.1)])])) (zp [.old 0,.old 1,.old 2])<|zn ?_
   refine zf<|A ?_
   refine zeh h y (fun F h=>?_) fun F h=>?_
   ·exact RT1
   ·refine ze ?_
    refine zaA (X:=T1×Bool) (fun z=>[(0,.mpt 0 0 0),(3,.mpt 1 0 0),(6,.mpt 2 0 0)]) (fun z=>(sR c d e f z.1 z.2 [some (4,[(zi b)]),some (3,[(zA a.2.1)])])) (fun z=>zaB c d e f b a z.1 z.2=some r) ?_ ?_
    ·refine A ?_
     refine zeh h y (fun v h=>?_) fun v h=>?_
     ·obtain ⟨l,G,h⟩:=bs h
      refine A ?_
      exact zv (env0:=[(0,.mpt 0 0 0),(3,.mpt 1 0 0),(6,.mpt 2 0 0),(82,.mpt 0 0 0),(85,.isl 1 (map zt [a.2.1.Type_]))]) (st0:=(sR c d e f i (j||(!(a.2.2&&(a.2.1.Static == ((b.Op == (40:Int))||(b.Op == (41:Int))))))) [some (4,[(zi b)]),some (3,[(zA a.2.1)])])) (zp [.old 0,.old 1,.old 2])<|u<|sx [0] (zS c d e f i (j||(!(a.2.2&&(a.2.1.Static == ((b.Op == (40:Int))||(b.Op == (41:Int))))))) [a.2.1.Type_] G)<|zv (env0:=[(0,.mpt 0 0 0),(3,.mpt 1 0 0),(6,.mpt 2 0 0)]) (st0:=(sR c d e f l.1 l.2 [some (4,[(zi b)]),some (3,[(zA a.2.1)])])) (zp [.old 0,.old 1,.old 2])<|zn (⟨⟨l.1,l.2⟩,h,zp [.old 0,.old 1,.old 2]⟩)
     ·refine ze ?_
      exact ⟨⟨i,(j||(!(a.2.2&&(a.2.1.Static == ((b.Op == (40:Int))||(b.Op == (41:Int)))))))⟩,h,zp [.old 0,.old 1,.old 2]⟩
    ·rintro ⟨n,o⟩ h
     refine zaA (X:=T1×Bool) (fun z=>[(0,.mpt 0 0 0),(3,.mpt 1 0 0),(6,.mpt 2 0 0)]) (fun z=>(sR c d e f z.1 z.2 [some (4,[(zi b)]),some (3,[(zA a.2.1)])])) (fun z=>zbi c d e f b a z.1 z.2=some r) ?_ ?_
     ·refine A ?_
      refine zeh h y (fun x h=>?_) fun x h=>?_
      ·obtain ⟨m,H,h⟩:=bs h
       refine A ?_
       exact zv (env0:=[(0,.mpt 0 0 0),(3,.mpt 1 0 0),(6,.mpt 2 0 0),(95,.mpt 0 0 0),(98,.isl 1 (map zt [b.C]))]) (st0:=(sR c d e f n o [some (4,[(zi b)]),some (3,[(zA a.2.1)])])) (zp [.old 0,.old 1,.old 2])<|u<|sx [0] (zS c d e f n o [b.C] H)<|zv (env0:=[(0,.mpt 0 0 0),(3,.mpt 1 0 0),(6,.mpt 2 0 0)]) (st0:=(sR c d e f m.1 m.2 [some (4,[(zi b)]),some (3,[(zA a.2.1)])])) (zp [.old 0,.old 1,.old 2])<|zn (⟨⟨m.1,m.2⟩,h,zp [.old 0,.old 1,.old 2]⟩)
      ·refine ze ?_
       exact ⟨⟨n,o⟩,h,zp [.old 0,.old 1,.old 2]⟩
     ·rintro ⟨I,J⟩ h
      refine A ?_
      refine zeh h y (fun B h=>?_) fun B h=>?_
      ·obtain ⟨q,K,h⟩:=bs h
       refine A ?_
       refine u<|sx [0] (zK c d e f I J a.2.1.Type_ K)<|zv (env0:=[]) (st0:=(sR c d e f q.1 q.2 [])) (zp [.old 0])<|zn ?_
       obtain rfl:=sm h
       exact ⟨_,y,zab [.old 0]⟩
      ·refine ze ?_
       obtain rfl:=sm h
       exact ⟨_,y,zab [.old 0]⟩
def zng:Option (T0×zb×Bool):=
  some ([],(zb.mk [] [] [] false false 0 0 [] [] []),false)
def zdD(e:List za)(m:T0)(d:T1)(a:Int):Option (Sum (Int) (Sum (Unit) (T0×zb×Bool))):=
  cond (decide (a<((length d):Int))) ((idx d a).bind fun f=>(zae e f).bind fun i=>(idx e i).bind fun b=>(zgd b m).bind fun c=>cond (decide (0≤c)) ((idx d a).bind fun j=>(idx b.Methods c).bind fun l=>some (.inr (.inr (j,l,true)))) (some (.inl (IntKind.i64.wrap (a+1))))) (some (.inr (.inl ())))
def zhc(a:List za)(c:T0)(e:T0):Option (T0×zb×Bool):=
  (zae a c).bind fun d=>(cond (decide (d<0)) (some true) ((idx a d).bind fun f=>some (!f.Interface))).bind fun i=>cond i (some ([],(zb.mk [] [] [] false false 0 0 [] [] []),false)) ((zfq a c).bind fun j=>(zfY 16 [c] j).bind fun l=>(zs (fun z=>zdD a e l z) 0).bind fun o=>zQ o (fun b=>zng) some)
instance (a:List za)(c:T0)(d:T0):PF Tryz.prog 231 [.ipt 1 [[.isl 6 (map zc a)]] 0 0,sA c,sA d] (zhc a c d) (fun r=>(.tup [sA r.1,.agg (zd r.2.1),bA r.2.2])):=⟨fun r h=>by
 refine zl Tryz.func231 y kz y y<|A ?_
 obtain ⟨K,L,h⟩:=bs h
 refine A ?_
 refine zf ?_
 obtain ⟨M,N,h⟩:=bs h
 refine A ?_
 refine zeh h y (fun m h=>?_) fun m h=>?_
 ·refine A ?_
  exact RT0
 ·refine ze ?_
  obtain ⟨O,q,e,s,h⟩:=bs2 h
  refine A ?_
  refine u<|sx [] (ziA a c q)<|u<|apM (l:=[c]) (f:=zt) 3 ti y ti y y (by decide) ti y y y y (roM y) (fun _=>y) y s<|A ?_
  refine zf<|A ?_
  obtain ⟨o,ho,h⟩:=bs h
  refine lpB ho (fun z=>[(0,.ipt 1 [[.isl 6 (map zc a)]] 0 0),(2,sA d),(7,.mpt 0 0 0),(10,.msl 1 0 (length e)),(11,iA z)]) (fun z=>[some (10,[[sA [],.lit (.slice none 0 0),sA [],bA false,bA false,iA 0,iA 0,.lit (.slice none 0 0),.lit (.slice none 0 0),.lit (.slice none 0 0)]]),some (1,map zt e)]) (fun b=>[(7,.mpt 0 0 0)]) (fun b=>[some (10,[[sA [],.lit (.slice none 0 0),sA [],bA false,bA false,iA 0,iA 0,.lit (.slice none 0 0),.lit (.slice none 0 0),.lit (.slice none 0 0)]])]) (pG Tryz.f231 (fun r=>.tup [sA r.1,.agg (zd r.2.1),bA r.2.2])) (zaE [.old 0,.old 3]) ?_ ?_
  ·rintro v r h
   refine zf<|A ?_
   refine zeh h y (fun i h=>?_) fun i h=>?_
   ·refine ze<|zf<|zj ?_
    obtain ⟨x,B,C,D,n,E,h⟩:=bs3 h
    refine rdA [(0,_),(2,_),(7,_),(10,_),(11,_),(12,_)] [some (10,[[sA [],.lit (.slice none 0 0),sA [],bA false,bA false,iA 0,iA 0,.lit (.slice none 0 0),.lit (.slice none 0 0),.lit (.slice none 0 0)]]),some (1,map zt e),some (6,[(zc n)])] [12,13] [0,1,2,3,4,5,6,7,8,9,10,11] [(54,_),(53,_),(52,_),(51,_),(50,_),(49,_),(48,_),(47,_),(46,_),(45,_),(44,_),(43,_)] 2 (zcC (z:=by exact ⟨(fun _ _=>⟨_,y,y,al 2 ti y<|⟨(.mpt 2 0 0),[],[(12,_)],y,y,y,y,zcC (z:=by exact ⟨nv,(fun _ _=>⟨_,y,y,sto ti y y y<|⟨.any,[],[],y,y,y,t,zdg (z:=zaE [.old 0,.old 1,.old 2])⟩⟩),t⟩)⟩⟩),nw,t⟩)) ?_
    obtain ⟨F,G,h⟩:=bs h
    refine A ?_
    refine A ?_
    refine zeh h y (fun j h=>?_) fun j h=>?_
    ·obtain ⟨H,I,p,J,h⟩:=bs2 h
     refine rdA [(6,_),(7,_),(8,_)] [some (10,[(zd p)])] [10] [0,1,2,3,4,5,6,7,8,9] [(6,_),(68,_),(67,_),(66,_),(65,_),(64,_),(63,_),(62,_),(61,_),(60,_)] 1 (zcC (z:=by exact ⟨(fun _ _=>⟨_,y,y,sto ti y y y<|⟨.any,[11],[(8,_)],y,y,y,t,zdg (z:=zaE [.old 0])⟩⟩),t⟩)) ?_
     refine zD ?_
     obtain rfl:=sm h
     exact ⟨_,y,_,y,zab []⟩
    ·refine ze<|A ?_
     obtain rfl:=sm h
     exact ⟨_,y,zp [.old 0,.old 1]⟩
   ·refine zy ?_
    obtain rfl:=sm h
    exact ⟨y,_,y,zp [.old 0]⟩
  ·rintro ⟨⟩ rfl
   refine zu<|A ?_
   exact RT0⟩

end
end Go.Proofs.YthmnlfenkhmmhaaGreat
