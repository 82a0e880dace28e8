/- VerifyTurn: for every input the law returns true, and each argument reads as it read before. No further condition. Part 5 of 8. -/
import Derived.Test.YthmnlfenkhmmhaaGreatTv4
namespace Go.Proofs.YthmnlfenkhmmhaaGreat
noncomputable section
open List (length map)
set_option linter.unusedSimpArgs false
set_option linter.unusedVariables false
set_option maxRecDepth 100000
set_option maxHeartbeats 4000000
set_option linter.unusedSectionVars false
variable [Flo]
def zl4:Option (T0×zb×Bool):=
  some ([],(zb.mk [] [] [] false false 0 0 [] [] []),false)
def zcr(e:List za)(f:T0)(d:T1)(a:Int):Option (Sum (Int) (Sum (Unit) (T0×zb×Bool))):=
  cond (decide (a<((length d):Int))) ((idx d a).bind fun i=>(zae e i).bind fun j=>(idx e j).bind fun b=>(zgd b f).bind fun c=>cond ((decide (0≤c))&&(!(f == [36,105,110,105,116]))) ((idx d a).bind fun l=>(idx b.Methods c).bind fun m=>some (.inr (.inr (l,m,true)))) (some (.inl (IntKind.i64.wrap (a+1))))) (some (.inr (.inl ())))
def zf5(a:List za)(c:T0)(d:T0):Option (T0×zb×Bool):=
  (zbh a c).bind fun e=>(zs (fun z=>zcr a d e z) 0).bind fun o=>zQ o (fun b=>zl4) some
instance (a:List za)(e:T0)(d:T0):PF Tryz.prog 125 [.ipt 1 [[.isl 6 (map zc a)]] 0 0,sA e,sA d] (zf5 a e d) (fun r=>(.tup [sA r.1,.agg (zd r.2.1),bA r.2.2])):=⟨fun r h=>by
 refine zl Tryz.func125 y kz y y<|A ?_
 obtain ⟨c,m,h⟩:=bs h
 refine A ?_
 refine u<|sx [] (zby a e m)<|zv (env0:=[(0,.ipt 1 [[.isl 6 (map zc a)]] 0 0),(2,sA d),(7,.mpt 0 0 0),(15,.msl 1 0 (length c))]) (st0:=[some (10,[[sA [],.lit (.slice none 0 0),sA [],bA false,bA false,iA 0,iA 0,.lit (.slice none 0 0),.lit (.slice none 0 0),.lit (.slice none 0 0)]]),some (1,map zt c)]) (zp [.old 0,.old 1])<|A ?_
 refine zf<|A ?_
 obtain ⟨o,ho,h⟩:=bs h
 refine lpB ho (fun z=>[(0,.ipt 1 [[.isl 6 (map zc a)]] 0 0),(2,sA d),(7,.mpt 0 0 0),(9,.msl 1 0 (length c)),(10,iA z)]) (fun z=>[some (10,[[sA [],.lit (.slice none 0 0),sA [],bA false,bA false,iA 0,iA 0,.lit (.slice none 0 0),.lit (.slice none 0 0),.lit (.slice none 0 0)]]),some (1,map zt c)]) (fun b=>[(7,.mpt 0 0 0)]) (fun b=>[some (10,[[sA [],.lit (.slice none 0 0),sA [],bA false,bA false,iA 0,iA 0,.lit (.slice none 0 0),.lit (.slice none 0 0),.lit (.slice none 0 0)]])]) (pG Tryz.f125 (fun r=>.tup [sA r.1,.agg (zd r.2.1),bA r.2.2])) (zaE [.old 0,.old 1]) ?_ ?_
 ·rintro n r h
  refine zf<|A ?_
  refine zeh h y (fun f h=>?_) fun f h=>?_
  ·refine ze<|zf<|zj ?_
   obtain ⟨p,q,s,v,j,x,h⟩:=bs3 h
   refine rdA [(0,_),(2,_),(7,_),(9,_),(10,_),(11,_)] [some (10,[[sA [],.lit (.slice none 0 0),sA [],bA false,bA false,iA 0,iA 0,.lit (.slice none 0 0),.lit (.slice none 0 0),.lit (.slice none 0 0)]]),some (1,map zt c),some (6,[(zc j)])] [12,13] [0,1,2,3,4,5,6,7,8,9,10,11] [(33,_),(32,_),(31,_),(30,_),(29,_),(28,_),(27,_),(26,_),(25,_),(24,_),(23,_),(22,_)] 2 (zcC (z:=by exact ⟨(fun _ _=>⟨_,y,y,al 2 ti y<|⟨(.mpt 2 0 0),[],[(11,_)],y,y,y,y,zcC (z:=by exact ⟨nv,(fun _ _=>⟨_,y,y,sto ti y y y<|⟨.any,[],[],y,y,y,t,zdg (z:=zaE [.old 0,.old 1,.old 2])⟩⟩),t⟩)⟩⟩),nw,t⟩)) ?_
   obtain ⟨B,C,h⟩:=bs h
   refine A ?_
   refine A ?_
   refine zeh h y (fun i h=>?_) fun i h=>?_
   ·obtain ⟨D,E,l,F,h⟩:=bs2 h
    refine rdA [(6,_),(7,_),(8,_)] [some (10,[(zd l)])] [10] [0,1,2,3,4,5,6,7,8,9] [(6,_),(51,_),(50,_),(49,_),(48,_),(47,_),(46,_),(45,_),(44,_),(43,_)] 1 (zcC (z:=by exact ⟨(fun _ _=>⟨_,y,y,sto ti y y y<|⟨.any,[11],[(8,_)],y,y,y,t,zdg (z:=zaE [.old 0])⟩⟩),t⟩)) ?_
    refine zD ?_
    obtain rfl:=sm h
    exact ⟨_,y,_,y,zab []⟩
   ·refine ze<|A ?_
    obtain rfl:=sm h
    exact ⟨_,y,zp [.old 0,.old 1]⟩
  ·refine zy ?_
   obtain rfl:=sm h
   exact ⟨y,_,y,zp [.old 0]⟩
 ·rintro ⟨⟩ rfl
  refine zu<|A ?_
  exact RT0⟩
def za4(e:List za)(f:T0)(i:zb)(j:T1)(a:zb)(b:T1)(c:Bool):Option (T1×Bool):=
  cond (!(a.Ret == [86])) ((zN e f i j b c a.Ret).bind fun d=>some (d.1,d.2)) (some (b,c))
def zaK(b:List za)(c:T0)(f:zb)(i:T1)(o:T1)(m:Bool)(n:zw)(d:zb)(p:T0)(j:Bool):Option (T1×Bool):=
  cond (m||(!j)) (some (o,(m||(!j)))) ((zR b c f i o (m||(!j)) d.Params).bind fun e=>cond (!(n.Op == (42:Int))) ((zad b c f i e.1 e.2).bind fun a=>(zbo b a.1 n.C).bind fun l=>cond (n.Op == (44:Int)) ((zbh b c).bind fun q=>(ziD q p).bind fun s=>cond s ((zbo b a.1 c).bind fun v=>za4 b c f i d a.2.1 ((a.2.2||(!l))||(!v))) (za4 b c f i d a.2.1 ((a.2.2||(!l))||(!false)))) (za4 b c f i d a.2.1 (a.2.2||(!l)))) (za4 b c f i d e.1 e.2))
def zdE(c:List za)(e:T0)(f:zb)(i:T1)(j:T1)(l:Bool)(a:zw):Option (T1×Bool):=
  cond (a.Op == (45:Int)) ((zhc c a.C a.M).bind fun d=>zaK c e f i j l a d.2.1 d.1 d.2.2) ((zf5 c a.C a.M).bind fun b=>zaK c e f i j l a b.2.1 b.1 ((b.2.2&&(b.2.1.Static == (a.Op == (42:Int))))&&(!b.2.1.Abstract)))
theorem zlq(b:List za)(c:T0)(d:zb)(e:T1)(o:T1)(p:Bool)(j:zw){r:T1×Bool}(h:zdE b c d e o p j=some r):SC Tryz.prog 296 [.mpt 0 0 0,.agg (zi j)] (tR b c d e o p []) (.tup []) (tR b c d e r.1 r.2 []):=by
 refine ⟨⟨t,t⟩,zP Tryz.func296 y kz y ?_⟩
 refine A ?_
 refine A ?_
 refine A ?_
 refine zaA (X:=zb×T0×Bool) (fun z=>[(0,.mpt 0 0 0),(3,.mpt 1 0 0),(4,.mpt 2 0 0),(5,sA z.2.1),(6,bA z.2.2)]) (fun z=>(sR b c d e o p [some (4,[(zi j)]),some (10,[(zd z.1)])])) (fun z=>zaK b c d e o p j z.1 z.2.1 z.2.2=some r) ?_ ?_
 ·refine A ?_
  refine zeh h y (fun H h=>?_) fun H h=>?_
  ·obtain ⟨C,S,h⟩:=bs h
   refine ziy [(0,_),(3,_),(4,_),(5,_),(6,_)] (sR b c d e o p [some (4,[(zi j)]),some (10,[(zd C.2.1)])]) [14] [0,1,2,3,4,5,6,7,8,9,10,11,12,13] [(5,_),(23,_),(22,_),(21,_),(11,_),(20,_),(19,_),(18,_),(17,_),(16,_),(15,_),(14,_),(13,_),(12,_)] 1 (zcC (z:=by exact ⟨(fun _ _=>⟨_,y,y,sto ti y y y<|⟨.any,[15],[(6,_)],y,y,y,t,zdg (z:=zaE [.old 0,.old 1,.old 2])⟩⟩),t⟩)) ?_
   exact ⟨⟨C.2.1,C.1,C.2.2⟩,h,zp [.old 0,.old 1,.old 2]⟩
  ·obtain ⟨x,T,h⟩:=bs h
   refine rdA [(0,_),(3,_),(4,_),(5,_),(6,_)] (sR b c d e o p [some (4,[(zi j)]),some (10,[(zd x.2.1)])]) [14] [0,1,2,3,4,5,6,7,8,9,10,11,12,13] [(5,_),(36,_),(35,_),(34,_),(24,_),(33,_),(32,_),(31,_),(30,_),(29,_),(28,_),(27,_),(26,_),(25,_)] 1 (zcC (z:=by exact ⟨(fun _ _=>⟨_,y,y,sto ti y y y<|⟨.any,[15],[(6,_)],y,y,y,t,zdg (z:=zaE [.old 0,.old 1,.old 2])⟩⟩),t⟩)) ?_
   refine A ?_
   exact (⟨⟨x.2.1,x.1,((x.2.2&&(x.2.1.Static == (j.Op == (42:Int))))&&(!x.2.1.Abstract))⟩,h,zp [.old 0,.old 1,.old 2]⟩)
 ·rintro ⟨f,l,B⟩ h
  refine A ?_
  refine u<|sx [0] (zk b c d e o p B y)<|zv (env0:=[(0,.mpt 0 0 0),(3,.mpt 1 0 0),(4,.mpt 2 0 0),(5,sA l)]) (st0:=(sR b c d e o (p||(!B)) [some (4,[(zi j)]),some (10,[(zd f)])])) (zp [.old 0,.old 1,.old 2])<|zn ?_
  refine zf<|A ?_
  refine zeh h y (fun I h=>?_) fun I h=>?_
  ·exact RT1
  ·refine ze ?_
   obtain ⟨m,O,h⟩:=bs h
   refine A ?_
   refine u<|sx [0] (zS b c d e o (p||(!B)) f.Params O)<|zv (env0:=[(0,.mpt 0 0 0),(3,.mpt 1 0 0),(4,.mpt 2 0 0),(5,sA l)]) (st0:=(sR b c d e m.1 m.2 [some (4,[(zi j)]),some (10,[(zd f)])])) (zp [.old 0,.old 1,.old 2])<|zn ?_
   refine zaA (X:=T1×Bool) (fun z=>[(0,.mpt 0 0 0),(4,.mpt 1 0 0)]) (fun z=>(sR b c d e z.1 z.2 [some (10,[(zd f)])])) (fun z=>za4 b c d e f z.1 z.2=some r) ?_ ?_
   ·refine A ?_
    refine zeh h y (fun J h=>?_) fun J h=>?_
    ·obtain ⟨a,P,h⟩:=bs h
     refine rg y<|u<|mv y<|u<|sx [0] (zas b c d e m.1 m.2 P)<|zv (env0:=[(0,.mpt 0 0 0),(3,.mpt 1 0 0),(4,.mpt 2 0 0),(5,sA l),(66,sA a.1)]) (st0:=(sR b c d e a.2.1 a.2.2 [some (4,[(zi j)]),some (10,[(zd f)])])) (zp [.old 0,.old 1,.old 2])<|A ?_
     obtain ⟨i,Q,h⟩:=bs h
     refine rdA [(0,_),(3,_),(4,_),(5,_),(7,_)] (sR b c d e a.2.1 (a.2.2||(!i)) [some (4,[(zi j)]),some (10,[(zd f)])]) [9] [0,1,2,3,4,5,6,7,8] [(75,_),(74,_),(73,_),(72,_),(71,_),(70,_),(69,_),(68,_),(67,_)] 1 (zcC (z:=by exact ⟨(fun _ _=>⟨_,y,y,sx [0] (zk b c d e a.2.1 a.2.2 i y)<|⟨(.tup []),[],[(76,_)],y,y,y,y,zdg (z:=zaE [.old 0,.old 1,.old 2])⟩⟩),t⟩)) ?_
     refine A ?_
     refine zeh h y (fun F h=>?_) fun F h=>?_
     ·obtain ⟨n,D,K,s,h⟩:=bs2 h
      rcases bb K with q |q
      ·replace h:=bT q h
       obtain ⟨v,R,h⟩:=bs h
       refine ziy [(0,.mpt 0 0 0),(4,.mpt 1 0 0)] (sR b c d e a.2.1 ((a.2.2||(!i))||(!v)) [some (10,[(zd f)])]) [9,24] [0,1,2,3,4,5,6,7,8,10] [(90,_),(88,_),(87,_),(86,_),(85,_),(84,_),(83,_),(82,_),(81,_),(80,_)] 2 (zcC (z:=by exact ⟨(fun _ _=>⟨_,y,y,sx [] (zby b c D)<|⟨(.msl 3 0 (length n)),[11,12,13,14,15,16,17,18,19,20,21,22,23],[(103,_),(102,_),(101,_),(100,_),(99,_),(98,_),(97,_),(96,_),(95,_),(94,_),(93,_),(92,_),(91,_),(89,_)],y,y,y,y,zcC ⟨(by exact pb y (pcs (zfu n l s) y y (.cons (zgK y (fun _=>y)) (.cons (si y) .nil)) zbF<|w)),peC,peC,peC,peC,peC,peC,peC,peC,peC,peC,peC,peC,peC,peC,peC,peC,peC,peC,peC,peC,peC,peC,t⟩ (by exact ⟨nv,(fun _ _=>⟨_,y,y,sc [0] (args:=[.mpt 0 0 0,bA v]) (zk b c d e a.2.1 (a.2.2||(!i)) v y) y y y y ⟨(.mpt y),(rnI y),t⟩ ⟨⟨_,y,(zr3 y)⟩,t⟩<|⟨(.tup []),[],[(104,_)],y,y,y,y,zdg ⟨(by exact pb y (pcs (zfu n l s) y y (.cons (zgK y (fun _=>y)) (.cons (si y) .nil)) zbF<|w)),peC,peC,peC,peC,peC,peC,peC,peC,peC,peC,peC,peC,peC,peC,peC,peC,peC,peC,peC,peC,peC,peC,t⟩ (zaE [.old 0,.old 2])⟩⟩),t⟩)⟩⟩),nw,t⟩)) ?_
       exact ⟨⟨a.2.1,((a.2.2||(!i))||(!v))⟩,h,zp [.old 0,.old 1]⟩
      ·replace h:=bF q h
       refine ziy [(0,.mpt 0 0 0),(4,.mpt 1 0 0)] (sR b c d e a.2.1 ((a.2.2||(!i))||(!false)) [some (10,[(zd f)])]) [9,24] [0,1,2,3,4,5,6,7,8,10] [(90,_),(88,_),(87,_),(86,_),(85,_),(84,_),(83,_),(82,_),(81,_),(80,_)] 2 (zcC (z:=by exact ⟨(fun _ _=>⟨_,y,y,sx [] (zby b c D)<|⟨(.msl 3 0 (length n)),[11,12,13,14,15,16,17,18,19,20,21,22,23],[(103,_),(102,_),(101,_),(100,_),(99,_),(98,_),(97,_),(96,_),(95,_),(94,_),(93,_),(92,_),(91,_),(89,_)],y,y,y,y,zcC ⟨(by exact pb y (pcs (zfu n l s) y y (.cons (zgK y (fun _=>y)) (.cons (si y) .nil)) zbF<|w)),peC,peC,peC,peC,peC,peC,peC,peC,peC,peC,peC,peC,peC,peC,peC,peC,peC,peC,peC,peC,peC,peC,t⟩ (by exact ⟨nv,(fun _ _=>⟨_,y,y,sc [0] (args:=[.mpt 0 0 0,bA false]) (zk b c d e a.2.1 (a.2.2||(!i)) false y) y y y y ⟨(.mpt y),(rnI y),t⟩ ⟨⟨_,y,(zr3 y)⟩,t⟩<|⟨(.tup []),[],[(104,_)],y,y,y,y,zdg ⟨(by exact pb y (pcs (zfu n l s) y y (.cons (zgK y (fun _=>y)) (.cons (si y) .nil)) zbF<|w)),peC,peC,peC,peC,peC,peC,peC,peC,peC,peC,peC,peC,peC,peC,peC,peC,peC,peC,peC,peC,peC,peC,t⟩ (zaE [.old 0,.old 2])⟩⟩),t⟩)⟩⟩),nw,t⟩)) ?_
       exact ⟨⟨a.2.1,((a.2.2||(!i))||(!false))⟩,h,zp [.old 0,.old 1]⟩
     ·refine ze ?_
      exact ⟨⟨a.2.1,(a.2.2||(!i))⟩,h,zp [.old 0,.old 2]⟩
    ·refine ze ?_
     exact ⟨⟨m.1,m.2⟩,h,zp [.old 0,.old 2]⟩
   ·rintro ⟨L,M⟩ h
    refine A ?_
    refine zeh h y (fun G h=>?_) fun G h=>?_
    ·obtain ⟨E,N,h⟩:=bs h
     refine A ?_
     refine u<|sx [0] (zK b c d e L M f.Ret N)<|zv (env0:=[]) (st0:=(sR b c d e E.1 E.2 [])) (zp [.old 0])<|zn ?_
     obtain rfl:=sm h
     exact ⟨_,y,zab [.old 0]⟩
    ·refine ze ?_
     obtain rfl:=sm h
     exact ⟨_,y,zab [.old 0]⟩
def zlf(a:T0):Option (T0):=
  (zzs [91] a).bind fun b=>(zf4 b).bind fun c=>cond (!c) (some []) ((zzs [91] a).bind fun d=>some d)
instance (a:T0):PF Tryz.prog 129 [sA a] (zlf a) sA:=⟨fun r h=>by
 refine zl Tryz.func129 y kz y y<|A ?_
 refine zf ?_
 obtain ⟨c,d,e,f,h⟩:=bs2 h
 refine A ?_
 refine zeh h y (fun b h=>?_) fun b h=>?_
 ·refine A ?_
  exact RT0
 ·refine ze ?_
  obtain ⟨i,j,h⟩:=bs h
  refine A ?_
  exact RT0⟩
def zmE(a:T0):Option (T0×Bool):=
  (zf4 a).bind fun b=>(cond (!b) (some true) ((idx a 0).bind fun c=>some (!((c.toNat:Int) == (91:Int))))).bind fun d=>cond d (some ([],false)) ((zhs a 1 (length a:Int)).bind fun e=>some (e,true))
instance (c:T0):PF Tryz.prog 370 [sA c] (zmE c) (fun r=>(.tup [sA r.1,bA r.2])):=⟨fun r h=>by
 refine zl Tryz.func370 y kz y y<|A ?_
 refine zf ?_
 obtain ⟨f,i,j,l,h⟩:=bs2 h
 refine A ?_
 refine zeh h y (fun d h=>?_) fun d h=>?_
 ·refine A ?_
  exact RT0
 ·refine ze ?_
  obtain ⟨m,e,h⟩:=bs h
  refine rg y<|u<|mv y<|u<|slS (a:=1) (b:=(length c:Int)) ti y y (zfP y e) y e<|A ?_
  exact RT0⟩
def zeb(c:List za)(d:T0)(e:zb)(f:T1)(i:T1)(j:Bool):Option (T0×T1×Bool):=
  (zad c d e f i j).bind fun a=>cond (a.1 == [78]) (some ([78],a.2.1,a.2.2)) ((zmE a.1).bind fun b=>some (b.1,a.2.1,(a.2.2||(!(b.2&&(!(b.1 == [73])))))))
theorem zhn(a:List za)(b:T0)(c:zb)(d:T1)(i:T1)(j:Bool){r:T0×T1×Bool}(h:zeb a b c d i j=some r):SC Tryz.prog 347 [.mpt 0 0 0] (tR a b c d i j []) (sA r.1) (tR a b c d r.2.1 r.2.2 []):=by
 refine ⟨⟨t,t⟩,zP Tryz.func347 y kz y ?_⟩
 refine A ?_
 obtain ⟨e,m,h⟩:=bs h
 refine rg y<|u<|mv y<|u<|sx [0] (zas a b c d i j m)<|zv (env0:=[(0,.mpt 0 0 0),(7,sA e.1)]) (st0:=(sR a b c d e.2.1 e.2.2 [])) (zp [.old 0])<|A ?_
 refine zf<|A ?_
 refine zeh h y (fun l h=>?_) fun l h=>?_
 ·refine A ?_
  exact RT1
 ·refine ze ?_
  obtain ⟨f,n,h⟩:=bs h
  refine A ?_
  refine A ?_
  refine u<|sx [0] (zk a b c d e.2.1 e.2.2 (f.2&&(!(f.1 == [73]))) y)<|zv (env0:=[(4,sA f.1)]) (st0:=(sR a b c d e.2.1 (e.2.2||(!(f.2&&(!(f.1 == [73]))))) [])) (zp [.old 0])<|zn ?_
  refine A ?_
  exact RT1
def zaG(a:List za)(b:T0)(c:zb)(d:T1)(e:T1)(f:Bool)(i:zw):Option (T1×Bool):=
  cond (i.Op == (49:Int)) ((zR a b c d e f ([[73]])).bind fun G=>(zN a b c d G.1 G.2 [91,73]).bind fun H=>some (H.1,H.2)) (cond (i.Op == (50:Int)) ((zlf i.C).bind fun l=>(cond (!(l == [])) ((zV a l).bind fun I=>some I) (some false)).bind fun J=>(zR a b c d e (f||(!J)) ([[73]])).bind fun n=>(zN a b c d n.1 n.2 l).bind fun o=>some (o.1,o.2)) (cond (i.Op == (51:Int)) ((zad a b c d e f).bind fun j=>(cond (j.1 == [78]) (some true) ((cond (decide (1<(length j.1:Int))) ((idx j.1 0).bind fun K=>some ((K.toNat:Int) == (91:Int))) (some false)).bind fun L=>some L)).bind fun M=>(zN a b c d j.2.1 (j.2.2||(!M)) [73]).bind fun p=>some (p.1,p.2)) (cond (i.Op == (52:Int)) ((zR a b c d e f ([[91,73],[73]])).bind fun q=>(zN a b c d q.1 q.2 [73]).bind fun s=>some (s.1,s.2)) (cond (i.Op == (53:Int)) ((zR a b c d e f ([[91,73],[73],[73]])).bind fun v=>some (v.1,v.2)) (cond (i.Op == (54:Int)) ((zR a b c d e f ([[73]])).bind fun x=>(zeb a b c d x.1 x.2).bind fun m=>(zN a b c d m.2.1 m.2.2 m.1).bind fun B=>some (B.1,B.2)) (cond (i.Op == (55:Int)) ((zbm a b c d e f).bind fun D=>(zR a b c d D.2.1 D.2.2 ([[73]])).bind fun E=>(zeb a b c d E.1 E.2).bind fun F=>some (F.2.1,F.2.2)) (some (e,f))))))))
theorem zke(a:List za)(b:T0)(c:zb)(d:T1)(e:T1)(f:Bool)(M:zw){r:T1×Bool}(h:zaG a b c d e f M=some r):SC Tryz.prog 297 [.mpt 0 0 0,.agg (zi M)] (tR a b c d e f []) (.tup []) (tR a b c d r.1 r.2 []):=by
 refine ⟨⟨t,t⟩,zP Tryz.func297 y kz y ?_⟩
 refine A ?_
 refine A ?_
 refine zj<|A ?_
 refine zeh h y (fun N h=>?_) fun N h=>?_
 ·obtain ⟨x,q2,h⟩:=bs h
  refine A ?_
  refine zv (env0:=[(0,.mpt 0 0 0),(10,.mpt 0 0 0),(11,.isl 1 (map zt ([[73]])))]) (st0:=(sR a b c d e f [])) (zp [.old 0])<|u<|sx [0] (zS a b c d e f ([[73]]) q2)<|zv (env0:=[(0,.mpt 0 0 0)]) (st0:=(sR a b c d x.1 x.2 [])) (zp [.old 0])<|zn ?_
  obtain ⟨O,q3,h⟩:=bs h
  refine rl y<|u<|mv y<|u<|sx [0] (zK a b c d x.1 x.2 [91,73] q3)<|zv (env0:=[]) (st0:=(sR a b c d O.1 O.2 [])) (zp [.old 0])<|zn ?_
  obtain rfl:=sm h
  exact ⟨_,y,zab [.old 0]⟩
 ·refine A ?_
  refine zeh h y (fun P h=>?_) fun P h=>?_
  ·obtain ⟨m,q5,h⟩:=bs h
   refine A ?_
   obtain ⟨n,q8,h⟩:=bs h
   refine A ?_
   refine u<|sx [0] (zk a b c d e f n y)<|zv (env0:=[(0,.mpt 0 0 0),(4,sA m)]) (st0:=(sR a b c d e (f||(!n)) [])) (zp [.old 0])<|zn ?_
   obtain ⟨o,q9,h⟩:=bs h
   refine A ?_
   refine zv (env0:=[(0,.mpt 0 0 0),(4,sA m),(32,.mpt 0 0 0),(33,.isl 1 (map zt ([[73]])))]) (st0:=(sR a b c d e (f||(!n)) [])) (zp [.old 0])<|u<|sx [0] (zS a b c d e (f||(!n)) ([[73]]) q9)<|zv (env0:=[(0,.mpt 0 0 0),(4,sA m)]) (st0:=(sR a b c d o.1 o.2 [])) (zp [.old 0])<|zn ?_
   obtain ⟨B,Q,h⟩:=bs h
   refine A ?_
   refine u<|sx [0] (zK a b c d o.1 o.2 m Q)<|zv (env0:=[]) (st0:=(sR a b c d B.1 B.2 [])) (zp [.old 0])<|zn ?_
   obtain rfl:=sm h
   exact ⟨_,y,zab [.old 0]⟩
  ·refine A ?_
   refine zeh h y (fun H h=>?_) fun H h=>?_
   ·obtain ⟨i,R,h⟩:=bs h
    refine rg y<|u<|mv y<|u<|sx [0] (zas a b c d e f R)<|zv (env0:=[(0,.mpt 0 0 0),(41,sA i.1)]) (st0:=(sR a b c d i.2.1 i.2.2 [])) (zp [.old 0])<|A ?_
    obtain ⟨v,q17,h⟩:=bs h
    refine A ?_
    refine u<|sx [0] (zk a b c d i.2.1 i.2.2 v y)<|zv (env0:=[(0,.mpt 0 0 0)]) (st0:=(sR a b c d i.2.1 (i.2.2||(!v)) [])) (zp [.old 0])<|zn ?_
    obtain ⟨C,S,h⟩:=bs h
    refine rl y<|u<|mv y<|u<|sx [0] (zK a b c d i.2.1 (i.2.2||(!v)) [73] S)<|zv (env0:=[]) (st0:=(sR a b c d C.1 C.2 [])) (zp [.old 0])<|zn ?_
    obtain rfl:=sm h
    exact ⟨_,y,zab [.old 0]⟩
   ·refine A ?_
    refine zeh h y (fun I h=>?_) fun I h=>?_
    ·obtain ⟨p,T,h⟩:=bs h
     refine A ?_
     refine zv (env0:=[(0,.mpt 0 0 0),(60,.mpt 0 0 0),(61,.isl 1 (map zt ([[91,73],[73]])))]) (st0:=(sR a b c d e f [])) (zp [.old 0])<|u<|sx [0] (zS a b c d e f ([[91,73],[73]]) T)<|zv (env0:=[(0,.mpt 0 0 0)]) (st0:=(sR a b c d p.1 p.2 [])) (zp [.old 0])<|zn ?_
     obtain ⟨D,U,h⟩:=bs h
     refine rl y<|u<|mv y<|u<|sx [0] (zK a b c d p.1 p.2 [73] U)<|zv (env0:=[]) (st0:=(sR a b c d D.1 D.2 [])) (zp [.old 0])<|zn ?_
     obtain rfl:=sm h
     exact ⟨_,y,zab [.old 0]⟩
    ·refine A ?_
     refine zeh h y (fun J h=>?_) fun J h=>?_
     ·obtain ⟨E,V,h⟩:=bs h
      refine A ?_
      refine zv (env0:=[(67,.mpt 0 0 0),(68,.isl 1 (map zt ([[91,73],[73],[73]])))]) (st0:=(sR a b c d e f [])) (zp [.old 0])<|u<|sx [0] (zS a b c d e f ([[91,73],[73],[73]]) V)<|zv (env0:=[]) (st0:=(sR a b c d E.1 E.2 [])) (zp [.old 0])<|zn ?_
      obtain rfl:=sm h
      exact ⟨_,y,zab [.old 0]⟩
     ·refine A ?_
      refine zeh h y (fun K h=>?_) fun K h=>?_
      ·obtain ⟨q,W,h⟩:=bs h
       refine A ?_
       refine zv (env0:=[(0,.mpt 0 0 0),(72,.mpt 0 0 0),(73,.isl 1 (map zt ([[73]])))]) (st0:=(sR a b c d e f [])) (zp [.old 0])<|u<|sx [0] (zS a b c d e f ([[73]]) W)<|zv (env0:=[(0,.mpt 0 0 0)]) (st0:=(sR a b c d q.1 q.2 [])) (zp [.old 0])<|zn ?_
       obtain ⟨j,X,F,Y,h⟩:=bs2 h
       refine rl y<|u<|mv y<|u<|mv y<|u<|sx [0] (zhn a b c d q.1 q.2 X)<|zv (env0:=[(75,.mpt 0 0 0),(77,sA j.1)]) (st0:=(sR a b c d j.2.1 j.2.2 [])) (zp [.old 0])<|u<|sx [0] (zK a b c d j.2.1 j.2.2 j.1 Y)<|zv (env0:=[]) (st0:=(sR a b c d F.1 F.2 [])) (zp [.old 0])<|zn ?_
       obtain rfl:=sm h
       exact ⟨_,y,zab [.old 0]⟩
      ·refine A ?_
       refine zeh h y (fun L h=>?_) fun L h=>?_
       ·obtain ⟨l,Z,h⟩:=bs h
        refine rg y<|u<|mv y<|u<|sx [0] (zbJ a b c d e f Z)<|zv (env0:=[(0,.mpt 0 0 0)]) (st0:=(sR a b c d l.2.1 l.2.2 [])) (zp [.old 0])<|zn ?_
        obtain ⟨s,q30,h⟩:=bs h
        refine A ?_
        refine zv (env0:=[(0,.mpt 0 0 0),(83,.mpt 0 0 0),(84,.isl 1 (map zt ([[73]])))]) (st0:=(sR a b c d l.2.1 l.2.2 [])) (zp [.old 0])<|u<|sx [0] (zS a b c d l.2.1 l.2.2 ([[73]]) q30)<|zv (env0:=[(0,.mpt 0 0 0)]) (st0:=(sR a b c d s.1 s.2 [])) (zp [.old 0])<|zn ?_
        obtain ⟨G,q31,h⟩:=bs h
        refine rl y<|u<|mv y<|u<|sx [0] (zhn a b c d s.1 s.2 q31)<|zv (env0:=[]) (st0:=(sR a b c d G.2.1 G.2.2 [])) (zp [.old 0])<|zn ?_
        obtain rfl:=sm h
        exact ⟨_,y,zab [.old 0]⟩
       ·refine ze ?_
        obtain rfl:=sm h
        exact ⟨_,y,zab [.old 0]⟩
def zbj(f:List za)(i:T0)(j:zb)(b:T1)(d:T1)(l:zw)(a:Bool):Option (T1×T1×Bool):=
  cond (!a) ((idx b l.A).bind fun e=>(zN f i j b d a e).bind fun c=>some (b,c.1,c.2)) (some (b,d,a))
def zcP(f:List za)(i:T0)(j:zb)(b:T1)(c:T1)(d:Bool)(e:Bool):Option (T1×T1×Bool):=
  cond e ((zR f i j b c d ([[73]])).bind fun a=>some (b,a.1,a.2)) (some (b,c,d))
def zO(d:List za)(e:T0)(c:zb)(a:T1)(f:T1)(i:Bool)(b:zw):Option (T1×T1×Bool):=
  cond (b.Op == (1:Int)) ((zN d e c a f i [73]).bind fun K=>some (a,K.1,K.2)) (cond (b.Op == (2:Int)) ((zN d e c a f i [78]).bind fun L=>some (a,L.1,L.2)) (cond (b.Op == (3:Int)) (cond (decide (b.A<(length a:Int))) ((idx a (if (IntKind.i64.wrap ((length a:Int)-1))<b.A then (IntKind.i64.wrap ((length a:Int)-1)) else b.A)).bind fun M=>zbj d e c a f b (i||(!(!(M == [84]))))) (zbj d e c a f b (i||(!false)))) (cond (b.Op == (4:Int)) ((zad d e c a f i).bind fun l=>cond (!(l.2.2||(!(decide (b.A<(length a:Int)))))) ((zdK (zgv.mk a l.2.1)).bind fun n=>(idx n.1 b.A).bind fun R=>some ((List.set n.1 (Int.toNat b.A) l.1),n.2,(l.2.2||(!(decide (b.A<(length a:Int))))))) (some (a,l.2.1,(l.2.2||(!(decide (b.A<(length a:Int)))))))) (cond (b.Op == (5:Int)) ((zad d e c a f i).bind fun s=>some (a,s.2.1,s.2.2)) (cond (b.Op == (6:Int)) ((zad d e c a f i).bind fun m=>(zN d e c a m.2.1 m.2.2 m.1).bind fun v=>(zN d e c a v.1 v.2 m.1).bind fun x=>some (a,x.1,x.2)) (cond (b.Op == (7:Int)) ((zad d e c a f i).bind fun o=>(zad d e c a o.2.1 o.2.2).bind fun p=>(zN d e c a p.2.1 p.2.2 o.1).bind fun B=>(zN d e c a B.1 B.2 p.1).bind fun D=>some (a,D.1,D.2)) (cond (b.Op == (46:Int)) (some (a,f,(i||(!(c.Ret == [86]))))) (cond (b.Op == (47:Int)) ((zR d e c a f i ([[73]])).bind fun E=>some (a,E.1,(E.2||(!(c.Ret == [73]))))) (cond (b.Op == (48:Int)) ((zbm d e c a f i).bind fun j=>cond (!(c.Ret == [86])) (cond (!(c.Ret == [73])) ((zbo d j.1 c.Ret).bind fun N=>some (a,j.2.1,(j.2.2||(!N)))) (some (a,j.2.1,(j.2.2||(!false))))) (some (a,j.2.1,(j.2.2||(!false))))) (cond (b.Op == (56:Int)) ((zbm d e c a f i).bind fun F=>(zV d b.C).bind fun O=>(zN d e c a F.2.1 (F.2.2||(!O)) b.C).bind fun G=>some (a,G.1,G.2)) (cond (b.Op == (57:Int)) ((zbm d e c a f i).bind fun H=>(zV d b.C).bind fun P=>(zN d e c a H.2.1 (H.2.2||(!P)) [73]).bind fun I=>some (a,I.1,I.2)) (cond (b.Op == (58:Int)) ((zad d e c a f i).bind fun q=>(zbo d q.1 [84,104,114,111,119,110]).bind fun Q=>some (a,q.2.1,(q.2.2||(!Q)))) (cond (b.Op == (59:Int)) ((zN d e c a f i [73]).bind fun J=>some (a,J.1,J.2)) (cond (b.Op == (60:Int)) (zcP d e c a f i (b.Op == (60:Int))) (zcP d e c a f i (b.Op == (61:Int)))))))))))))))))
theorem zkJ(d:List za)(e:T0)(a:zb)(c:T1)(f:T1)(i:Bool)(m:zw){r:T1×T1×Bool}(h:zO d e a c f i m=some r):SC Tryz.prog 298 [.mpt 0 0 0,.agg (zi m)] (tR d e a c f i []) (.tup []) (tR d e a r.1 r.2.1 r.2.2 []):=by
 refine ⟨⟨t,t⟩,zP Tryz.func298 y kz y ?_⟩
 refine A ?_
 refine A ?_
 refine zj<|A ?_
 refine zeh h y (fun hc1 h=>?_) fun hc1 h=>?_
 ·obtain ⟨v8,q2,h⟩:=bs h
  refine rl y<|u<|mv y<|u<|sx [0] (zK d e a c f i [73] q2)<|zv (env0:=[]) (st0:=(sR d e a c v8.1 v8.2 [])) (zp [.old 0])<|zn ?_
  obtain rfl:=sm h
  exact ⟨_,y,zab [.old 0]⟩
 ·refine A ?_
  refine zeh h y (fun hc3 h=>?_) fun hc3 h=>?_
  ·obtain ⟨v9,q4,h⟩:=bs h
   refine rl y<|u<|mv y<|u<|sx [0] (zK d e a c f i [78] q4)<|zv (env0:=[]) (st0:=(sR d e a c v9.1 v9.2 [])) (zp [.old 0])<|zn ?_
   obtain rfl:=sm h
   exact ⟨_,y,zab [.old 0]⟩
  ·refine A ?_
   refine zeh h y (fun hc5 h=>?_) fun hc5 h=>?_
   ·refine zaA (X:=Bool) (fun z=>[(0,.mpt 0 0 0),(3,.mpt 1 0 0)]) (fun z=>(sR d e a c f z [some (4,[(zi m)])])) (fun z=>zbj d e a c f m z=some r) ?_ ?_
    ·rcases bb (decide (m.A<(length c:Int))) with B |B
     ·replace h:=bT B h
      obtain ⟨I,q7,h⟩:=bs h
      exact rdQ [30] [0,1,2,3,4,5,6,7,8,9,10,11,12,13,14,15,16,17,18,19,20,21,22,23,24,25,26,27,28,29] [(50,_),(49,_),(48,_),(47,_),(46,_),(45,_),(44,_),(43,_),(42,_),(41,_),(40,_),(39,_),(38,_),(37,_),(36,_),(35,_),(34,_),(33,_),(32,_),(31,_),(30,_),(29,_),(28,_),(27,_),(26,_),(25,_),(24,_),(23,_),(22,_),(21,_)] 1 (zcC ⟨peC,peC,peC,peC,peC,peC,peC,peC,peC,peC,peC,peC,peC,peC,peC,peC,peC,peC,peC,peC,peC,peC,peC,peC,peC,(by exact fun _=>pag (b:=(decide (m.A<(length c:Int)))) y y y y B y (mnI y y<|w)),peC,peC,peC,peC,t⟩ (by exact ⟨(fun _ _=>⟨_,y,y,sc [0] (args:=[.mpt 0 0 0,bA (!(I == [84]))]) (zk d e a c f i (!(I == [84])) y) y y y y ⟨(.mpt y),(rnI y),t⟩ ⟨⟨_,y,(zr3 y)⟩,t⟩<|⟨(.tup []),[],[(51,_)],y,y,y,y,zdg ⟨peC,peC,peC,peC,peC,peC,peC,peC,peC,peC,peC,peC,peC,peC,peC,peC,peC,peC,peC,peC,peC,peC,peC,peC,peC,(by exact fun _=>pag (b:=(decide (m.A<(length c:Int)))) y y y y B y (mnI y y<|w)),peC,peC,peC,peC,t⟩ (by exact ⟨(i||(!(!(I == [84])))),h,zaE [.old 0,.old 1]⟩)⟩⟩),t⟩))
     ·replace h:=bF B h
      exact rdQ [30] [0,1,2,3,4,5,6,7,8,9,10,11,12,13,14,15,16,17,18,19,20,21,22,23,24,25,26,27,28,29] [(50,_),(49,_),(48,_),(47,_),(46,_),(45,_),(44,_),(43,_),(42,_),(41,_),(40,_),(39,_),(38,_),(37,_),(36,_),(35,_),(34,_),(33,_),(32,_),(31,_),(30,_),(29,_),(28,_),(27,_),(26,_),(25,_),(24,_),(23,_),(22,_),(21,_)] 1 (zcC (z:=by exact ⟨(fun _ _=>⟨_,y,y,sc [0] (args:=[.mpt 0 0 0,bA false]) (zk d e a c f i false y) y y y y ⟨(.mpt y),(rnI y),t⟩ ⟨⟨_,y,(zr3 y)⟩,t⟩<|⟨(.tup []),[],[(51,_)],y,y,y,y,zdg (z:=by exact ⟨(i||(!false)),h,zaE [.old 0,.old 1]⟩)⟩⟩),t⟩))
    ·rintro v11 h
     refine A ?_
     refine zeh h y (fun hc8 h=>?_) fun hc8 h=>?_
     ·obtain ⟨v12,q9,M,q10,h⟩:=bs2 h
      refine ziy [] (sR d e a c M.1 M.2 []) [10] [0,1,2,3,4,5,6,7,8,9] [(66,_),(65,_),(64,_),(63,_),(62,_),(61,_),(60,_),(59,_),(58,_),(57,_)] 1 (zcC (z:=by exact ⟨(fun _ _=>⟨_,y,y,sx [0] (zK d e a c f v11 v12 q10)<|⟨(.tup []),[],[(67,_)],y,y,y,y,zdg (z:=zaE [.old 0])⟩⟩),t⟩)) ?_
      obtain rfl:=sm h
      exact ⟨_,y,zab [.old 0]⟩
     ·refine ze ?_
      obtain rfl:=sm h
      exact ⟨_,y,zab [.old 0]⟩
   ·refine A ?_
    refine zeh h y (fun V h=>?_) fun V h=>?_
    ·obtain ⟨l,q12,h⟩:=bs h
     refine rg y<|u<|mv y<|u<|sx [0] (zas d e a c f i q12)<|zv (env0:=[(0,.mpt 0 0 0),(3,.mpt 1 0 0),(71,sA l.1)]) (st0:=(sR d e a c l.2.1 l.2.2 [some (4,[(zi m)])])) (zp [.old 0,.old 1])<|A ?_
     refine rdA [(0,_),(3,_),(4,_)] (sR d e a c l.2.1 (l.2.2||(!(decide (m.A<(length c:Int))))) [some (4,[(zi m)])]) [10] [0,1,2,3,4,5,6,7,8,9] [(81,_),(80,_),(79,_),(78,_),(77,_),(76,_),(75,_),(74,_),(73,_),(72,_)] 1 (zcC (z:=by exact ⟨(fun _ _=>⟨_,y,y,sx [0] (zk d e a c l.2.1 l.2.2 (decide (m.A<(length c:Int))) y)<|⟨(.tup []),[],[(82,_)],y,y,y,y,zdg (z:=zaE [.old 0,.old 1])⟩⟩),t⟩)) ?_
     refine A ?_
     refine zeh h y (fun W h=>?_) fun W h=>?_
     ·obtain ⟨v,q14,h⟩:=bs h
      refine A ?_
      refine u<|sx [] (ziE (zgv.mk c l.2.1) q14)<|zv (env0:=[(0,.mpt 0 0 0),(3,.mpt 1 0 0),(4,sA l.1),(88,.mpt 0 0 0),(93,.agg [.msl 2 0 (length v.1),.msl 3 0 (length v.2)])]) (st0:=(sR d e a c l.2.1 (l.2.2||(!(decide (m.A<(length c:Int))))) [some (4,[(zi m)]),some (1,map zt v.1),some (1,map zt v.2)])) (zp [.old 0,.old 1,.old 2,.old 3])<|A ?_
      obtain ⟨v16,q15,h⟩:=bs h
      refine ziy [] (sR d e a (List.set v.1 (Int.toNat m.A) l.1) v.2 (l.2.2||(!(decide (m.A<(length c:Int))))) []) [9] [0,1,2,3,4,5,6,7,8] [(104,_),(103,_),(102,_),(101,_),(100,_),(99,_),(98,_),(97,_),(96,_)] 1 (zcC (z:=by exact ⟨(fun _ _=>⟨_,y,y,zB6 (c':=l.1) ti y y (zm q15).2.2 y y y y y<|⟨.any,[],[],y,y,y,t,zdg (z:=by exact ⟨[.old 0],cn,y,⟨⟨_,y,zaz (zvV y (by exact ⟨zAT (by simp) y y (fun _=>y),zij y y (fun _=>y),ci y,t⟩))⟩,t⟩,y,k⟩)⟩⟩),t⟩)) ?_
      obtain rfl:=sm h
      exact ⟨_,y,zab [.old 0]⟩
     ·refine ze ?_
      obtain rfl:=sm h
      exact ⟨_,y,zab [.old 0]⟩
    ·refine A ?_
     refine zeh h y (fun Y h=>?_) fun Y h=>?_
     ·obtain ⟨N,q17,h⟩:=bs h
      refine rl y<|u<|mv y<|u<|sx [0] (zas d e a c f i q17)<|zv (env0:=[]) (st0:=(sR d e a c N.2.1 N.2.2 [])) (zp [.old 0])<|zn ?_
      obtain rfl:=sm h
      exact ⟨_,y,zab [.old 0]⟩
     ·refine A ?_
      refine zeh h y (fun Z h=>?_) fun Z h=>?_
      ·obtain ⟨n,q19,h⟩:=bs h
       refine rg y<|u<|mv y<|u<|sx [0] (zas d e a c f i q19)<|zv (env0:=[(0,.mpt 0 0 0),(112,sA n.1)]) (st0:=(sR d e a c n.2.1 n.2.2 [])) (zp [.old 0])<|A ?_
       obtain ⟨G,q20,h⟩:=bs h
       refine rg y<|u<|mv y<|u<|mv y<|u<|sx [0] (zK d e a c n.2.1 n.2.2 n.1 q20)<|zv (env0:=[(0,.mpt 0 0 0),(5,sA n.1)]) (st0:=(sR d e a c G.1 G.2 [])) (zp [.old 0])<|zn ?_
       obtain ⟨O,q21,h⟩:=bs h
       refine rl y<|u<|mv y<|u<|mv y<|u<|sx [0] (zK d e a c G.1 G.2 n.1 q21)<|zv (env0:=[]) (st0:=(sR d e a c O.1 O.2 [])) (zp [.old 0])<|zn ?_
       obtain rfl:=sm h
       exact ⟨_,y,zab [.old 0]⟩
      ·refine A ?_
       refine zeh h y (fun hc22 h=>?_) fun hc22 h=>?_
       ·obtain ⟨q,q23,s,q24,h⟩:=bs2 h
        refine rg y<|u<|mv y<|u<|sx [0] (zas d e a c f i q23)<|zv (env0:=[(0,.mpt 0 0 0),(122,sA q.1)]) (st0:=(sR d e a c q.2.1 q.2.2 [])) (zp [.old 0])<|u<|mv y<|u<|sx [0] (zas d e a c q.2.1 q.2.2 q24)<|zv (env0:=[(0,.mpt 0 0 0),(122,sA q.1),(124,sA s.1)]) (st0:=(sR d e a c s.2.1 s.2.2 [])) (zp [.old 0])<|A ?_
        obtain ⟨H,q25,h⟩:=bs h
        refine rg y<|u<|mv y<|u<|mv y<|u<|sx [0] (zK d e a c s.2.1 s.2.2 q.1 q25)<|zv (env0:=[(0,.mpt 0 0 0),(7,sA s.1)]) (st0:=(sR d e a c H.1 H.2 [])) (zp [.old 0])<|zn ?_
        obtain ⟨P,q26,h⟩:=bs h
        refine rl y<|u<|mv y<|u<|mv y<|u<|sx [0] (zK d e a c H.1 H.2 s.1 q26)<|zv (env0:=[]) (st0:=(sR d e a c P.1 P.2 [])) (zp [.old 0])<|zn ?_
        obtain rfl:=sm h
        exact ⟨_,y,zab [.old 0]⟩
       ·refine A ?_
        refine zeh h y (fun hc27 h=>?_) fun hc27 h=>?_
        ·refine A ?_
         refine u<|sx [0] (zk d e a c f i (a.Ret == [86]) y)<|zv (env0:=[]) (st0:=(sR d e a c f (i||(!(a.Ret == [86]))) [])) (zp [.old 0])<|zn ?_
         obtain rfl:=sm h
         exact ⟨_,y,zab [.old 0]⟩
        ·refine A ?_
         refine zeh h y (fun hc28 h=>?_) fun hc28 h=>?_
         ·obtain ⟨x,q29,h⟩:=bs h
          refine A ?_
          refine zv (env0:=[(0,.mpt 0 0 0),(143,.mpt 0 0 0),(144,.isl 1 (map zt ([[73]])))]) (st0:=(sR d e a c f i [])) (zp [.old 0])<|u<|sx [0] (zS d e a c f i ([[73]]) q29)<|zv (env0:=[(0,.mpt 0 0 0)]) (st0:=(sR d e a c x.1 x.2 [])) (zp [.old 0])<|zn ?_
          refine A ?_
          refine u<|sx [0] (zk d e a c x.1 x.2 (a.Ret == [73]) y)<|zv (env0:=[]) (st0:=(sR d e a c x.1 (x.2||(!(a.Ret == [73]))) [])) (zp [.old 0])<|zn ?_
          obtain rfl:=sm h
          exact ⟨_,y,zab [.old 0]⟩
         ·refine A ?_
          refine zeh h y (fun hc30 h=>?_) fun hc30 h=>?_
          ·obtain ⟨j,q31,h⟩:=bs h
           refine rg y<|u<|mv y<|u<|sx [0] (zbJ d e a c f i q31)<|zv (env0:=[(0,.mpt 0 0 0),(157,sA j.1)]) (st0:=(sR d e a c j.2.1 j.2.2 [])) (zp [.old 0])<|A ?_
           rcases bb (!(a.Ret == [86])) with E |E
           ·replace h:=bT E h
            rcases bb (!(a.Ret == [73])) with F |F
            ·replace h:=bT F h
             obtain ⟨J,q34,h⟩:=bs h
             refine ziy [] (sR d e a c j.2.1 (j.2.2||(!J)) []) [28] [0,1,2,3,4,5,6,7,8,9,10,11,12,13,14,15,16,17,18,19,20,21,22,23,24,25,26,27] [(185,_),(184,_),(183,_),(182,_),(181,_),(180,_),(179,_),(178,_),(177,_),(176,_),(175,_),(174,_),(173,_),(172,_),(171,_),(170,_),(169,_),(168,_),(167,_),(166,_),(165,_),(164,_),(163,_),(162,_),(161,_),(160,_),(159,_),(158,_)] 1 (zcC (z:=by exact ⟨(fun _ _=>⟨_,y,y,sc [0] (args:=[.mpt 0 0 0,bA J]) (zk d e a c j.2.1 j.2.2 J y) y y y y ⟨(.mpt y),(rnI y),t⟩ ⟨⟨_,y,(zr3 y)⟩,t⟩<|⟨(.tup []),[],[(186,_)],y,y,y,y,zdg (z:=zaE [.old 0])⟩⟩),t⟩)) ?_
             obtain rfl:=sm h
             exact ⟨_,y,zab [.old 0]⟩
            ·replace h:=bF F h
             refine ziy [] (sR d e a c j.2.1 (j.2.2||(!false)) []) [28] [0,1,2,3,4,5,6,7,8,9,10,11,12,13,14,15,16,17,18,19,20,21,22,23,24,25,26,27] [(185,_),(184,_),(183,_),(182,_),(181,_),(180,_),(179,_),(178,_),(177,_),(176,_),(175,_),(174,_),(173,_),(172,_),(171,_),(170,_),(169,_),(168,_),(167,_),(166,_),(165,_),(164,_),(163,_),(162,_),(161,_),(160,_),(159,_),(158,_)] 1 (zcC (z:=by exact ⟨(fun _ _=>⟨_,y,y,sc [0] (args:=[.mpt 0 0 0,bA false]) (zk d e a c j.2.1 j.2.2 false y) y y y y ⟨(.mpt y),(rnI y),t⟩ ⟨⟨_,y,(zr3 y)⟩,t⟩<|⟨(.tup []),[],[(186,_)],y,y,y,y,zdg (z:=zaE [.old 0])⟩⟩),t⟩)) ?_
             obtain rfl:=sm h
             exact ⟨_,y,zab [.old 0]⟩
           ·replace h:=bF E h
            refine ziy [] (sR d e a c j.2.1 (j.2.2||(!false)) []) [28] [27,26,25,24,23,22,21,20,19,18,17,16,15,14,13,12,11,10,9,8,7,6,5,4,3,2,1,0] [(185,bA false),(184,.lit undef),(183,.lit undef),(182,.lit undef),(181,.lit undef),(180,.lit undef),(179,.lit undef),(178,.lit undef),(177,.lit undef),(176,.lit undef),(175,.lit undef),(174,.lit undef),(173,bA false),(172,bA false),(171,.lit undef),(170,.lit undef),(169,.lit undef),(168,.lit undef),(167,.lit undef),(166,.lit undef),(165,bA (!(a.Ret == [86]))),(164,bA (!(a.Ret == [86]))),(163,sA a.Ret),(162,.mpt 0 0 4),(161,.mpt 0 0 2),(160,.mpt 0 0 0),(159,.mpt 0 0 0),(158,.mpt 0 0 0)] 1 (zvv ⟨pe,pe,pe,pe,pe,pe,pe,pe,pe,pe,pe,pe,pe,pe,pe,pe,pe,pe,pe,pe,pe,(pb y (sne ti y y w)),(pb y (ld ti y y w)),(pb y (fa ti y y y w)),(pb y (fa ti y y y w)),pe,pe,pe,t⟩ ⟨(fun _ _=>⟨_,y,y,sc [0] (args:=[.mpt 0 0 0,bA false]) (zk d e a c j.2.1 j.2.2 false y) y y y y ⟨(.mpt y),(rnI y),t⟩ ⟨⟨_,y,(zr3 y)⟩,t⟩<|⟨(.tup []),[],[(186,.tup [])],y,y,kz,y,zuJ ⟨pe,pe,pe,pe,pe,pe,pe,pe,pe,pe,pe,pe,pe,pe,pe,pe,pe,pe,pe,pe,pe,(pb y (sne ti y y w)),(pb y (ld ti y y w)),(pb y (fa ti y y y w)),(pb y (fa ti y y y w)),pe,pe,pe,t⟩ (zp [.old 0])⟩⟩),t⟩) ?_
            obtain rfl:=sm h
            exact ⟨_,y,zab [.old 0]⟩
          ·refine A ?_
           refine zeh h y (fun hc35 h=>?_) fun hc35 h=>?_
           ·obtain ⟨o,q36,h⟩:=bs h
            refine rg y<|u<|mv y<|u<|sx [0] (zbJ d e a c f i q36)<|zv (env0:=[(0,.mpt 0 0 0),(3,.mpt 1 0 0)]) (st0:=(sR d e a c o.2.1 o.2.2 [some (4,[(zi m)])])) (zp [.old 0,.old 1])<|zn ?_
            obtain ⟨K,q37,h⟩:=bs h
            refine rdA [(0,_),(3,_)] (sR d e a c o.2.1 (o.2.2||(!K)) [some (4,[(zi m)])]) [8] [0,1,2,3,4,5,6,7] [(198,_),(197,_),(196,_),(195,_),(194,_),(193,_),(192,_),(191,_)] 1 (zcC (z:=by exact ⟨(fun _ _=>⟨_,y,y,sx [0] (zk d e a c o.2.1 o.2.2 K y)<|⟨(.tup []),[],[(199,_)],y,y,y,y,zdg (z:=zaE [.old 0,.old 1])⟩⟩),t⟩)) ?_
            obtain ⟨Q,q38,h⟩:=bs h
            refine A ?_
            refine u<|sx [0] (zK d e a c o.2.1 (o.2.2||(!K)) m.C q38)<|zv (env0:=[]) (st0:=(sR d e a c Q.1 Q.2 [])) (zp [.old 0])<|zn ?_
            obtain rfl:=sm h
            exact ⟨_,y,zab [.old 0]⟩
           ·refine A ?_
            refine zeh h y (fun hc39 h=>?_) fun hc39 h=>?_
            ·obtain ⟨p,q40,h⟩:=bs h
             refine rg y<|u<|mv y<|u<|sx [0] (zbJ d e a c f i q40)<|zv (env0:=[(0,.mpt 0 0 0),(3,.mpt 1 0 0)]) (st0:=(sR d e a c p.2.1 p.2.2 [some (4,[(zi m)])])) (zp [.old 0,.old 1])<|zn ?_
             obtain ⟨L,q41,h⟩:=bs h
             refine rdA [(0,_)] (sR d e a c p.2.1 (p.2.2||(!L)) []) [8] [0,1,2,3,4,5,6,7] [(215,_),(214,_),(213,_),(212,_),(211,_),(210,_),(209,_),(208,_)] 1 (zcC (z:=by exact ⟨(fun _ _=>⟨_,y,y,sx [0] (zk d e a c p.2.1 p.2.2 L y)<|⟨(.tup []),[],[(216,_)],y,y,y,y,zdg (z:=zaE [.old 0])⟩⟩),t⟩)) ?_
             obtain ⟨R,q42,h⟩:=bs h
             refine rl y<|u<|mv y<|u<|sx [0] (zK d e a c p.2.1 (p.2.2||(!L)) [73] q42)<|zv (env0:=[]) (st0:=(sR d e a c R.1 R.2 [])) (zp [.old 0])<|zn ?_
             obtain rfl:=sm h
             exact ⟨_,y,zab [.old 0]⟩
            ·refine A ?_
             refine zeh h y (fun hc43 h=>?_) fun hc43 h=>?_
             ·obtain ⟨D,q44,S,q45,h⟩:=bs2 h
              refine ziy [] (sR d e a c D.2.1 (D.2.2||(!S)) []) [6,8] [0,1,2,3,4,5] [(226,_),(225,_),(224,_),(223,_),(222,_),(221,_)] 2 (zcC (z:=by exact ⟨(fun _ _=>⟨_,y,y,sx [0] (zas d e a c f i q44)<|⟨(sA D.1),[7],[(228,_),(227,_)],y,y,y,y,zcC (z:=by exact ⟨nv,(fun _ _=>⟨_,y,y,sx [0] (zk d e a c D.2.1 D.2.2 S y)<|⟨(.tup []),[],[(229,_)],y,y,y,y,zdg (z:=zaE [.old 0])⟩⟩),t⟩)⟩⟩),nw,t⟩)) ?_
              obtain rfl:=sm h
              exact ⟨_,y,zab [.old 0]⟩
             ·refine A ?_
              refine zeh h y (fun hc46 h=>?_) fun hc46 h=>?_
              ·obtain ⟨T,q47,h⟩:=bs h
               refine rl y<|u<|mv y<|u<|sx [0] (zK d e a c f i [73] q47)<|zv (env0:=[]) (st0:=(sR d e a c T.1 T.2 [])) (zp [.old 0])<|zn ?_
               obtain rfl:=sm h
               exact ⟨_,y,zab [.old 0]⟩
              ·refine zaA (X:=Bool) (fun z=>[(0,.mpt 0 0 0),(234,bA z)]) (fun z=>(sR d e a c f i [])) (fun z=>zcP d e a c f i z=some r) ?_ ?_
               ·refine A ?_
                refine zeh h y (fun hc48 h=>?_) fun hc48 h=>?_
                ·refine ze ?_
                 exact ⟨(m.Op == (60:Int)),h,zp [.old 0]⟩
                ·refine A ?_
                 exact (⟨(m.Op == (61:Int)),h,zp [.old 0]⟩)
               ·rintro v37 h
                refine zeh h y (fun hc49 h=>?_) fun hc49 h=>?_
                ·obtain ⟨U,q50,h⟩:=bs h
                 refine A ?_
                 refine zv (env0:=[(237,.mpt 0 0 0),(238,.isl 1 (map zt ([[73]])))]) (st0:=(sR d e a c f i [])) (zp [.old 0])<|u<|sx [0] (zS d e a c f i ([[73]]) q50)<|zv (env0:=[]) (st0:=(sR d e a c U.1 U.2 [])) (zp [.old 0])<|zn ?_
                 obtain rfl:=sm h
                 exact ⟨_,y,zab [.old 0]⟩
                ·refine ze ?_
                 obtain rfl:=sm h
                 exact ⟨_,y,zab [.old 0]⟩
def zcO(e:List za)(f:T0)(i:zb)(b:T1)(c:T1)(d:Bool):Option (T1×T1×Bool):=
  (zN e f i b c d [73]).bind fun a=>some (b,a.1,a.2)
def zh(c:List za)(d:T0)(e:zb)(b:T1)(f:T1)(i:Bool)(a:zw):Option (T1×T1×Bool):=
  cond ((decide (8≤a.Op))&&(decide (a.Op≤19))) ((zR c d e b f i ([[73]])).bind fun l=>cond (!(a.Op == (13:Int))) ((zR c d e b l.1 l.2 ([[73]])).bind fun q=>zcO c d e b q.1 q.2) (zcO c d e b l.1 l.2)) (cond ((decide (21≤a.Op))&&(decide (a.Op≤36))) ((zcv c d e b f i a).bind fun m=>some (b,m.1,m.2)) (cond (a.Op == (20:Int)) ((zdF c d e b f i a.A b f).bind fun s=>some (b,f,s)) (cond ((decide (37≤a.Op))&&(decide (a.Op≤41))) ((zbW c d e b f i a).bind fun n=>some (b,n.1,n.2)) (cond ((decide (42≤a.Op))&&(decide (a.Op≤45))) ((zdE c d e b f i a).bind fun o=>some (b,o.1,o.2)) (cond ((decide (49≤a.Op))&&(decide (a.Op≤55))) ((zaG c d e b f i a).bind fun p=>some (b,p.1,p.2)) ((zO c d e b f i a).bind fun j=>some (j.1,j.2.1,j.2.2)))))))
theorem zkH(a:List za)(b:T0)(c:zb)(d:T1)(e:T1)(f:Bool)(i:zw){r:T1×T1×Bool}(h:zh a b c d e f i=some r):SC Tryz.prog 211 [.mpt 0 0 0,.agg (zi i)] (tR a b c d e f []) (.tup []) (tR a b c r.1 r.2.1 r.2.2 []):=by
 refine ⟨⟨t,t⟩,zP Tryz.func211 y kz y ?_⟩
 refine A ?_
 refine zj<|A ?_
 refine zeh h y (fun D h=>?_) fun D h=>?_
 ·obtain ⟨j,O,h⟩:=bs h
  refine A ?_
  refine zv (env0:=[(0,.mpt 0 0 0),(3,.mpt 1 0 0),(16,.mpt 0 0 0),(17,.isl 1 (map zt ([[73]])))]) (st0:=(sR a b c d e f [some (4,[(zi i)])])) (zp [.old 0,.old 1])<|u<|sx [0] (zS a b c d e f ([[73]]) O)<|zv (env0:=[(0,.mpt 0 0 0),(3,.mpt 1 0 0)]) (st0:=(sR a b c d j.1 j.2 [some (4,[(zi i)])])) (zp [.old 0,.old 1])<|zn ?_
  refine zaA (X:=T1×Bool) (fun z=>[(0,.mpt 0 0 0)]) (fun z=>(sR a b c d z.1 z.2 [])) (fun z=>zcO a b c d z.1 z.2=some r) ?_ ?_
  ·refine A ?_
   refine zeh h y (fun E h=>?_) fun E h=>?_
   ·obtain ⟨m,P,h⟩:=bs h
    refine A ?_
    exact zv (env0:=[(0,.mpt 0 0 0),(22,.mpt 0 0 0),(23,.isl 1 (map zt ([[73]])))]) (st0:=(sR a b c d j.1 j.2 [])) (zp [.old 0])<|u<|sx [0] (zS a b c d j.1 j.2 ([[73]]) P)<|zv (env0:=[(0,.mpt 0 0 0)]) (st0:=(sR a b c d m.1 m.2 [])) (zp [.old 0])<|zn (⟨⟨m.1,m.2⟩,h,zp [.old 0]⟩)
   ·refine ze ?_
    exact ⟨⟨j.1,j.2⟩,h,zp [.old 0]⟩
  ·rintro ⟨F,G⟩ h
   obtain ⟨n,Q,h⟩:=bs h
   refine rl y<|u<|mv y<|u<|sx [0] (zK a b c d F G [73] Q)<|zv (env0:=[]) (st0:=(sR a b c d n.1 n.2 [])) (zp [.old 0])<|zn ?_
   obtain rfl:=sm h
   exact ⟨_,y,zab [.old 0]⟩
 ·refine A ?_
  refine zeh h y (fun H h=>?_) fun H h=>?_
  ·obtain ⟨o,R,h⟩:=bs h
   refine A ?_
   refine u<|sx [0] (zls a b c d e f i R)<|zv (env0:=[]) (st0:=(sR a b c d o.1 o.2 [])) (zp [.old 0])<|zn ?_
   obtain rfl:=sm h
   exact ⟨_,y,zab [.old 0]⟩
  ·refine A ?_
   refine zeh h y (fun v h=>?_) fun v h=>?_
   ·obtain ⟨I,J,h⟩:=bs h
    refine ziy [] (sR a b c d e I []) [13] [0,1,2,3,4,5,6,7,8,9,10,11,12] [(55,_),(54,_),(53,_),(52,_),(51,_),(50,_),(49,_),(48,_),(47,_),(46,_),(45,_),(44,_),(43,_)] 1 (zcC (z:=by exact ⟨(fun _ _=>⟨_,y,y,sx [0] (zfM a b c d e f i.A d e J)<|⟨(.tup []),[],[(56,_)],y,y,y,y,zdg (z:=zaE [.old 0])⟩⟩),t⟩)) ?_
    obtain rfl:=sm h
    exact ⟨_,y,zab [.old 0]⟩
   ·refine A ?_
    refine zeh h y (fun x h=>?_) fun x h=>?_
    ·obtain ⟨p,K,h⟩:=bs h
     refine A ?_
     refine u<|sx [0] (zkG a b c d e f i K)<|zv (env0:=[]) (st0:=(sR a b c d p.1 p.2 [])) (zp [.old 0])<|zn ?_
     obtain rfl:=sm h
     exact ⟨_,y,zab [.old 0]⟩
    ·refine A ?_
     refine zeh h y (fun B h=>?_) fun B h=>?_
     ·obtain ⟨q,L,h⟩:=bs h
      refine A ?_
      refine u<|sx [0] (zlq a b c d e f i L)<|zv (env0:=[]) (st0:=(sR a b c d q.1 q.2 [])) (zp [.old 0])<|zn ?_
      obtain rfl:=sm h
      exact ⟨_,y,zab [.old 0]⟩
     ·refine A ?_
      refine zeh h y (fun C h=>?_) fun C h=>?_
      ·obtain ⟨s,M,h⟩:=bs h
       refine A ?_
       refine u<|sx [0] (zke a b c d e f i M)<|zv (env0:=[]) (st0:=(sR a b c d s.1 s.2 [])) (zp [.old 0])<|zn ?_
       obtain rfl:=sm h
       exact ⟨_,y,zab [.old 0]⟩
      ·obtain ⟨l,N,h⟩:=bs h
       refine A ?_
       refine u<|sx [0] (zkJ a b c d e f i N)<|zv (env0:=[]) (st0:=(sR a b c l.1 l.2.1 l.2.2 [])) (zp [.old 0])<|zn ?_
       obtain rfl:=sm h
       exact ⟨_,y,zab [.old 0]⟩
def zhE(c:T1)(d:T1)(a:Bool)(b:Bool):Option (Bool):=
  some ((!a)&&(!b))
def zdb(i:T0)(j:zT)(b:zb)(l:Bool)(c:Int)(m:zU×Bool)(n:Bool)(d:T1)(e:T1):Option (Sum (T1×T1×Bool×Bool×Int) (Sum (T1×T1×Bool×Bool) (Bool))):=
  (zbX j.L i b d e (n||(!(m.2||l))) c).bind fun o=>(idx b.Code c).bind fun p=>(zh j.L i b d e o p).bind fun a=>(idx b.Code c).bind fun f=>some (.inl (a.1,a.2.1,a.2.2,(!(zhm f.Op)),(IntKind.i64.wrap (c+1))))
def zb6(i:T0)(j:zT)(b:zb)(l:T1)(m:T1)(c:Bool)(d:Int)(a:zU×Bool)(e:Bool):Option (Sum (T1×T1×Bool×Bool×Int) (Sum (T1×T1×Bool×Bool) (Bool))):=
  cond a.2 ((zdK (zgv.mk a.1.Locals a.1.Stack)).bind fun f=>zdb i j b c d a e f.1 f.2) (zdb i j b c d a e l m)
def zax(j:T0)(l:zT)(c:zb)(a:T1)(b:T1)(d:Bool)(f:Bool)(e:Int):Option (Sum (T1×T1×Bool×Bool×Int) (Sum (T1×T1×Bool×Bool) (Bool))):=
  cond ((decide (e<(length c.Code:Int)))&&(!d)) ((zc6 l.L j c a b d e).bind fun i=>cond (i.2&&f) ((zdF l.L j c a b d e a b).bind fun m=>zb6 j l c a b f e i m) (zb6 j l c a b f e i d)) (some (.inr (.inl (a,b,d,f))))
def zid(f:T0)(e:zT)(a:zb)(c:Bool):Option (Bool):=
  (cond (a.Ret == [86]) (some true) ((zV e.L a.Ret).bind fun i=>some i)).bind fun d=>(zfc e.L f a [] [] (c||(!d))).bind fun j=>(zs (fun z=>zax f e a z.1 z.2.1 z.2.2.1 z.2.2.2.1 z.2.2.2.2) (j,[],(c||(!d)),true,0)).bind fun o=>zQ o (fun b=>zhE b.1 b.2.1 b.2.2.1 b.2.2.2) some
def zct(f:zT)(b:zb)(c:Bool)(a:Int):Option (Sum (Bool×Int) (Sum (Bool) (Bool))):=
  cond (decide (a<(length b.Params:Int))) ((idx b.Params a).bind fun d=>(zV f.L d).bind fun e=>some (.inl ((c||(!e)),(IntKind.i64.wrap (a+1))))) (some (.inr (.inl c)))
def zge(e:T0)(c:zT)(a:zb)(d:Bool):Option (Bool):=
  (zs (fun z=>zct c a z.1 z.2) (d,0)).bind fun o=>zQ o (fun b=>zid e c a b) some
def zl5(a:Int)(b:Bool):Option (Sum (Bool×Int) (Sum (Bool) (Bool))):=
  some (.inl (b,(IntKind.i64.wrap (a+1))))
def zcs(m:zT)(b:T1)(c:Bool)(a:Int):Option (Sum (Bool×Int) (Sum (Bool) (Bool))):=
  cond (decide (a<((length b):Int))) ((idx b a).bind fun d=>(cond (d == [84]) (some true) ((idx b a).bind fun e=>some (e == [78]))).bind fun f=>(cond f (some true) ((idx b a).bind fun i=>(zV m.L i).bind fun j=>some j)).bind fun l=>some (.inl ((c||(!l)),(IntKind.i64.wrap (a+1))))) (some (.inr (.inl c)))
def zbG(l:zT)(c:zb)(d:Bool)(a:Int):Option (Sum (Bool×Int) (Sum (Bool) (Bool))):=
  cond (decide (a<(length c.Maps:Int))) ((idx c.Maps a).bind fun e=>(idx c.Maps a).bind fun f=>(zfY 16 ([]:T1) e.Locals).bind fun i=>(zfY 16 i f.Stack).bind fun j=>(zs (fun z=>zcs l j z.1 z.2) (d,0)).bind fun o=>zQ o (fun b=>zl5 a b) (fun r=>some (.inr (.inr r)))) (some (.inr (.inl d)))
def zdZ(l:Option zT)(f:T0)(c:Int):Option (Bool):=
  zzK l (none) (fun a=>(zae a.L f).bind fun d=>(cond ((decide (d<0))||(decide (c<0))) (some true) ((idx a.L d).bind fun m=>some (decide ((length m.Methods:Int)≤c)))).bind fun n=>(cond n (some true) ((idx a.L d).bind fun p=>(idx p.Methods c).bind fun q=>some q.Abstract)).bind fun i=>cond i (some false) ((idx a.L d).bind fun j=>(idx j.Methods c).bind fun e=>(zs (fun z=>zbG a e z.1 z.2) (false,0)).bind fun o=>zQ o (fun b=>zge f a e b) some))
theorem zie(P:Option zT)(d:T0)(Y:Int){r:Bool}(h:zdZ P d Y=some r):zaF Tryz.prog 119 [zjI 1 zez P,sA d,iA Y] (bA r):=by
 refine zl Tryz.func119 y kz y y ?_
 unfold zdZ at h
 rcases P with _ |c
 ·replace h:=oeN h
  cases h
 ·replace h:=oeS h
  refine A ?_
  obtain ⟨v5,q1,h⟩:=bs h
  refine rg y<|u<|mv y<|u<|mv y<|u<|pc (zcM c.L d q1) y y y<|u<|asg y<|zn ?_
  refine zf ?_
  obtain ⟨v7,q5,v10,q9,h⟩:=bs2 h
  refine A ?_
  refine zeh h y (fun Q h=>?_) fun Q h=>?_
  ·refine A ?_
   exact RT0
  ·refine ze ?_
   obtain ⟨v11,q11,a,q12,h⟩:=bs2 h
   refine A ?_
   refine zf<|A ?_
   obtain ⟨o,ho,h⟩:=bs h
   refine lpB ho (fun z=>[(0,.ipt 1 [[.isl 6 (map zc c.L)]] 0 0),(8,.mpt 0 0 0),(9,iA z.2)]) (fun z=>[some (15,[(rK c.L d a (.lit (.slice none 0 0)) (.lit (.slice none 0 0)) (bA z.1))])]) (fun b=>[(0,.ipt 1 [[.isl 6 (map zc c.L)]] 0 0),(8,.mpt 0 0 0)]) (fun b=>[some (15,[(rK c.L d a (.lit (.slice none 0 0)) (.lit (.slice none 0 0)) (bA b))])]) (pG Tryz.f119 bA) (zaE [.old 0]) ?_ ?_
   ·rintro ⟨Z,m⟩ r h
    refine zf<|A ?_
    refine zeh h y (fun R h=>?_) fun R h=>?_
    ·refine ze<|zf<|zj ?_
     obtain ⟨v38,B,v39,v,H,q39,n,q40,h⟩:=bs4 h
     refine rdA [(0,.ipt 1 [[.isl 6 (map zc c.L)]] 0 0),(8,.mpt 0 0 0),(9,iA m),(10,.msl 1 0 (length n))] [some (15,[(rK c.L d a (.lit (.slice none 0 0)) (.lit (.slice none 0 0)) (bA Z))]),some (1,map zt n)] [9,19] [18,17,16,15,14,13,12,11,10,8,7,6,5,4,3,2,1,0] [(96,.isl 1 (map zt v39.Stack)),(95,.ipt 3 (map zx a.Maps) (Int.toNat m) 2),(94,.ipt 3 (map zx a.Maps) (Int.toNat m) 0),(93,iA m),(92,.isl 3 (map zx a.Maps)),(91,.mpt 0 0 10),(90,.mpt 0 0 2),(89,.mpt 0 0 0),(88,.mpt 0 0 0),(86,.isl 1 (map zt v38.Locals)),(85,.ipt 3 (map zx a.Maps) (Int.toNat m) 1),(84,.ipt 3 (map zx a.Maps) (Int.toNat m) 0),(83,iA m),(82,.isl 3 (map zx a.Maps)),(81,.mpt 0 0 10),(80,.mpt 0 0 2),(79,.mpt 0 0 0),(78,.mpt 0 0 0)] 2 (zvv ⟨(pb y (ldI ti y (zm v).2.2 y w)),(pb y (fa ti y y y w)),(pb y (ixI ti y ti y y y v w)),pe,(pb y (ld ti y y w)),(pb y (fa ti y y y w)),(pb y (fa ti y y y w)),pe,pe,(pb y (ldI ti y (zm B).2.2 y w)),(pb y (fa ti y y y w)),(pb y (ixI ti y ti y y y B w)),pe,(pb y (ld ti y y w)),(pb y (fa ti y y y w)),(pb y (fa ti y y y w)),pe,pe,t⟩ ⟨(fun _ _=>⟨_,y,y,apN (f:=zt) 1 ti y ti y y (by decide) ti y y y roI (fun _=>y) y q39<|⟨(.msl 1 0 (length H)),[],[(87,.msl 1 0 (length H))],y,y,kz,y,zvv ⟨(pb y (ldI ti y (zm v).2.2 y w)),(pb y (fa ti y y y w)),(pb y (ixI ti y ti y y y v w)),pe,(pb y (ld ti y y w)),(pb y (fa ti y y y w)),(pb y (fa ti y y y w)),pe,pe,pe,(pb y (fa ti y y y w)),(pb y (ixI ti y ti y y y B w)),pe,(pb y (ld ti y y w)),(pb y (fa ti y y y w)),(pb y (fa ti y y y w)),pe,pe,t⟩ ⟨nv,(fun _ _=>⟨_,y,y,apM 2 ti y ti y y (by decide) ti y y y y roI (fun _=>y) y q40<|⟨(.msl 2 0 (length n)),[20],[(10,.msl 2 0 (length n)),(97,.msl 2 0 (length n))],y,y,kz,y,zuJ ⟨pe,pe,(pb y (fa ti y y y w)),(pb y (ixI ti y ti y y y v w)),pe,(pb y (ld ti y y w)),(pb y (fa ti y y y w)),(pb y (fa ti y y y w)),pe,pe,pe,(pb y (fa ti y y y w)),(pb y (ixI ti y ti y y y B w)),pe,(pb y (ld ti y y w)),(pb y (fa ti y y y w)),(pb y (fa ti y y y w)),pe,pe,t⟩ (zp [.old 0,.old 2])⟩⟩),t⟩⟩⟩),nw,t⟩) ?_
     refine A ?_
     obtain ⟨o,ho,h⟩:=bs h
     refine lpS ho (fun z=>[(0,.ipt 1 [[.isl 6 (map zc c.L)]] 0 0),(8,.mpt 0 0 0),(9,iA m),(10,.msl 1 0 (length n)),(11,iA z.2)]) (fun z=>[some (15,[(rK c.L d a (.lit (.slice none 0 0)) (.lit (.slice none 0 0)) (bA z.1))]),some (1,map zt n)]) (fun b=>[(0,.ipt 1 [[.isl 6 (map zc c.L)]] 0 0),(8,.mpt 0 0 0),(9,iA m)]) (fun b=>[some (15,[(rK c.L d a (.lit (.slice none 0 0)) (.lit (.slice none 0 0)) (bA b))])]) (pG Tryz.f119 bA) (zaE [.old 0,.old 1]) ?_ ?_ ?_
     ·rintro ⟨I,v51⟩ r h
      refine zf<|A ?_
      refine zeh h y (fun S h=>?_) fun S h=>?_
      ·refine ze<|zf<|zj ?_
       obtain ⟨v52,q51,v54,q54,J,q58,h⟩:=bs3 h
       refine A ?_
       refine u<|sx [0] (zfN c.L d a I J y)<|zv (env0:=[(0,.ipt 1 [[.isl 6 (map zc c.L)]] 0 0),(8,.mpt 0 0 0),(9,iA m),(10,.msl 1 0 (length n)),(11,iA v51)]) (st0:=[some (15,[(rK c.L d a (.lit (.slice none 0 0)) (.lit (.slice none 0 0)) (bA (I||(!J))))]),some (1,map zt n)]) (zp [.old 0,.old 1])<|zn ?_
       refine A ?_
       obtain rfl:=sm h
       exact ⟨_,y,zp [.old 0,.old 1]⟩
      ·refine zy ?_
       obtain rfl:=sm h
       exact ⟨y,_,y,zp [.old 0]⟩
     ·rintro v58 rfl
      refine zu<|A ?_
      obtain rfl:=sm h
      exact ⟨_,y,zp [.old 0]⟩
     ·rintro r' rfl env st hp
      obtain rfl:=sm h
      exact ⟨_,y,hp⟩
    ·refine zy ?_
     obtain rfl:=sm h
     exact ⟨y,_,y,zp [.old 0]⟩
   ·rintro v59 rfl
    refine zu<|zf<|A ?_
    obtain ⟨o,ho,h⟩:=bs h
    refine lpB ho (fun z=>[(0,.ipt 1 [[.isl 6 (map zc c.L)]] 0 0),(8,.mpt 0 0 0),(12,iA z.2)]) (fun z=>[some (15,[(rK c.L d a (.lit (.slice none 0 0)) (.lit (.slice none 0 0)) (bA z.1))])]) (fun b=>[(0,.ipt 1 [[.isl 6 (map zc c.L)]] 0 0),(8,.mpt 0 0 0)]) (fun b=>[some (15,[(rK c.L d a (.lit (.slice none 0 0)) (.lit (.slice none 0 0)) (bA b))])]) (pG Tryz.f119 bA) (zaE [.old 0]) ?_ ?_
    ·rintro ⟨K,v65⟩ r h
     refine zf<|A ?_
     refine zeh h y (fun T h=>?_) fun T h=>?_
     ·refine ze<|zf<|zj ?_
      obtain ⟨v66,q63,M,q64,h⟩:=bs2 h
      refine A ?_
      refine u<|sx [0] (zfN c.L d a K M y)<|zv (env0:=[(0,.ipt 1 [[.isl 6 (map zc c.L)]] 0 0),(8,.mpt 0 0 0),(12,iA v65)]) (st0:=[some (15,[(rK c.L d a (.lit (.slice none 0 0)) (.lit (.slice none 0 0)) (bA (K||(!M))))])]) (zp [.old 0])<|zn ?_
      refine A ?_
      obtain rfl:=sm h
      exact ⟨_,y,zp [.old 0]⟩
     ·refine zy ?_
      obtain rfl:=sm h
      exact ⟨y,_,y,zp [.old 0]⟩
    ·rintro D rfl
     refine zu ?_
     obtain ⟨E,q67,h⟩:=bs h
     refine A ?_
     refine u<|sx [0] (zfN c.L d a D E y)<|zv (env0:=[(8,.mpt 0 0 0)]) (st0:=[some (15,[(rK c.L d a (.lit (.slice none 0 0)) (.lit (.slice none 0 0)) (bA (D||(!E))))])]) (zp [.old 0])<|zn ?_
     obtain ⟨v71,q68,h⟩:=bs h
     refine rg y<|u<|mv y<|ph 1<|ph 1<|u<|sc [0,1,2] (zkF c.L d a [] [] (D||(!E)) q68) y y y y ⟨(.mpt y),t⟩ ⟨⟨_,y,(zvw y ⟨(.nil0 y),(.nil0 y),(rnI y),t⟩)⟩,⟨y,mkI (fun _=>y)⟩,⟨y,mkI (fun _=>y)⟩,t⟩<|zn ?_
     refine A ?_
     refine zf<|A ?_
     obtain ⟨o,ho,h⟩:=bs h
     refine lpB ho (fun z=>[(8,.mpt 0 0 0),(13,bA z.2.2.2.1),(14,iA z.2.2.2.2)]) (fun z=>(sR c.L d a z.1 z.2.1 z.2.2.1 [])) (fun b=>[(8,.mpt 0 0 0),(13,bA b.2.2.2)]) (fun b=>(sR c.L d a b.1 b.2.1 b.2.2.1 [])) (pG Tryz.f119 bA) (zaE [.old 0]) ?_ ?_
     ·rintro ⟨j,l,C,p,i⟩ r h
      refine zf<|A ?_
      refine zeh h y (fun U h=>?_) fun U h=>?_
      ·refine ze<|zf<|zj ?_
       obtain ⟨e,q84,h⟩:=bs h
       refine rg y<|u<|mv y<|u<|mv y<|u<|sx [0] (zft c.L d a j l C i q84)<|zv (env0:=[(8,.mpt 0 0 0),(13,bA p),(14,iA i),(187,.tup [.agg (zx e.1),bA e.2])]) (st0:=(sR c.L d a j l C [])) (zp [.old 0])<|A ?_
       refine zaA (X:=Bool) (fun z=>[(8,.mpt 0 0 0),(13,bA p),(14,iA i),(15,.mpt 1 0 0),(16,bA e.2)]) (fun z=>(sR c.L d a j l z [some (3,[(zx e.1)])])) (fun z=>zb6 d c a j l p i e z=some r) ?_ ?_
       ·refine A ?_
        refine zeh h y (fun V h=>?_) fun V h=>?_
        ·obtain ⟨N,q87,h⟩:=bs h
         refine ziy [(8,_),(13,_),(14,_),(15,_),(16,_)] (sR c.L d a j l N [some (3,[(zx e.1)])]) [12] [0,1,2,3,4,5,6,7,8,9,10,11] [(205,_),(204,_),(203,_),(202,_),(201,_),(200,_),(199,_),(198,_),(197,_),(196,_),(195,_),(194,_)] 1 (zcC (z:=by exact ⟨(fun _ _=>⟨_,y,y,sx [0] (zfM c.L d a j l C i j l q87)<|⟨(.tup []),[],[(206,_)],y,y,y,y,zdg (z:=zaE [.old 0,.old 1])⟩⟩),t⟩)) ?_
         exact ⟨N,h,zp [.old 0,.old 1]⟩
        ·refine ze ?_
         exact ⟨C,h,zp [.old 0,.old 1]⟩
       ·rintro q h
        refine A ?_
        refine u<|sx [0] (zk c.L d a j l q (e.2||p) y)<|zv (env0:=[(8,.mpt 0 0 0),(14,iA i),(15,.mpt 1 0 0),(16,bA e.2)]) (st0:=(sR c.L d a j l (q||(!(e.2||p))) [some (3,[(zx e.1)])])) (zp [.old 0,.old 1])<|zn ?_
        refine zaA (X:=T1×T1) (fun z=>[(8,.mpt 0 0 0),(14,iA i)]) (fun z=>(sR c.L d a z.1 z.2 (q||(!(e.2||p))) [])) (fun z=>zdb d c a p i e q z.1 z.2=some r) ?_ ?_
        ·refine A ?_
         refine zeh h y (fun W h=>?_) fun W h=>?_
         ·obtain ⟨s,q90,h⟩:=bs h
          refine A ?_
          refine u<|sx [] (ziE (zgv.mk e.1.Locals e.1.Stack) q90)<|zv (env0:=[(8,.mpt 0 0 0),(14,iA i),(214,.mpt 0 0 0),(220,.agg [.msl 1 0 (length s.1),.msl 2 0 (length s.2)])]) (st0:=(sR c.L d a j l (q||(!(e.2||p))) [some (1,map zt s.1),some (1,map zt s.2)])) (zp [.old 0,.old 2,.old 3])<|A ?_
          exact (⟨⟨s.1,s.2⟩,h,zp [.old 0]⟩)
         ·refine ze ?_
          exact ⟨⟨j,l⟩,h,zp [.old 0]⟩
        ·rintro ⟨F,G⟩ h
         obtain ⟨O,q91,h⟩:=bs h
         refine rg y<|u<|mv y<|u<|mv y<|u<|sx [0] (zkL c.L d a F G (q||(!(e.2||p))) i q91)<|zv (env0:=[(8,.mpt 0 0 0),(14,iA i)]) (st0:=(sR c.L d a F G O [])) (zp [.old 0])<|zn ?_
         obtain ⟨v99,q92,x,q93,h⟩:=bs2 h
         refine A ?_
         refine u<|sx [0] (zkH c.L d a F G O v99 q93)<|zv (env0:=[(8,.mpt 0 0 0),(14,iA i)]) (st0:=(sR c.L d a x.1 x.2.1 x.2.2 [])) (zp [.old 0])<|zn ?_
         obtain ⟨v101,q94,h⟩:=bs h
         refine A ?_
         refine A ?_
         obtain rfl:=sm h
         exact ⟨_,y,zp [.old 0]⟩
      ·refine zy ?_
       obtain rfl:=sm h
       exact ⟨y,_,y,zp [.old 0]⟩
     ·rintro ⟨v102,v103,v104,v105⟩ rfl
      refine zu<|A ?_
      exact RT0
instance (a:Option zT)(b:T0)(c:Int):PF Tryz.prog 119 [zjI 1 zez a,sA b,iA c] (zdZ a b c) bA:=⟨fun _=>zie a b c⟩
def zrx:Option (Bool):=
  some true
def znB(a:Int):Option (Sum (Int) (Sum (Unit) (Bool))):=
  some (.inl (IntKind.i64.wrap (a+1)))
def zfj(c:List za)(l:(Option zY)×Int)(m:(Option zT)×Int)(b:Int)(a:Int):Option (Sum (Int) (Sum (Unit) (Bool))):=
  (idx c b).bind fun d=>cond (decide (a≤(length d.Methods:Int))) ((idx c b).bind fun e=>(zbE l.1 e.Name a).bind fun f=>(idx c b).bind fun i=>(zdZ m.1 i.Name a).bind fun j=>cond (!(f == j)) (some (.inr (.inr false))) (some (.inl (IntKind.i64.wrap (a+1))))) (some (.inr (.inl ())))
def zgj(c:List za)(d:(Option zY)×Int)(e:(Option zT)×Int)(a:Int):Option (Sum (Int) (Sum (Unit) (Bool))):=
  cond (decide (a<(length c:Int))) ((zs (fun z=>zfj c d e a z) (-1)).bind fun o=>zQ o (fun b=>znB a) (fun r=>some (.inr (.inr r)))) (some (.inr (.inl ())))
def ziY(a:List za):Option (Bool):=
  (zjs a).bind fun d=>(zn5 a).bind fun c=>cond ((!(d.2 == (0:Int)))||(Option.isNone c.1)) (some (Option.isNone c.1)) ((zs (fun z=>zgj a d c z) 0).bind fun o=>zQ o (fun b=>zrx) some)
theorem znC(c:List za){r:Bool}(h:ziY c=some r):zaF Tryz.prog 35 [.isl 6 (map zc c)] (bA r):=by
 refine zl Tryz.func35 y kz y y<|A ?_
 obtain ⟨e,H,h⟩:=bs h
 refine A ?_
 obtain ⟨f,I,h⟩:=bs h
 refine A ?_
 refine zf<|A ?_
 refine zq3 (j:=2) 2 y y y y y gpn (fun i=>g y i<|mv y<|g y i<|zCx ti y y y<|zn (egO [22,23] 2 i y y y y)) orT<|zn ?_
 refine zeh h y (fun C h=>?_) fun C h=>?_
 ·refine rg y<|u<|mv y<|u<|zCx ti y y y<|A ?_
  exact RT0
 ·refine ze<|zf<|A ?_
  obtain ⟨o,ho,h⟩:=bs h
  refine lpB ho (fun z=>[(0,.isl 6 (map zc c)),(3,zjI 2 zdJ e.1),(5,zjI 1 zez f.1),(7,iA z)]) (fun z=>[]) (fun b=>[]) (fun b=>[]) (pG Tryz.f35 bA) (zaE []) ?_ ?_
  ·rintro a r h
   refine zf<|A ?_
   refine zeh h y (fun v h=>?_) fun v h=>?_
   ·refine ze<|zf<|zj<|A ?_
    obtain ⟨o,ho,h⟩:=bs h
    refine lpS ho (fun z=>[(0,.isl 6 (map zc c)),(3,zjI 2 zdJ e.1),(5,zjI 1 zez f.1),(7,iA a),(8,iA z)]) (fun z=>[]) (fun b=>[(0,.isl 6 (map zc c)),(3,zjI 2 zdJ e.1),(5,zjI 1 zez f.1),(7,iA a)]) (fun b=>[]) (pG Tryz.f35 bA) (zaE []) ?_ ?_ ?_
    ·rintro d r h
     refine zf ?_
     obtain ⟨F,G,h⟩:=bs h
     refine A ?_
     refine zeh h y (fun x h=>?_) fun x h=>?_
     ·refine ze<|zf<|zj ?_
      obtain ⟨n,p,l,D,q,s,m,E,h⟩:=bs4 h
      refine rdA [(0,.isl 6 (map zc c)),(3,zjI 2 zdJ e.1),(5,zjI 1 zez f.1),(7,iA a),(8,iA d),(59,bA (!(l == m)))] [] [] [16,15,14,13,12,11,10,9,8,7,6,5,4,3,2,1,0] [(59,bA (!(l == m))),(58,bA m),(57,iA d),(56,sA q.Name),(55,.ipt 6 (map zc c) (Int.toNat a) 0),(54,.ipt 6 (map zc c) (Int.toNat a) 0),(53,iA a),(52,.isl 6 (map zc c)),(51,zjI 1 zez f.1),(50,bA l),(49,iA d),(48,sA n.Name),(47,.ipt 6 (map zc c) (Int.toNat a) 0),(46,.ipt 6 (map zc c) (Int.toNat a) 0),(45,iA a),(44,.isl 6 (map zc c)),(43,zjI 2 zdJ e.1)] 0 (zuJ ⟨(pb y (bne ti y y y w)),(pb y (pc (zie f.1 q.Name d E) y y (zxY (zq2 (fun _=>y)) (y)) w)),pe,(pb y (ldI ti y (zm s).2.2 y w)),(pb y (fa ti y y y w)),(pb y (ixI ti y ti y y y s w)),pe,pe,pe,(pb y (pc (zcf e.1 n.Name d D) y y (zxY (zq2 (fun _=>y)) (y)) w)),pe,(pb y (ldI ti y (zm p).2.2 y w)),(pb y (fa ti y y y w)),(pb y (ixI ti y ti y y y p w)),pe,pe,pe,t⟩ (zp [])) ?_
      refine zeh h y (fun B h=>?_) fun B h=>?_
      ·refine A ?_
       refine zD ?_
       obtain rfl:=sm h
       exact ⟨_,y,_,y,zab []⟩
      ·refine ze<|A ?_
       obtain rfl:=sm h
       exact ⟨_,y,zp []⟩
     ·refine zy ?_
      obtain rfl:=sm h
      exact ⟨y,_,y,zp []⟩
    ·rintro ⟨⟩ rfl
     refine zu<|A ?_
     obtain rfl:=sm h
     exact ⟨_,y,zp []⟩
    ·rintro r' rfl env st hp
     obtain rfl:=sm h
     exact ⟨_,y,hp⟩
   ·refine zy ?_
    obtain rfl:=sm h
    exact ⟨y,_,y,zp []⟩
  ·rintro ⟨⟩ rfl
   refine zu<|A ?_
   exact RT0
instance (a:List za):PF Tryz.prog 35 [.isl 6 (map zc a)] (ziY a) bA:=⟨fun _=>znC a⟩
structure Fx(wS:World)(G A:Am)(w:World):Prop where
 heap:∀B,B<Flo.N→w.heap[B]?=wS.heap[B]?
 os:w.os=wS.os
 tape:w.tape=wS.tape
 output:w.output=wS.output
 old:∀B k,A B k→G B k∨Flo.N≤B
theorem Fx.step{wS:World}{G A:Am}{m:BM}{nb:Nat}{w:World}{A':Am}{m':BM}{nb':Nat}{w':World}{st:St}(hR:R A m w st)(hS:zdG A m nb w A' m' nb' w')(h:Fx wS G A w):Fx wS G A' w':=
 ⟨fun B hB=>(hS.heap B (Nat.lt_of_lt_of_le hB hR.nLe) fun l b hb hh he=>by have:=(hR.nOwn l b hb hh).1;omega).trans (h.heap B hB),hS.os.trans h.os,hS.tape.trans h.tape,hS.output.trans h.output,fun B k hA=>by
  rcases hS.aNew B k hA with h1 |h1 |⟨l,b,h1,h2,rfl⟩
  ·exact h.old B k h1
  ·exact .inr (Nat.le_trans hR.nLe h1)
  ·exact .inr (hR.nOwn l b h1 h2).1⟩
def noA:Am:=fun _ _=>False
theorem Fx.fresh{wS:World}{A:Am}{w:World}(h:Fx wS noA A w){B k:Nat}(hA:A B k):Flo.N≤B:=(h.old B k hA).resolve_left id
def FO(wS:World)(G:Am)(n:Nat)(K:Ev→St→Prop)(a:Act)(w:World):Prop:=∃A m env st,Fx wS G A w∧R A m w st∧Env A m st.length w n env a∧K env st
def FW(P:Program)(n:Nat)(wS:World)(G:Am)(c:Code)(Q:Exit→Ev→St→Prop)(env:Ev)(st:St):Prop:=
 ∀A m w a,Fx wS G A w→R A m w st→Env A m st.length w n env a→c.wp P (fun e a' w'=>FO wS G n (Q e) a' w') a w
theorem FO.mono{wS:World}{G:Am}{n:Nat}{K K':Ev→St→Prop}{a:Act}{w:World}(h:FO wS G n K a w)(hk:∀env st,K env st→K' env st):FO wS G n K' a w:=
 let ⟨A,m,env,st,h1,h2,h3,h4⟩:=h;⟨A,m,env,st,h1,h2,h3,hk _ _ h4⟩
section
variable {P : Program} {n : Nat} {wS : World} {G : Am} {Q : Exit → Ev → St → Prop} {env : Ev} {st : St}
theorem ze3{c:Code}(h:SW P n 0 c Q env st):FW P n wS G c Q env st:=fun A m w a hF hR hE =>
 wp_mono (h A m w a (Nat.zero_le _) hR hE) fun e a' w' ⟨A',m',env',st',h1,h2,h3,h4⟩=>⟨A',m',env',st',hF.step hR h3,h1,h2,h4⟩
theorem zdR{x y:Code}(h:FW P n wS G x (zsf (FW P n wS G y Q) Q) env st):FW P n wS G (.seq x y) Q env st:=fun A m w a hF hR hE=>by
 refine wp_seq (wp_mono (h A m w a hF hR hE) fun e a' w' ho=>?_)
 cases e with
 |normal=>obtain ⟨A',m',env',st',h1,h2,h3,h4⟩:=ho;exact h4 A' m' w' a' h1 h2 h3
 |ret=>exact ho
 |exit id=>exact ho
 |goto l=>exact ho
 |panic c=>exact ho
 |outgrown=>exact ho
theorem zf9{c:Operand}{x y:Code}{b:Bool}(hc:ev env c=some (.lit (.bool b)))(ht:b=true→FW P n wS G x Q env st)(hf:b=false→FW P n wS G y Q env st):FW P n wS G (.cond c x y) Q env st:=fun A m w a hF hR hE=>by
 have h1:=(zL hE hc).lit_inv
 exact wp_cond_split h1 (fun h=>ht h A m w a hF hR hE) (fun h=>hf h A m w a hF hR hE)
theorem zyo{id:Nat}{c:Code}(h:FW P n wS G c (zmk id Q) env st):FW P n wS G (.block id c) Q env st:=fun A m w a hF hR hE=>by
 refine wp_block (wp_mono (h A m w a hF hR hE) fun e a' w' ho=>?_)
 cases e with
 |exit id' =>
  obtain ⟨A',m',env',st',h1,h2,h3,h4⟩:=ho
  simp only [Exit.inBlock]
  simp only [zmk] at h4
  split
  ·rename_i hid;rw [if_pos hid] at h4;exact ⟨A',m',env',st',h1,h2,h3,h4⟩
  ·rename_i hid;rw [if_neg hid] at h4;exact ⟨A',m',env',st',h1,h2,h3,h4⟩
 |normal=>exact ho
 |ret=>exact ho
 |goto l=>exact ho
 |panic c=>exact ho
 |outgrown=>exact ho
theorem zAp{c:Code}{Q':Exit→Ev→St→Prop}(h:FW P n wS G c Q env st)(hq:∀e env st,Q e env st→Q' e env st):FW P n wS G c Q' env st:=fun A m w a hF hR hE =>
 wp_mono (h A m w a hF hR hE) fun e a' w' ho=>ho.mono fun env st h=>hq e env st h
def zCB(e:Ev):Bool:=e.all fun p=>match p.2 with |.lit _ |.mpt .. |.msl ..=>true |_=>false
def zDv:AV→Bool
 |.lit _=>true
 |_=>false
def zBG:Option (Nat×List (List AV))→Bool
 |some (_,els)=>els.all fun r=>r.all zDv
 |none=>true
def zrB(st:St):Bool:=st.all zBG
theorem znZ{f:AV→Bool}:∀{e:Ev} {t:Nat} {v:AV},(e.all fun p=>f p.2)=true→look e t=some v→f v=true
 | [],_,_,_,h=>by cases h
 |(k,x)::e,t,v,ha,h=>by
  simp only [List.all_cons,Bool.and_eq_true] at ha
  simp only [look] at h
  split at h
  ·cases h;exact ha.1
  ·exact znZ ha.2 h
theorem zrC{st:St}(h:zrB st=true){l k:Nat}{els:List (List AV)}(he:st[l]?=some (some (k,els))){i j:Nat}(hi:i<els.length)(hj:j<els[i].length):∃v,els[i][j]=.lit v:=by
 have h1:=(List.all_eq_true.1 h) _ (List.mem_of_getElem? he)
 simp only [zBG,List.all_eq_true] at h1
 have h2:=h1 _ (List.getElem_mem hi) _ (List.getElem_mem hj)
 generalize els[i][j]=x at h2
 cases x with
 |lit v=>exact ⟨v,rfl⟩
 |_=>cases h2
theorem R.again{A A':Am}{m:BM}{w w':World}{st:St}(hR:R A m w st)(hl:zrB st=true)(hs:w.heap.size≤w'.heap.size)(hb:∀l b,m l=some b→b.has=true→w'.heap[b.B]?=w.heap[b.B]?)
  (h1:∀B k,A' B k→B<w'.heap.size) (h2:∀B k l b,A' B k→m l=some b→b.has=true→b.B≠B) (h3:∀B k k',Flo.N≤B→A' B k→A' B k'→k=k'):R A' m w' st:=by
 refine ⟨h1,h2,h3,Nat.le_trans hR.nLe hs,hR.nOwn,hR.inj,hR.live,fun l k els he=>?_⟩
 obtain ⟨b,k1,k2,k3,k4⟩:=hR.blk l k els he
 refine ⟨b,k1,k2,fun hh=>?_,k4⟩
 have ho:=k3 hh
 have hB:=hb l b k1 hh
 refine ⟨Nat.lt_of_lt_of_le ho.low hs,fun hm off h=>?_,fun hm off h=>?_,ho.fit,ho.wide,fun hm i hi j hj=>?_,fun hm=>?_⟩
 ·rw [zcF hB];exact ho.there hm off h
 ·rw [zk5 hB];exact ho.free hm off h
 ·obtain ⟨v,h4,h5⟩:=ho.val hm i hi j hj
  obtain ⟨u,hu⟩:=zrC hl he hi hj
  rw [hu] at h5 ⊢
  exact ⟨v,by rw [zcF hB];exact h4,by rw [h5.lit_inv];exact .imm (.lit _)⟩
 ·obtain ⟨h0,es,clock,h4,h5,h6⟩:=ho.mval hm
  refine ⟨h0,es,clock,hB.trans h4,h5,fun i hi j hj=>?_⟩
  obtain ⟨u,hu⟩:=zrC hl he hi hj
  have:=h6 i hi j hj
  rw [hu] at this ⊢
  rw [this.lit_inv]
  exact .imm (.lit _)
theorem V.again{A A':Am}{m:BM}{nb:Nat}{w w':World}{x:AV}{v:Value}(hx:(match x with |.lit _ |.mpt .. |.msl ..=>true |_=>false)=true)(h:V A m nb w x v):V A' m nb w' x v:=by
 cases x with
 |lit u=>rw [h.lit_inv];exact .imm (.lit _)
 |mpt l i j=>obtain ⟨h1,a,rfl,h2⟩:=h.mpt_inv;exact .mpt _ _ _ _ h1 h2
 |msl l i k=>obtain ⟨h1,a,n',cap,rfl,h2⟩:=h.msl_inv;exact .msl _ _ _ _ _ _ h1 h2
 |_=>cases hx
theorem zyp{c:Code}{d:Nat}{av:AV}{env0:Ev}(hd:look env d=some (.fr av))(he:∀t v,look env0 t=some v→look env t=some v)(hl:zCB env0=true)(hst:zrB st=true)
  (h:FW P n wS noA c Q ((d,av)::env0) st):FW P n wS G c Q env st:=fun A m w a hF hR hE=>by
 have hR':R (Afr A) m w st:=hR.again hst (Nat.le_refl _) (fun _ _ _ _=>rfl) (fun B k hB=>hR.aLow B k hB.1) (fun B k l b hB=>hR.aOwn B k l b hB.1) (fun B k k' hN hB hB'=>hR.aFun B k k' hN hB.1 hB'.1)
 have hE':Env (Afr A) m st.length w n ((d,av)::env0) a:=⟨hE.size,fun t v ht=>by
  simp only [look] at ht
  split at ht
  ·rename_i e
   subst e;cases ht
   obtain ⟨h1,h2⟩:=hE.val d _ hd
   refine ⟨h1,?_⟩
   cases h2.fr_inv with
   |fr _ _ h=>exact .imm h
  ·obtain ⟨h1,h2⟩:=hE.val t v (he t v ht)
   exact ⟨h1,h2.again (znZ (f:=fun v=>match v with |.lit _ |.mpt .. |.msl ..=>true |_=>false) hl ht)⟩,hE.defers⟩
 refine wp_mono (h _ m w a ⟨hF.heap,hF.os,hF.tape,hF.output,fun B k hB=>.inr hB.2⟩ hR' hE') fun e a' w' ⟨A',m',env',st',h1,h2,h3,h4⟩=>⟨A',m',env',st',⟨h1.heap,h1.os,h1.tape,h1.output,fun B k hB=>.inr (h1.fresh hB)⟩,h2,h3,h4⟩
def FP(P:Program)(n:Nat)(wS:World)(G:Am)(o:Oper)(K:Ev→St→Prop)(env:Ev)(st:St):Prop:=
 ∀A m w a,Fx wS G A w→R A m w st→Env A m st.length w n env a→∀next Q',(∀a' w',FO wS G n K a' w'→next a' w')→Oper.wp P o a w next Q'
def FRg(P:Program)(n:Nat)(wS:World)(G:Am)(all l:List Oper)(K:Ev→St→Prop)(env:Ev)(st:St):Prop:=
 ∀(ops:Array Oper) (i:Nat),ops.toList=all→all.drop i=l→all.all (fun o=>o.dst.all (·<n))=true→∀A m w a,Fx wS G A w→R A m w st→Env A m st.length w n env a →
  ∀Q:Exit→Act→World→Prop,(∀a' w',FO wS G n K a' w'→Q .normal a' w')→wpOps P ops Q (List.range' i l.length) a w
theorem zzv{all:List Oper}{K:Ev→St→Prop}(h:K env st):FRg P n wS G all [] K env st:=fun ops i _ _ _ A m w a hF hR hE Q hQ=>by
 simp only [List.length_nil,List.range'_zero,wpOps]
 exact hQ a w ⟨A,m,env,st,hF,hR,hE,h⟩
theorem zBx{all l1 l2:List Oper}{K:Ev→St→Prop}(h:SR P n 0 all l1 l2 (FRg P n wS G all l2 K) env st):FRg P n wS G all (l1++l2) K env st:=fun ops i ho hd hn A m w a hF hR hE Q hQ=>by
 rw [List.length_append]
 refine h ops i ho hd hn A m w a (Nat.zero_le _) hR hE Q fun a' w' ⟨A',m',env',st',h1,h2,h3,h4⟩=>?_
 exact h4 ops (i+l1.length) ho (by rw [←List.drop_drop,hd];simp) hn A' m' w' a' (hF.step hR h3) h1 h2 Q hQ
theorem zBw{all l:List Oper}{o:Oper}{K:Ev→St→Prop}(hg:o.guard=none)(h:FP P n wS G o (FRg P n wS G all l K) env st):FRg P n wS G all (o ::l) K env st:=fun ops i ho hd hn A m w a hF hR hE Q hQ=>by
 have hop:ops[i]?=some o:=by
  have h1:(all.drop i)[0]?=some o:=by rw [hd];rfl
  rw [←ho] at h1
  simpa using h1
 have hd':all.drop (i+1)=l:=by
  have:=congrArg List.tail hd
  simpa [List.tail_drop] using this
 simp only [List.length_cons,List.range'_succ,wpOps,hop]
 have hw:Region.wanted o (yielded ops a.tmps)=true:=by unfold Region.wanted;rw [hg]
 rw [hw]
 simp only [if_true]
 exact .inl (h A m w a hF hR hE _ Q fun a' w' ⟨A',m',env',st',h1,h2,h3,h4⟩=>h4 ops (i+1) ho hd' hn A' m' w' a' h1 h2 h3 Q hQ)
theorem zBB{id:Nat}{ops:Array Oper}(hn:ops.toList.all (fun o=>o.dst.all (·<n))=true)(h:FRg P n wS G ops.toList ops.toList (Q .normal) env st):FW P n wS G (.region id ops false) Q env st:=fun A m w a hF hR hE=>by
 refine wp_region ?_
 have:=h ops 0 rfl rfl hn A m w a hF hR hE (fun e a' w'=>FO wS G n (Q e) a' w') fun a' w' h=>h
 rw [List.range_eq_range']
 simpa using this
theorem Oper.wp_same{o:Oper}{a:Act}{w:World}{K:Act→World→Prop}{Q1 Q2:Exit→Act→World→Prop}(hq:∀e a w,e≠.normal→Q1 e a w→Q2 e a w)(h:o.wp P a w K Q1):o.wp P a w K Q2:=by
 unfold Oper.wp at *
 generalize (execOp a.eval o).run P w=r at *
 cases r with
 |ok n w' =>
  cases n with
  |enter f args =>
   simp only [Oper.upon] at h ⊢
   refine Calls.mono h fun e w'' he=>?_
   cases e with
   |returned v=>exact he
   |panicked c=>exact hq _ _ _ (by intro h;cases h) he
   |outgrown=>obtain ⟨a1,w1,h1⟩:=he;exact ⟨a1,w1,hq _ _ _ (by intro h;cases h) h1⟩
  |_=>exact h
 |halt x w' =>
  cases x with
  |panic v=>exact hq _ _ _ (by intro h;cases h) h
  |_=>exact h
def zjB(P:Program)(z:Oper)(Q:Exit→Act→World→Prop):Exit→Act→World→Prop
 |.normal,a,w=>z.wp P a w (Q .normal) Q
 |e,a,w=>Q e a w
theorem zyz{z:Oper}{Q:Exit→Act→World→Prop}{e:Exit}{a:Act}{w:World}(he:e≠.normal)(h:zjB P z Q e a w):Q e a w:=by
 cases e with
 |normal=>exact absurd rfl he
 |_=>exact h
def zwB(l1:List Oper)(z:Oper)(i:Nat):Bool:=z.after.toList.any fun e=>Region.binds .any e&&Nat.beq e.on i
def zzj(l1:List Oper)(z:Oper):Bool:=(List.range l1.length).all fun i=>zwB l1 z i||(List.range l1.length).any fun j=>zwB l1 z j&&zmT l1 j i
theorem zlm{ops ops1:Array Oper}{z:Oper}{Q:Exit→Act→World→Prop}(he:ops.toList=ops1.toList++[z])(hok:zj9 n ops1.toList=true)(hgs:ops1.toList.all (fun o=>o.guard.isNone)=true)(hg:z.guard=none)
  (hz:zzj ops1.toList z=true) (hzl:z.after.toList.all (fun e=>!Region.binds .any e||Nat.blt e.on ops1.size)=true):
  ∀(fuel:Nat) (listed:Array Bool) (a:Act) (w:World),listed.size=ops1.size→(∀s i,listed.getD s false=true→zmT ops1.toList s i=true→listed.getD i false=true)→wpAny P .any ops1 (zjB P z Q) fuel listed a w→wpAny P .any ops Q (fuel+1) (listed.push false) a w:=by
 obtain ⟨hok1,_⟩:=zpB hok
 have hsz:ops.size=ops1.size+1:=by
  have:=congrArg List.length he
  simpa using this
 have hlt:∀i,i<ops1.size→ops[i]?=ops1[i]?:=fun i hi=>by
  have:ops.toList[i]?=ops1.toList[i]?:=by rw [he,List.getElem?_append_left (by simpa using hi)]
  simpa using this
 have hlast:ops[ops1.size]?=some z:=by
  have:ops.toList[ops1.size]?=some z:=by rw [he,List.getElem?_append_right (by simp)];simp
  simpa using this
 have gd:∀(listed:Array Bool),listed.size=ops1.size→∀j b,j≠ops1.size→(listed.push false).getD j b=listed.getD j b:=fun listed hl j b hj=>by
  rcases Nat.lt_or_ge j listed.size with h |h
  ·simp [Array.getD,Array.getElem_push_lt,h,Nat.lt_succ_of_lt h]
  ·have h1:¬j<listed.size:=by omega
   have h2:¬j<listed.size+1:=by omega
   simp [Array.getD,h1,h2]
 have allin:∀listed:Array Bool,listed.size=ops1.size→Region.ready .any ops1 listed=[]→∀j,j<ops1.size→listed.getD j false=true:=fun listed hsz hr j=>by
  induction j using Nat.strongRecOn with
  |_ j ihj =>
   intro hj
   cases hb:listed.getD j false with
   |true=>rfl
   |false =>
    exfalso
    have hj':j<listed.size:=by omega
    have hb':listed.getD j true=false:=by simpa [Array.getD,hj'] using hb
    have hoj:ops1[j]?=some ops1[j]:=Array.getElem?_eq_getElem hj
    have:j∈Region.ready .any ops1 listed:=mem_ready.2 ⟨hb',_,hoj,fun e he hbe=>by
     have hlt:=(hok1 j ops1[j] (by simp)).2 e (by simpa using he) hbe
     exact ihj e.on hlt (by omega)⟩
    rw [hr] at this
    cases this
 have r1:∀(listed:Array Bool),listed.size=ops1.size→∀i,i≠ops1.size→i∈Region.ready .any ops (listed.push false)→i∈Region.ready .any ops1 listed:=fun listed hl i hi h=>by
  obtain ⟨h1,o,ho,h2⟩:=mem_ready.1 h
  have hil:i<ops1.size:=by have:=(Array.getElem?_eq_some_iff.1 ho).1;omega
  rw [hlt i hil] at ho
  refine mem_ready.2 ⟨by rw [←gd listed hl i true hi];exact h1,o,ho,fun e he hb=>?_⟩
  have hel:=(hok1 i o (by simpa using ho)).2 e (by simpa using he) hb
  rw [←gd listed hl e.on false (by omega)]
  exact h2 e he hb
 have r2:∀(listed:Array Bool),listed.size=ops1.size→(∀j,j<ops1.size→listed.getD j false=true)→ops1.size∈Region.ready .any ops (listed.push false):=fun listed hl h=>by
  refine mem_ready.2 ⟨by simp [Array.getD,←hl],z,hlast,fun e he hb=>?_⟩
  have h1:=(List.all_eq_true.1 hzl) e (by simpa using he)
  rw [hb] at h1
  have h2:e.on<ops1.size:=by simpa using h1
  rw [gd listed hl e.on false (by omega)]
  exact h e.on h2
 have r3:∀(listed:Array Bool),listed.size=ops1.size→(∀s i,listed.getD s false=true→zmT ops1.toList s i=true→listed.getD i false=true)→ops1.size∈Region.ready .any ops (listed.push false)→∀j,j<ops1.size→listed.getD j false=true:=fun listed hl hW h j hj=>by
  obtain ⟨_,o,ho,h2⟩:=mem_ready.1 h
  rw [hlast] at ho
  cases ho
  have dir:∀j,j<ops1.size→zwB ops1.toList z j=true→listed.getD j false=true:=fun j hj h1=>by
   obtain ⟨e,he,h3⟩:=List.any_eq_true.1 h1
   simp only [Bool.and_eq_true] at h3
   have h4:=h2 e (by simpa using he) h3.1
   rw [Nat.eq_of_beq_eq_true h3.2,gd listed hl j false (by omega)] at h4
   exact h4
  have h1:=(List.all_eq_true.1 hz) j (List.mem_range.2 (by simpa using hj))
  simp only [Bool.or_eq_true] at h1
  rcases h1 with h1 |h1
  ·exact dir j hj h1
  ·obtain ⟨q,hq,h5⟩:=List.any_eq_true.1 h1
   simp only [Bool.and_eq_true] at h5
   exact hW q j (dir q (by simpa using hq) h5.1) h5.2
 have fin:∀(fuel:Nat) (listed:Array Bool) (a:Act) (w:World),listed.size=ops1.size→(∀j,j<ops1.size→listed.getD j false=true)→zjB P z Q .normal a w →
   wpOp P ops Q ops1.size (wpAny P .any ops Q fuel ((listed.push false).setIfInBounds ops1.size true)) a w:=fun fuel listed a w hl hall h=>by
  unfold wpOp
  rw [hlast]
  simp only
  have hw:Region.wanted z (yielded ops a.tmps)=true:=by unfold Region.wanted;rw [hg]
  rw [hw]
  simp only [if_true]
  refine .inl (Oper.wp_mono (fun a' w' hq=>?_) h)
  have hr:Region.ready .any ops ((listed.push false).setIfInBounds ops1.size true)=[]:=by
   rw [List.eq_nil_iff_forall_not_mem]
   intro j hj
   obtain ⟨h1,o,ho,_⟩:=mem_ready.1 hj
   have hj':j<ops1.size+1:=by have:=(Array.getElem?_eq_some_iff.1 ho).1;omega
   by_cases hjl:j=ops1.size
   ·subst hjl
    simp [Array.getD,←hl] at h1
   ·rw [getD_set_ne true (Ne.symm hjl),gd listed hl j true hjl] at h1
    have:=hall j (by omega)
    have hj2:j<listed.size:=by omega
    simp [Array.getD,hj2] at this h1
    rw [this] at h1;cases h1
  cases fuel with
  |zero=>exact ⟨hr,hq⟩
  |succ fuel=>exact ⟨fun _=>hq,fun i hi=>by rw [hr] at hi;cases hi⟩
 intro fuel
 induction fuel with
 |zero =>
  intro listed a w hl hW h
  have hall:=allin listed hl h.1
  refine ⟨fun h0=>?_,fun i hi=>?_⟩
  ·have:=r2 listed hl hall
   rw [h0] at this;cases this
  ·by_cases hil:i=ops1.size
   ·subst hil;exact fin 0 listed a w hl hall h.2
   ·have:=r1 listed hl i hil hi
    rw [h.1] at this;cases this
 |succ fuel ih =>
  intro listed a w hl hW h
  refine ⟨fun h0=>?_,fun i hi=>?_⟩
  ·have hr0:Region.ready .any ops1 listed=[]:=by
    rw [List.eq_nil_iff_forall_not_mem]
    intro j hj
    obtain ⟨h1,o,ho,h2⟩:=mem_ready.1 hj
    have hjl:j<ops1.size:=(Array.getElem?_eq_some_iff.1 ho).1
    have:j∈Region.ready .any ops (listed.push false):=mem_ready.2 ⟨by rw [gd listed hl j true (by omega)];exact h1,o,by rw [hlt j hjl];exact ho,fun e he hb=>by
     have hel:=(hok1 j o (by simpa using ho)).2 e (by simpa using he) hb
     rw [gd listed hl e.on false (by omega)]
     exact h2 e he hb⟩
    rw [h0] at this;cases this
   have:=r2 listed hl (allin listed hl hr0)
   rw [h0] at this;cases this
  ·by_cases hil:i=ops1.size
   ·subst hil
    have hall:=r3 listed hl hW hi
    refine fin _ listed a w hl hall (h.1 ?_)
    rw [List.eq_nil_iff_forall_not_mem]
    intro j hj
    obtain ⟨h1,o,ho,_⟩:=mem_ready.1 hj
    have hj':=(Array.getElem?_eq_some_iff.1 ho).1
    have:=hall j hj'
    have hj2:j<listed.size:=by omega
    simp [Array.getD,hj2] at this h1
    rw [this] at h1;cases h1
   ·have hi1:=r1 listed hl i hil hi
    have h3:=h.2 i hi1
    obtain ⟨_,o,ho,hdep⟩:=mem_ready.1 hi1
    have hjl:i<ops1.size:=(Array.getElem?_eq_some_iff.1 ho).1
    have hgo:o.guard=none:=by
     have:=(List.all_eq_true.1 hgs) o (List.mem_of_getElem? (by simpa using ho:ops1.toList[i]?=some o))
     simpa using this
    unfold wpOp at h3 ⊢
    rw [ho] at h3
    rw [hlt i hjl,ho]
    simp only at h3 ⊢
    have hw1:Region.wanted o (yielded ops1 a.tmps)=true:=by unfold Region.wanted;rw [hgo]
    have hw2:Region.wanted o (yielded ops a.tmps)=true:=by unfold Region.wanted;rw [hgo]
    rw [hw1] at h3
    rw [hw2]
    simp only [if_true] at h3 ⊢
    rcases h3 with h3 |⟨h3,a1,w1,h4⟩
    ·refine .inl (Oper.wp_same (fun e a w hne hq=>zyz hne hq) (Oper.wp_mono (fun a' w' hq=>?_) h3))
     have hil':i<listed.size:=by omega
     have:=ih (listed.setIfInBounds i true) a' w' (by simpa using hl) (fun s q hs hw=>by
      have up:∀j,listed.getD j false=true→(listed.setIfInBounds i true).getD j false=true:=fun j hj=>by
       by_cases h:j=i
       ·subst h;simp [Array.getD,hil']
       ·rw [getD_set_ne false (Ne.symm h)];exact hj
      by_cases hsi:s=i
      ·subst hsi
       obtain ⟨e,he,hb,rfl⟩:=zq0 (by simpa using ho:ops1.toList[s]?=some o) hw
       exact up _ (hdep e (by simpa using he) hb)
      ·rw [getD_set_ne false (Ne.symm hsi)] at hs
       exact up q (hW s q hs hw)) hq
     have e1:(listed.push false).setIfInBounds i true=(listed.setIfInBounds i true).push false:=by
      apply Array.ext'
      simp [List.set_append,hl,hjl]
     rw [e1]
     exact this
    ·exact .inr ⟨h3,a1,w1,h4⟩
theorem zBA{id:Nat}{ops:Array Oper}{l1:List Oper}{z:Oper}(hall:ops.toList=l1++[z])(ss en:List Nat)(F:Ev)(k:Nat)(hm:P.follows .mixedOrders=true)(hok:zj9 n l1=true)(hgs:l1.all (fun o=>o.guard.isNone)=true)(hg:z.guard=none)
  (hz:zzj l1 z=true) (hzl:z.after.toList.all (fun e=>!Region.binds .any e||Nat.blt e.on l1.length)=true)
  (hss:znP l1.length ss=true) (hks:zgN l1 en (zb8 F)=true) (h:DT P l1 ss env (fun env st=>FP P n wS G z (Q .normal) env st) k [] en F st):FW P n wS G (.region id ops true) Q env st:=fun A m w a hF hR hE=>by
 have hg':ziN w { w with drawn:=w.drawn+1 }:=⟨Nat.le_refl _,fun _ _=>rfl,rfl,rfl,rfl⟩
 obtain ⟨hR1,hS1⟩:=hR.grow' hg'
 refine wp_region_any hm ?_
 have hl1:l1.toArray.toList=l1:=rfl
 have hsz:ops.size=l1.length+1:=by
  have:=congrArg List.length hall
  simpa using this
 have hf:∀j,(Array.replicate l1.toArray.size false).getD j false=false:=fun j=>by simp [Array.getD]
 have hd:=zux (P:=P) (ops:=l1.toArray) (ss:=ss) (env0:=env) (n:=n) (nb0:=0) (A0:=A) (m0:=m) (w0:=w) (K:=fun env st=>FP P n wS G z (Q .normal) env st) (Q:=zjB P z (fun e a' w'=>FO wS G n (Q e) a' w')) hok (zoG (by simpa using hss))
  (fun a' w' ⟨A',m',env',st',h1,h2,h3,h4⟩=>h4 A' m' w' a' (hF.step hR h3) h1 h2 _ _ fun a2 w2 h=>h) l1.toArray.size k [] en F st (Array.replicate l1.toArray.size false) A m _ a h
  (fun i hi=>by cases hi) (fun i _ hl=>by rw [hf] at hl;cases hl) (fun i hl _=>by rw [hf] at hl;cases hl) (fun s i hs _=>by rw [hf] at hs;cases hs) (fun t v ht=>by
   obtain ⟨j,_,hj⟩:=zjy hks t (zhR ht)
   exact ⟨j,hj⟩) (fun j t hl _=>by rw [hf] at hl;cases hl) (by simp) (by
   refine Nat.le_trans (List.countP_le_length) ?_
   simp) hR1 (hS1.weak (Nat.zero_le _)) hE.size hE.defers (fun t v hJ=>by
   rcases hJ with ⟨hJ,_⟩ |⟨j,hj,_⟩
   ·exact (hE.step hR hS1).val t v hJ
   ·rw [hf] at hj;cases hj)
 have:=zlm (P:=P) (n:=n) (ops:=ops) (ops1:=l1.toArray) (z:=z) (Q:=fun e a' w'=>FO wS G n (Q e) a' w') hall hok hgs hg hz (by simpa using hzl) _ _ _ _ (by simp) (fun s i hs _=>by rw [hf] at hs;cases hs) hd
 rw [hsz]
 have e1:Array.replicate (l1.length+1) false=(Array.replicate l1.toArray.size false).push false:=by
  apply Array.ext'
  simp [List.replicate_succ']
 rw [e1]
 simpa using this
end
def zvA(P:Program)(f:FuncId)(args:List AV):Prop:=
 ∀A w vals,AOk A w→Flo.N=w.heap.size→VIL A w args vals→Calls P f vals w fun e w'=>e=.returned (.bool true)∧ziN w w'
theorem zvA.truly{P:Program}{f:FuncId}{args:List AV}(h:zvA P f args){W:World}{vals:Array Value}(hN:Flo.N=W.heap.size)(hv:VIL (fun B _=>B<W.heap.size) W args vals):Calls P f vals W fun e w'=>e=.returned (.bool true)∧ziN W w':=
 h _ W vals ⟨fun _ _ h=>h,fun B k k' h1 h2 _=>absurd h2 (by omega),by omega⟩ hN hv
def zCV(P:Program)(fn:Func):Exit→Ev→St→Prop
 |.normal,env,st |.ret,env,st=>zvt P fn env st=some (.lit (.bool true))
 |_,_,_=>False
theorem zyd{P:Program}{f:FuncId}{fn:Func}{c:Code}{args:List AV}(hf:P.funcs[f]?=some fn)(hb:fn.body=some c)(hlen:Nat.ble args.length fn.ntmps=true)
  (h:∀wS G,FW P fn.ntmps wS G c (zCV P fn) (zgy 0 args) []):zvA P f args:=fun A w vals hA hN hv=>by
 refine calls_of_wp hf hb ?_
 have hlen:=Nat.le_of_ble_eq_true hlen
 have hR:R A (fun _=>none) w []:=⟨hA.low,(fun _ _ _ _ _ h=>(by cases h)),hA.fn,hA.nLe,(fun _ _ h=>(by cases h)),(fun _ _ _ _ h=>(by cases h)),(fun _ _ h=>(by cases h)),(fun _ _ _ h=>(by simp at h))⟩
 have hv':VL A (fun _=>none) 0 w args vals:=⟨hv.1,fun i hi=>.imm (hv.2 i hi)⟩
 have hE:Env A (fun _=>none) ([]:St).length w fn.ntmps (zgy 0 args) { tmps:=vals++Array.replicate (fn.ntmps-vals.size) undef,defers:=[] }:=by
  refine ⟨by simp [hv.1];omega,fun t v ht=>?_,rfl⟩
  obtain ⟨_,h1⟩:=zm6 args 0 t v ht
  simp only [Nat.sub_zero] at h1
  have h2:=hv'.get h1
  have hlt:t<args.length:=(List.getElem?_eq_some_iff.1 h1).1
  refine ⟨by omega,?_⟩
  rwa [show (vals++Array.replicate (fn.ntmps-vals.size) undef).getD t undef=vals.getD t undef by simp [Array.getD_eq_getD_getElem?,Array.getElem?_append_left (by rw [hv.1];exact hlt:t<vals.size)]]
 refine wp_mono (h w A A _ w _ ⟨fun _ _=>rfl,rfl,rfl,rfl,fun B k h=>.inl h⟩ hR hE) fun e a' w' ho=>?_
 have fin:FO w A fn.ntmps (fun env st=>zvt P fn env st=some (.lit (.bool true))) a' w'→a'.defers=[]∧∃v,(results fn a'.tmps).run P w'=.ok v w'∧Ending.returned v=.returned (.bool true)∧ziN w w':=fun ⟨A',m',env',st',h1,h2,h3,h4⟩=>by
  obtain ⟨v,h7,h8⟩:=zpC h2 h3 h4
  exact ⟨h3.defers,v,h7,by rw [h8.lit_inv],⟨by rw [←hN];exact h2.nLe,fun B hB=>h1.heap B (by rw [hN];exact hB),h1.os,h1.tape,h1.output⟩⟩
 cases e with
 |normal=>exact fin ho
 |ret=>exact fin ho
 |exit id=>obtain ⟨_,_,_,_,_,_,_,h⟩:=ho;exact h.elim
 |goto l=>obtain ⟨_,_,_,_,_,_,_,h⟩:=ho;exact h.elim
 |panic c=>obtain ⟨_,_,_,_,_,_,_,h⟩:=ho;exact h.elim
 |outgrown=>obtain ⟨_,_,_,_,_,_,_,h⟩:=ho;exact h.elim
inductive Tk(D:Am)(w:World):Nat→Nat→Value→Value→Prop
 |same {k j:Nat} {v:Value}:Tk D w k j v v
 |int {k j:Nat} {n n':Int} (h:wI .i64 n'):Tk D w k j (.int .i64 n) (.int .i64 n')
 |str {k j:Nat} {s:ByteArray} {s':List UInt8} (h:wS s'):Tk D w k j (.string s) (.string (B s'))
 |one {v:Value} {s':List UInt8} (h:wS s'):Tk D w 1 0 v (.string (B s'))
 |code {a:Option Addr} {l c:Nat} {v:Value} (xs:List zw) (hx:wL zhB xs) (h:VI D w (.isl 4 (xs.map zi)) v):Tk D w 10 7 (.slice a l c) v
 |maps {a:Option Addr} {l c:Nat} {v:Value} (xs:List zU) (hx:wL zhC xs) (h:VI D w (.isl 3 (xs.map zx)) v):Tk D w 10 8 (.slice a l c) v
 |stk {a:Option Addr} {l c:Nat} {v:Value} (xs:List (List UInt8)) (hx:wL wS xs) (h:VI D w (.isl 1 (xs.map zt)) v):Tk D w 3 2 (.slice a l c) v
 |impl {a:Option Addr} {l c:Nat} {v:Value} (xs:List (List UInt8)) (hx:wL wS xs) (h:VI D w (.isl 1 (xs.map zt)) v):Tk D w 6 3 (.slice a l c) v
def zCU(k j:Nat):Bool:=Nat.beq k 1||(Nat.beq k 10&&(Nat.beq j 7||Nat.beq j 8))||(Nat.beq k 3&&Nat.beq j 2)||(Nat.beq k 6&&Nat.beq j 3)
structure TC(D D':Am)(w w':World):Prop where
 sub:∀B k,D B k→D' B k
 new:∀B k,D B k→Flo.N≤B
 fzs:∀B off,fz w' ⟨B,off,none⟩=fz w ⟨B,off,none⟩
 cell:∀B k e j v,D B k→j<k→w.cell? ⟨B,e*k+j,none⟩=some v→∃v',w'.cell? ⟨B,e*k+j,none⟩=some v'∧Tk D' w' k j v v'
theorem TC.okb{D D':Am}{w w':World}(hT:TC D D' w w'){B o k cap:Nat}(h:Okb D w B o k cap):Okb D' w' B o k cap:=
 ⟨hT.sub B k h.1,fun hN=>⟨(h.2 hN).1,fun off ho=>by
  obtain ⟨⟨v,hv⟩,h2⟩:=(h.2 hN).2 off ho
  have hk:0<k:=(Nat.eq_zero_or_pos k).resolve_left fun h0=>by subst h0;omega
  have e:o+off=(o+off) / k*k+(o+off) % k:=by rw [Nat.mul_comm];exact (Nat.div_add_mod _ _).symm
  refine ⟨?_,by rw [hT.fzs];exact h2⟩
  rw [e] at hv ⊢
  obtain ⟨v',h3,_⟩:=hT.cell B k _ _ v h.1 (Nat.mod_lt _ hk) hv
  exact ⟨v',h3⟩⟩⟩
theorem TC.nlb{D D':Am}{w w':World}(hT:TC D D' w w'){a:Option Addr}{k cap:Nat}(h:Nlb D w a k cap):Nlb D' w' a k cap:=by
 rcases h with h |⟨B,o,h,h'⟩ |⟨B,k',h,h'⟩
 ·exact .inl h
 ·exact .inr (.inl ⟨B,o,h,hT.okb h'⟩)
 ·exact absurd (hT.new B k' h) (by omega)
def zxU{α:Type}(f:α→List AV)(k:Nat)(W:α→Prop):Prop:=
 (∀x,(f x).length=k)∧∀(D D':Am) (w w':World) (x:α) (vs vs':Nat→Value),TC D D' w w'→W x→(∀j (h:j<(f x).length),VI D w (f x)[j] (vs j))→(∀j,j<k→Tk D' w' k j (vs j) (vs' j)) →
  ∃x',W x'∧∀j (h:j<(f x').length),VI D' w' (f x')[j] (vs' j)
theorem zB5{α:Type}{f:α→List AV}{k:Nat}{W:α→Prop}(hf:zxU f k W){D D':Am}{w w':World}{xs:List α}(hT:TC D D' w w')(hW:∀x∈xs,W x){B o q:Nat}(hA:D B k)(ho:o=q*k){vs:Nat→Nat→Value}
  (hc:∀i j,i<(xs.map f).length→j<k→w.cell? ⟨B,o+i*k+j,none⟩=some (vs i j)) (hv:∀i (h:i<(xs.map f).length) j (h':j<(xs.map f)[i].length),VI D w (xs.map f)[i][j] (vs i j)):
  ∃(xs':List α) (vs':Nat→Nat→Value),xs'.length=xs.length∧(∀x∈xs',W x)∧(∀i (h:i<(xs'.map f).length),(xs'.map f)[i].length=k)∧(∀i j,i<(xs'.map f).length→j<k→w'.cell? ⟨B,o+i*k+j,none⟩=some (vs' i j)) ∧
   ∀i (h:i<(xs'.map f).length) j (h':j<(xs'.map f)[i].length),VI D' w' (xs'.map f)[i][j] (vs' i j):=by
 have hlen:(xs.map f).length=xs.length:=by simp
 have step:∀i:_root_.Fin xs.length,∃x',W x'∧∀j (h:j<(f x').length),∃u,w'.cell? ⟨B,o+i*k+j,none⟩=some u∧VI D' w' (f x')[j] u:=fun ⟨i,hi⟩=>by
  have hi':i<(xs.map f).length:=by rw [hlen];exact hi
  have hpos:∀j,o+i*k+j=(q+i)*k+j:=fun j=>by rw [ho,Nat.add_mul]
  have hcell:∀j,j<k→∃u,w'.cell? ⟨B,o+i*k+j,none⟩=some u∧Tk D' w' k j (vs i j) u:=fun j hj=>by
   have h1:=hc i j hi' hj
   rw [hpos] at h1 ⊢
   exact hT.cell B k (q+i) j _ hA hj h1
  obtain ⟨x',h1,h2⟩:=hf.2 D D' w w' xs[i] (vs i) (fun j=>(w'.cell? ⟨B,o+i*k+j,none⟩).getD undef) hT (hW _ (List.getElem_mem hi)) (fun j hj=>by
   have h3:=hv i hi' j (by rw [List.getElem_map];exact hj)
   have e:(xs.map f)[i]=f xs[i]:=List.getElem_map ..
   have e2:((xs.map f)[i])[j]'(by rw [e];exact hj)=(f xs[i])[j]:=by simp only [e]
   rwa [e2] at h3) (fun j hj=>by
   obtain ⟨u,h3,h4⟩:=hcell j hj
   simp only [h3,Option.getD_some]
   exact h4)
  refine ⟨x',h1,fun j hj=>?_⟩
  obtain ⟨u,h3,_⟩:=hcell j (by rw [←hf.1 x'];exact hj)
  have h5:=h2 j hj
  simp only [h3,Option.getD_some] at h5
  exact ⟨u,h3,h5⟩
 obtain ⟨g,hg⟩:=Classical.axiomOfChoice step
 have hl2:((List.ofFn g).map f).length=xs.length:=by simp
 refine ⟨List.ofFn g,fun i j=>(w'.cell? ⟨B,o+i*k+j,none⟩).getD undef,by simp,fun x hx=>?_,fun i hi=>?_,fun i j hi hj=>?_,fun i hi j hj=>?_⟩
 ·obtain ⟨i,rfl⟩:=List.mem_ofFn.1 hx
  exact (hg i).1
 ·rw [List.getElem_map];exact hf.1 _
 ·have hi2:i<xs.length:=by rw [←hl2];exact hi
  obtain ⟨u,h3,_⟩:=(hg ⟨i,hi2⟩).2 j (by rw [hf.1];exact hj)
  simp only [h3,Option.getD_some]
 ·have hi2:i<xs.length:=by rw [←hl2];exact hi
  have e:((List.ofFn g).map f)[i]=f (g ⟨i,hi2⟩):=by simp
  have hj':j<(f (g ⟨i,hi2⟩)).length:=by rw [←e];exact hj
  obtain ⟨u,h3,h4⟩:=(hg ⟨i,hi2⟩).2 j hj'
  have e2:(((List.ofFn g).map f)[i])[j]=(f (g ⟨i,hi2⟩))[j]:=by simp only [e]
  rw [e2]
  simp only [h3,Option.getD_some]
  exact h4
theorem lT{α:Type}{f:α→List AV}{k:Nat}{W:α→Prop}(hf:zxU f k W){D D':Am}{w w':World}{xs:List α}{v:Value}(hT:TC D D' w w')(hW:wL W xs)(h:VI D w (.isl k (xs.map f)) v):∃xs':List α,VI D' w' (.isl k (xs'.map f)) v∧xs'.length=xs.length∧wL W xs':=by
 generalize he:xs.map f=els at h
 cases h with
 |isl _ _ B o cap vs hA hcap hkk hc hv =>
  subst he
  obtain ⟨q,hq⟩:=(hA.2 (hT.new _ _ hA.1)).1
  obtain ⟨xs',vs',h1,h2,h3,h4,h5⟩:=zB5 hf hT hW.2 hA.1 hq hc hv
  have e:(xs'.map f).length=(xs.map f).length:=by simp [h1]
  have:=VI.isl (A:=D') (w:=w') k (xs'.map f) B o cap vs' (hT.okb hA) (by rw [e];exact hcap) h3 h4 h5
  rw [e] at this
  exact ⟨xs',this,h1,by rw [h1];exact hW.1,h2⟩
 |inil _ a cap hN =>
  have:xs=[]:=List.map_eq_nil_iff.1 he
  subst this
  exact ⟨[],.inil _ _ _ (hT.nlb hN),rfl,hW⟩
section
variable {D D' : Am} {w w' : World} {k j : Nat} {v v' : Value}
theorem sT{s:List UInt8}(h:VI D w (sA s) v)(hw:wS s)(t:Tk D' w' k j v v'):∃s',wS s'∧VI D' w' (sA s') v':=by
 cases h
 cases t with
 |same=>exact ⟨s,hw,.lit _⟩
 |str h=>exact ⟨_,h,.lit _⟩
 |one h=>exact ⟨_,h,.lit _⟩
theorem iT{n:Int}(h:VI D w (iA n) v)(hw:wI .i64 n)(t:Tk D' w' k j v v')(hk:zCU k j=false):∃n',wI .i64 n'∧VI D' w' (iA n') v':=by
 cases h
 cases t with
 |same=>exact ⟨n,hw,.lit _⟩
 |int h=>exact ⟨_,h,.lit _⟩
 |one h=>cases hk
theorem bT_{b:Bool}(h:VI D w (bA b) v)(t:Tk D' w' k j v v')(hk:zCU k j=false):VI D' w' (bA b) v':=by
 cases h
 cases t with
 |same=>exact .lit _
 |one h=>cases hk
theorem zjw{q:Nat}{els:List (List AV)}(h:VI D w (.isl q els) v):∃a l c,v=.slice a l c:=by cases h <;> exact ⟨_,_,_,rfl⟩
theorem llT{α:Type}{f:α→List AV}{q:Nat}{W:α→Prop}(hf:zxU f q W){xs:List α}(hT:TC D D' w w')(hW:wL W xs)(h:VI D w (.isl q (xs.map f)) v)(t:Tk D' w' k j v v')(hk:zCU k j=false):∃xs':List α,wL W xs'∧VI D' w' (.isl q (xs'.map f)) v':=by
 obtain ⟨a,l,c,rfl⟩:=zjw h
 cases t with
 |same=>obtain ⟨xs',h1,_,h2⟩:=lT hf hT hW h;exact ⟨xs',h2,h1⟩
 |one _=>cases hk
 |code _ _ _=>cases hk
 |maps _ _ _=>cases hk
 |stk _ _ _=>cases hk
 |impl _ _ _=>cases hk
end
theorem zw9:zxU zt 1 wS:=⟨fun _=>rfl,fun D D' w w' x vs vs' hT hw h hk=>by
 obtain ⟨a,g,k0⟩:=sT (D':=D') (w':=w') (h 0 Nat.zero_lt_one) hw (hk 0 (by decide))
 exact ⟨a,g,fun j hj=>match j,hj with | 0,_=>k0 |n+1,hj=>absurd (show n+1<1 from hj) (by omega)⟩⟩
theorem zyR:zxU zi 4 zhB:=⟨fun _=>rfl,fun D D' w w' x vs vs' hT hw h hk=>by
 obtain ⟨w0,w1,w2,w3⟩:=hw
 obtain ⟨a0,g0,k0⟩:=iT (D':=D') (w':=w') (n:=x.Op) (h 0 (by show 0<4;decide)) w0 (hk 0 (by decide)) rfl
 obtain ⟨a1,g1,k1⟩:=iT (D':=D') (w':=w') (n:=x.A) (h 1 (by show 1<4;decide)) w1 (hk 1 (by decide)) rfl
 obtain ⟨a2,g2,k2⟩:=sT (D':=D') (w':=w') (s:=x.C) (h 2 (by show 2<4;decide)) w2 (hk 2 (by decide))
 obtain ⟨a3,g3,k3⟩:=sT (D':=D') (w':=w') (s:=x.M) (h 3 (by show 3<4;decide)) w3 (hk 3 (by decide))
 exact ⟨⟨a0,a1,a2,a3⟩,⟨g0,g1,g2,g3⟩,fun j hj=>match j,hj with | 0,_=>k0 | 1,_=>k1 | 2,_=>k2 | 3,_=>k3 |n+4,hj=>absurd (show n+4<4 from hj) (by omega)⟩⟩
theorem zw7:zxU zap 4 zqZ:=⟨fun _=>rfl,fun D D' w w' x vs vs' hT hw h hk=>by
 obtain ⟨w0,w1,w2,w3⟩:=hw
 obtain ⟨a0,g0,k0⟩:=iT (D':=D') (w':=w') (n:=x.From) (h 0 (by show 0<4;decide)) w0 (hk 0 (by decide)) rfl
 obtain ⟨a1,g1,k1⟩:=iT (D':=D') (w':=w') (n:=x.To) (h 1 (by show 1<4;decide)) w1 (hk 1 (by decide)) rfl
 obtain ⟨a2,g2,k2⟩:=iT (D':=D') (w':=w') (n:=x.At) (h 2 (by show 2<4;decide)) w2 (hk 2 (by decide)) rfl
 obtain ⟨a3,g3,k3⟩:=sT (D':=D') (w':=w') (s:=x.C) (h 3 (by show 3<4;decide)) w3 (hk 3 (by decide))
 exact ⟨⟨a0,a1,a2,a3⟩,⟨g0,g1,g2,g3⟩,fun j hj=>match j,hj with | 0,_=>k0 | 1,_=>k1 | 2,_=>k2 | 3,_=>k3 |n+4,hj=>absurd (show n+4<4 from hj) (by omega)⟩⟩
theorem zu9:zxU zA 3 zpd:=⟨fun _=>rfl,fun D D' w w' x vs vs' hT hw h hk=>by
 obtain ⟨w0,w1,_⟩:=hw
 obtain ⟨a0,g0,k0⟩:=sT (D':=D') (w':=w') (s:=x.Name) (h 0 (by show 0<3;decide)) w0 (hk 0 (by decide))
 obtain ⟨a1,g1,k1⟩:=sT (D':=D') (w':=w') (s:=x.Type_) (h 1 (by show 1<3;decide)) w1 (hk 1 (by decide))
 have k2:VI D' w' (bA x.Static) (vs' 2):=by
  have h2:VI D w (bA x.Static) (vs 2):=h 2 (by show 2<3;decide)
  have t2:=hk 2 (by decide)
  generalize vs 2=u at h2 t2
  generalize vs' 2=u' at t2 ⊢
  cases h2
  cases t2
  exact .lit _
 exact ⟨⟨a0,a1,x.Static⟩,⟨g0,g1,trivial⟩,fun j hj=>match j,hj with | 0,_=>k0 | 1,_=>k1 | 2,_=>k2 |n+3,hj=>absurd (show n+3<3 from hj) (by omega)⟩⟩
theorem zt9:zxU zx 3 zhC:=⟨fun _=>rfl,fun D D' w w' x vs vs' hT hw h hk=>by
 obtain ⟨w0,w1,w2⟩:=hw
 obtain ⟨a0,g0,k0⟩:=iT (D':=D') (w':=w') (n:=x.At) (h 0 (by show 0<3;decide)) w0 (hk 0 (by decide)) rfl
 obtain ⟨a1,g1,k1⟩:=llT zw9 hT w1 (h 1 (by show 1<3;decide)) (hk 1 (by decide)) rfl
 obtain ⟨a2,g2,k2⟩:∃xs':List (List UInt8),wL wS xs'∧VI D' w' (.isl 1 (xs'.map zt)) (vs' 2):=by
  have h2:VI D w (.isl 1 (x.Stack.map zt)) (vs 2):=h 2 (by show 2<3;decide)
  have t2:=hk 2 (by decide)
  generalize vs 2=u at h2 t2
  generalize vs' 2=u' at t2 ⊢
  obtain ⟨a,l,c,rfl⟩:=zjw h2
  cases t2 with
  |same=>obtain ⟨xs',g,_,g'⟩:=lT zw9 hT w2 h2;exact ⟨xs',g',g⟩
  |stk xs hx g=>exact ⟨xs,hx,g⟩
 exact ⟨⟨a0,a1,a2⟩,⟨g0,g1,g2⟩,fun j hj=>match j,hj with | 0,_=>k0 | 1,_=>k1 | 2,_=>k2 |n+3,hj=>absurd (show n+3<3 from hj) (by omega)⟩⟩
theorem zsY:zxU zd 10 zg5:=⟨fun _=>rfl,fun D D' w w' x vs vs' hT hw h hk=>by
 obtain ⟨w0,w1,w2,_,_,w5,w6,w7,w8,w9⟩:=hw
 obtain ⟨a0,g0,k0⟩:=sT (D':=D') (w':=w') (s:=x.Name) (h 0 (by show 0<10;decide)) w0 (hk 0 (by decide))
 obtain ⟨a1,g1,k1⟩:=llT zw9 hT w1 (h 1 (by show 1<10;decide)) (hk 1 (by decide)) rfl
 obtain ⟨a2,g2,k2⟩:=sT (D':=D') (w':=w') (s:=x.Ret) (h 2 (by show 2<10;decide)) w2 (hk 2 (by decide))
 have k3:=bT_ (D':=D') (w':=w') (b:=x.Static) (h 3 (by show 3<10;decide)) (hk 3 (by decide)) rfl
 have k4:=bT_ (D':=D') (w':=w') (b:=x.Abstract) (h 4 (by show 4<10;decide)) (hk 4 (by decide)) rfl
 obtain ⟨a5,g5,k5⟩:=iT (D':=D') (w':=w') (n:=x.Locals) (h 5 (by show 5<10;decide)) w5 (hk 5 (by decide)) rfl
 obtain ⟨a6,g6,k6⟩:=iT (D':=D') (w':=w') (n:=x.Stack) (h 6 (by show 6<10;decide)) w6 (hk 6 (by decide)) rfl
 obtain ⟨a7,g7,k7⟩:∃xs':List zw,wL zhB xs'∧VI D' w' (.isl 4 (xs'.map zi)) (vs' 7):=by
  have h2:VI D w (.isl 4 (x.Code.map zi)) (vs 7):=h 7 (by show 7<10;decide)
  have t2:=hk 7 (by decide)
  generalize vs 7=u at h2 t2
  generalize vs' 7=u' at t2 ⊢
  obtain ⟨a,l,c,rfl⟩:=zjw h2
  cases t2 with
  |same=>obtain ⟨xs',g,_,g'⟩:=lT zyR hT w7 h2;exact ⟨xs',g',g⟩
  |code xs hx g=>exact ⟨xs,hx,g⟩
 obtain ⟨a8,g8,k8⟩:∃xs':List zU,wL zhC xs'∧VI D' w' (.isl 3 (xs'.map zx)) (vs' 8):=by
  have h2:VI D w (.isl 3 (x.Maps.map zx)) (vs 8):=h 8 (by show 8<10;decide)
  have t2:=hk 8 (by decide)
  generalize vs 8=u at h2 t2
  generalize vs' 8=u' at t2 ⊢
  obtain ⟨a,l,c,rfl⟩:=zjw h2
  cases t2 with
  |same=>obtain ⟨xs',g,_,g'⟩:=lT zt9 hT w8 h2;exact ⟨xs',g',g⟩
  |maps xs hx g=>exact ⟨xs,hx,g⟩
 obtain ⟨a9,g9,k9⟩:=llT zw7 hT w9 (h 9 (by show 9<10;decide)) (hk 9 (by decide)) rfl
 exact ⟨⟨a0,a1,a2,x.Static,x.Abstract,a5,a6,a7,a8,a9⟩,⟨g0,g1,g2,trivial,trivial,g5,g6,g7,g8,g9⟩,fun j hj=>match j,hj with | 0,_=>k0 | 1,_=>k1 | 2,_=>k2 | 3,_=>k3 | 4,_=>k4 | 5,_=>k5 | 6,_=>k6 | 7,_=>k7 | 8,_=>k8 | 9,_=>k9 |n+10,hj=>absurd (show n+10<10 from hj) (by omega)⟩⟩
theorem zpO:zxU zc 6 zbl:=⟨fun _=>rfl,fun D D' w w' x vs vs' hT hw h hk=>by
 obtain ⟨w0,w1,_,w3,w4,w5⟩:=hw
 obtain ⟨a0,g0,k0⟩:=sT (D':=D') (w':=w') (s:=x.Name) (h 0 (by show 0<6;decide)) w0 (hk 0 (by decide))
 obtain ⟨a1,g1,k1⟩:=sT (D':=D') (w':=w') (s:=x.Super) (h 1 (by show 1<6;decide)) w1 (hk 1 (by decide))
 have k2:=bT_ (D':=D') (w':=w') (b:=x.Interface) (h 2 (by show 2<6;decide)) (hk 2 (by decide)) rfl
 obtain ⟨a3,g3,k3⟩:∃xs':List (List UInt8),wL wS xs'∧VI D' w' (.isl 1 (xs'.map zt)) (vs' 3):=by
  have h2:VI D w (.isl 1 (x.Impl.map zt)) (vs 3):=h 3 (by show 3<6;decide)
  have t2:=hk 3 (by decide)
  generalize vs 3=u at h2 t2
  generalize vs' 3=u' at t2 ⊢
  obtain ⟨a,l,c,rfl⟩:=zjw h2
  cases t2 with
  |same=>obtain ⟨xs',g,_,g'⟩:=lT zw9 hT w3 h2;exact ⟨xs',g',g⟩
  |impl xs hx g=>exact ⟨xs,hx,g⟩
 obtain ⟨a4,g4,k4⟩:=llT zu9 hT w4 (h 4 (by show 4<6;decide)) (hk 4 (by decide)) rfl
 obtain ⟨a5,g5,k5⟩:=llT zsY hT w5 (h 5 (by show 5<6;decide)) (hk 5 (by decide)) rfl
 exact ⟨⟨a0,a1,x.Interface,a3,a4,a5⟩,⟨g0,g1,trivial,g3,g4,g5⟩,fun j hj=>match j,hj with | 0,_=>k0 | 1,_=>k1 | 2,_=>k2 | 3,_=>k3 | 4,_=>k4 | 5,_=>k5 |n+6,hj=>absurd (show n+6<6 from hj) (by omega)⟩⟩
theorem zzR{D D':Am}{w:World}{B k e j0:Nat}{cl:List Value}(hD:D B k)(hfun:∀B k k',D B k→D B k'→k=k')(hnew:∀B k,D B k→Flo.N≤B)(hsub:∀B k,D B k→D' B k)(hj:j0+cl.length≤k)
  (hc:∀q (h:q<cl.length),∃u,w.cell? ⟨B,e*k+j0+q,none⟩=some u∧Tk D' (w.setCells B (e*k+j0) cl) k (j0+q) u cl[q]):TC D D' w (w.setCells B (e*k+j0) cl):=
 ⟨hsub,hnew,fun B' off=>zjr _ _ _ _ _,fun B' k' e' j' v hD' hj' hv=>by
  by_cases hin:B'=B∧e*k+j0≤e'*k'+j'∧e'*k'+j'<e*k+j0+cl.length
  ·obtain ⟨rfl,h1,h2⟩:=hin
   have:=hfun _ _ _ hD' hD
   subst this
   have hee:e'=e:=by
    rcases Nat.lt_trichotomy e' e with h |h |h
    ·have:(e'+1)*k'≤e*k':=Nat.mul_le_mul_right _ h
     rw [Nat.add_mul,Nat.one_mul] at this
     omega
    ·exact h
    ·have:(e+1)*k'≤e'*k':=Nat.mul_le_mul_right _ h
     rw [Nat.add_mul,Nat.one_mul] at this
     omega
   subst hee
   obtain ⟨q,rfl⟩:∃q,j'=j0+q:=⟨j'-j0,by omega⟩
   have hq:q<cl.length:=by omega
   obtain ⟨u,h3,h4⟩:=hc q hq
   have h5:=World.cell?_setCells_in B' cl (e'*k'+j0) w (fun j hj=>by obtain ⟨u,h6,_⟩:=hc j hj;simp [h6]) q hq
   rw [Nat.add_assoc] at h3 h5
   rw [h3] at hv
   cases hv
   exact ⟨_,h5,h4⟩
  ·refine ⟨v,?_,.same⟩
   rw [World.cell?_setCells_out B cl _ w _ (fun _ _=>by
    by_cases hb:B'=B
    ·subst hb
     have:¬(e*k+j0≤e'*k'+j'∧e'*k'+j'<e*k+j0+cl.length):=fun h=>hin ⟨rfl,h⟩
     simp;omega
    ·simp_all)]
   exact hv⟩
inductive NK(kX:Nat):AV→Prop
 |lit (v):NK kX (.lit v)
 |isl {k:Nat} {els:List (List AV)} (hk:k≠kX) (h:∀i (h:i<els.length) j (h':j<els[i].length),NK kX els[i][j]):NK kX (.isl k els)
theorem NK.keep{kX:Nat}{A:Am}{w w':World}{BX:Nat}(hfun:∀B k k',A B k→A B k'→k=k')(hX:A BX kX)(hs:∀B,B≠BX→w'.heap[B]?=w.heap[B]?){x:AV}(h:NK kX x):∀{v},VI A w x v→VI A w' x v:=by
 have ok:∀{B o k cap},k≠kX→Okb A w B o k cap→Okb A w' B o k cap:=fun {B o k cap} hk h=>by
  have hB:B≠BX:=fun e=>hk (hfun BX k kX (e ▸ h.1) hX)
  exact ⟨h.1,fun hN=>⟨(h.2 hN).1,fun off ho=>by rw [zcF (hs B hB),zk5 (hs B hB)];exact (h.2 hN).2 off ho⟩⟩
 induction h with
 |lit v=>intro u hu;cases hu;exact .lit _
 | @isl k els hk _ ih =>
  intro v hv
  cases hv with
  |isl _ _ B o cap vs hA hcap hkk hc hvv =>
   have hB:B≠BX:=fun e=>hk (hfun BX k kX (e ▸ hA.1) hX)
   exact .isl k els B o cap vs (ok hk hA) hcap hkk (fun i j hi hj=>by rw [zcF (hs B hB)];exact hc i j hi hj) fun i hi j hj=>ih i hi j hj (hvv i hi j hj)
  |inil _ a cap hN =>
   refine .inil _ _ _ ?_
   rcases hN with h |⟨B,o,h,h'⟩ |h
   ·exact .inl h
   ·exact .inr (.inl ⟨B,o,h,ok hk h'⟩)
   ·exact .inr (.inr h)
theorem zwL{α:Type}{kX k:Nat}{f:α→List AV}(hk:k≠kX)(hf:∀x j (h:j<(f x).length),NK kX (f x)[j])(xs:List α):NK kX (.isl k (xs.map f)):=
 .isl hk fun i hi j hj=>by
  have e:(xs.map f)[i]=f (xs[i]'(by simpa using hi)):=by simp
  have h1:=hf (xs[i]'(by simpa using hi)) j (by rw [←e];exact hj)
  have e2:((xs.map f)[i])[j]=(f (xs[i]'(by simpa using hi)))[j]'(by rw [←e];exact hj):=by simp only [e]
  rw [e2];exact h1
theorem zyH{kX:Nat}(h:1≠kX)(xs:List (List UInt8)):NK kX (.isl 1 (xs.map zt)):=zwL h (fun x j hj=>match j,hj with | 0,_=>.lit _ |n+1,hj=>absurd (show n+1<1 from hj) (by omega)) xs
theorem zCE{kX:Nat}(h:4≠kX)(xs:List zw):NK kX (.isl 4 (xs.map zi)):=zwL h (fun x j hj=>match j,hj with | 0,_=>.lit _ | 1,_=>.lit _ | 2,_=>.lit _ | 3,_=>.lit _ |n+4,hj=>absurd (show n+4<4 from hj) (by omega)) xs
theorem zCF{kX:Nat}(h:3≠kX)(h1:1≠kX)(xs:List zU):NK kX (.isl 3 (xs.map zx)):=zwL h (fun x j hj=>match j,hj with | 0,_=>.lit _ | 1,_=>zyH h1 _ | 2,_=>zyH h1 _ |n+3,hj=>absurd (show n+3<3 from hj) (by omega)) xs
inductive TkA:Nat→Nat→AV→AV→Prop
 |int {k j:Nat} {n n':Int} (h:wI .i64 n'):TkA k j (iA n) (iA n')
 |str {k j:Nat} {s s':List UInt8} (h:wS s'):TkA k j (sA s) (sA s')
 |code {q:Nat} {els:List (List AV)} {xs:List zw} (hx:wL zhB xs):TkA 10 7 (.isl q els) (.isl 4 (xs.map zi))
 |maps {q:Nat} {els:List (List AV)} {xs:List zU} (hx:wL zhC xs):TkA 10 8 (.isl q els) (.isl 3 (xs.map zx))
 |stk {q:Nat} {els:List (List AV)} {xs:List (List UInt8)} (hx:wL wS xs):TkA 3 2 (.isl q els) (.isl 1 (xs.map zt))
 |impl {q:Nat} {els:List (List AV)} {xs:List (List UInt8)} (hx:wL wS xs):TkA 6 3 (.isl q els) (.isl 1 (xs.map zt))
theorem TkA.tk{A:Am}{w w':World}{BX k j:Nat}{x y:AV}{u v:Value}(h:TkA k j x y)(hfun:∀B k k',A B k→A B k'→k=k')(hX:A BX k)(hs:∀B,B≠BX→w'.heap[B]?=w.heap[B]?)(hu:VI A w x u)(hv:VI A w y v):Tk A w' k j u v:=by
 cases h with
 |int h=>cases hu;cases hv;exact .int h
 |str h=>cases hu;cases hv;exact .str h
 |code hx=>obtain ⟨a,l,c,rfl⟩:=zjw hu;exact .code _ hx ((zCE (by decide) _).keep hfun hX hs hv)
 |maps hx=>obtain ⟨a,l,c,rfl⟩:=zjw hu;exact .maps _ hx ((zCF (by decide) (by decide) _).keep hfun hX hs hv)
 |stk hx=>obtain ⟨a,l,c,rfl⟩:=zjw hu;exact .stk _ hx ((zyH (by decide) _).keep hfun hX hs hv)
 |impl hx=>obtain ⟨a,l,c,rfl⟩:=zjw hu;exact .impl _ hx ((zyH (by decide) _).keep hfun hX hs hv)
section
variable {P : Program} {n : Nat} {wS : World} {G : Am} {env : Ev} {st : St} {K : Ev → St → Prop}
theorem ziu{t:TypeId}{x v:Operand}{ti:TI}{ty:TypeId}{pos:String}{aft:Array Edge}{k:Nat}{els:List (List AV)}{i j:Nat}{row cs:List AV}{av:AV}{env0:Ev}{tl:Nat}{cl:List za}
  (ht:zbd P t=some ti) (hx:ev env x=some (.ipt k els i j)) (hrow:els[i]?=some row) (hv:ev env v=some av) (hcs:zhV av=some cs) (himm:zwt av=true) (hsz:Nat.beq cs.length ti.size=true) (hjk:Nat.ble (j+cs.length) k=true)
  (hT:∀q y,cs[q]?=some y→∃u,row[j+q]?=some u∧TkA k (j+q) u y) (hst:zrB st=true) (hl:look env tl=some (.isl 6 (cl.map zc))) (hW:wL zbl cl)
  (he:∀t v,look env0 t=some v→look env t=some v) (hl0:zCB env0=true) (hK:∀cl',wL zbl cl'→K ((tl,.isl 6 (cl'.map zc))::env0) st):
  FP P n wS noA ⟨none,.store t x v,ty,pos,aft,none⟩ K env st:=fun A m w a hF hR hE next Q' hn=>by
 have hsz:=Nat.eq_of_beq_eq_true hsz
 have hjk:=Nat.le_of_ble_eq_true hjk
 have hp:=(zL hE hx).ipt_inv
 have hvv:=zL hE hv
 obtain ⟨⟨hcl,hcv⟩,hone⟩:=zhW hcs hvv
 have hfun:∀B k k',A B k→A B k'→k=k':=fun B k k' h h'=>hR.aFun B k k' (hF.fresh h) h h'
 obtain ⟨hi,hrw⟩:=List.getElem?_eq_some_iff.1 hrow
 generalize hpv:a.eval x=pv at hp
 cases hp with
 |ipt _ _ _ _ B o vs hA hkk hc hval =>
  have hN:=hF.fresh hA.1
  obtain ⟨⟨q0,hq0⟩,hroom⟩:=hA.2 hN
  have hrl:row.length=k:=by rw [←hrw];exact hkk i hi
  have hpos:o+i*k+j=(q0+i)*k+j:=by rw [hq0,Nat.add_mul]
  obtain ⟨cv,hcv'⟩:∃cv,cv=(a.eval v).cells.toList:=⟨_,rfl⟩
  have hcl':cv.length=cs.length:=by rw [hcv'];simpa using hcl
  have hold:∀q,q<cv.length→∃u,w.cell? ⟨B,(q0+i)*k+j+q,none⟩=some u∧∀y,cs[q]?=some y→∃x0,TkA k (j+q) x0 y∧VI A w x0 u:=fun q hq=>by
   have hjq:j+q<k:=by omega
   have h1:=hc i (j+q) hi hjq
   refine ⟨_,by rw [←h1,←hpos];congr 2;omega,fun y hy=>?_⟩
   obtain ⟨x0,h2,h3⟩:=hT q y hy
   refine ⟨x0,h3,?_⟩
   have h4:=hval i hi (j+q) (by rw [hkk i hi];exact hjq)
   have e1:els[i][j+q]'(by rw [hkk i hi];exact hjq)=x0:=by
    have h5:(els[i])[j+q]?=some x0:=by rw [hrw];exact h2
    exact (List.getElem?_eq_some_iff.1 h5).2
   rwa [e1] at h4
  have hfz:∀q,q<cv.length→fz w ⟨B,(q0+i)*k+j+q,none⟩=false:=fun q hq=>by
   have h1:i*k+j+q<els.length*k:=by
    have h2:(i+1)*k≤els.length*k:=Nat.mul_le_mul_right _ hi
    rw [Nat.add_mul,Nat.one_mul] at h2
    omega
   have h3:=(hroom _ h1).2
   have e:o+(i*k+j+q)=(q0+i)*k+j+q:=by omega
   rwa [e] at h3
  obtain ⟨w',hw'⟩:∃w',w'=w.setCells B ((q0+i)*k+j) cv:=⟨_,rfl⟩
  have hrun:=run_storeCells_cells (P:=P) B ((q0+i)*k+j) cv 0 w
   (fun q hq=>by obtain ⟨u,h1,_⟩:=hold q hq;simp [h1])
   (fun q hq=>ziU (by simpa using hfz q hq))
   (fun z hz=>hone z (by rw [hcv'] at hz;simpa using hz))
  simp only [Nat.add_zero] at hrun
  rw [←hw'] at hrun
  have hexec:(execOp a.eval { dst:=none,op:=.store t x v,type:=ty,pos:=pos,after:=aft,guard:=none }).run P w=.ok .skip w':=by
   have hso:=zd0 (P:=P) w ht
   have hc1:(a.eval v).cells.size=ti.size:=by rw [←hsz];exact hcl
   rw [hcv',←hpos] at hrun
   simp [execOp,hpv,Instr.storeAt,Instr.sureAddr,storeVar,hso,hc1,hrun]
  unfold Oper.wp
  rw [hexec]
  have hheap:∀B',B'≠B→w'.heap[B']?=w.heap[B']?:=fun B' h=>by rw [hw'];exact zfF _ _ _ _ _ h
  have hsize:w'.heap.size=w.heap.size:=by rw [hw'];exact zgG _ _ _ _
  have hosw:=zik B cv ((q0+i)*k+j) w
  rw [←hw'] at hosw
  have himm':=zk9 himm
  have hvi:∀q (h:q<cv.length) y,cs[q]?=some y→VI A w y cv[q]:=fun q h y hy=>by
   have h1:=hcv q (by omega)
   obtain ⟨hq,hy2⟩:=List.getElem?_eq_some_iff.1 hy
   have e:(a.eval v).cells.getD q undef=cv[q]:=by
    have h2:q<(a.eval v).cells.size:=by rw [hcl];exact hq
    simp [hcv',Array.getD,h2]
   rw [hy2,e] at h1
   have hyi:Imm y:=by
    cases av with
    |agg ds =>
     simp only [zhV] at hcs
     split at hcs
     ·cases hcs
      exact (ze4 (show zgz cs=true from himm)).mem y (List.mem_of_getElem? hy)
     ·cases hcs
    |lit z =>
     simp only [zhV] at hcs
     split at hcs
     ·cases hcs
      have:y=.lit z:=by
       cases q with
       |zero=>simpa using hy.symm
       |succ q=>simp at hy
      subst this;exact .lit _
     ·cases hcs
    |fr z =>
     simp only [zhV] at hcs
     split at hcs
     ·cases hcs
      have:y=.fr z:=by
       cases q with
       |zero=>simpa using hy.symm
       |succ q=>simp at hy
      subst this;exact .fr _
     ·cases hcs
    |any=>cases hcs
    |tup _=>cases hcs
    |isl _ _=>cases hcs;cases q with
     |zero=>simp at hy;subst hy;exact himm'
     |succ q=>simp at hy
    |ipt _ _ _ _=>cases hcs;cases q with
     |zero=>simp at hy;subst hy;exact himm'
     |succ q=>simp at hy
    |msl _ _ _=>cases hcs;cases q with
     |zero=>simp at hy;subst hy;exact himm'
     |succ q=>simp at hy
    |mpt _ _ _=>cases hcs;cases q with
     |zero=>simp at hy;subst hy;exact himm'
     |succ q=>simp at hy
    |fn _ _ _=>cases hcs;cases q with
     |zero=>simp at hy;subst hy;exact himm'
     |succ q=>simp at hy
    |imp _=>cases hcs;cases q with
     |zero=>simp at hy;subst hy;exact himm'
     |succ q=>simp at hy
    |mmp _=>cases hcs;cases q with
     |zero=>simp at hy;subst hy;exact himm'
     |succ q=>simp at hy
   exact hyi.vi h1
  have hTC:TC A A w w':=by
   rw [hw']
   refine zzR hA.1 hfun (fun B k h=>hF.fresh h) (fun _ _ h=>h) (by omega) fun q hq=>?_
   obtain ⟨u,h1,h2⟩:=hold q hq
   refine ⟨u,h1,?_⟩
   have hq':q<cs.length:=by omega
   obtain ⟨x0,h3,h4⟩:=h2 _ (List.getElem?_eq_getElem hq')
   rw [hw'] at hheap
   exact h3.tk hfun hA.1 hheap h4 (hvi q hq _ (List.getElem?_eq_getElem hq'))
  have hown:∀l b,m l=some b→b.has=true→w'.heap[b.B]?=w.heap[b.B]?:=fun l b hb hh=>hheap _ (hR.aOwn B k l b hA.1 hb hh)
  have hR':R A m w' st:=hR.again hst (by rw [hsize];exact Nat.le_refl _) hown (fun B k h=>by rw [hsize];exact hR.aLow B k h) hR.aOwn hR.aFun
  obtain ⟨htl,hlv⟩:=hE.val tl _ hl
  obtain ⟨cl',h1,_,h2⟩:=lT zpO hTC hW hlv.isl_inv
  refine hn _ _ ⟨A,m,_,st,⟨fun B' hB'=>(hheap B' (by omega)).trans (hF.heap B' hB'),hosw.1.trans hF.os,hosw.2.1.trans hF.tape,hosw.2.2.trans hF.output,hF.old⟩,hR',⟨hE.size,fun t' y hy=>?_,hE.defers⟩,hK cl' h2⟩
  simp only [look] at hy
  split at hy
  ·rename_i e
   subst e;cases hy
   exact ⟨htl,.imm h1⟩
  ·obtain ⟨h3,h4⟩:=hE.val t' y (he t' y hy)
   exact ⟨h3,h4.again (znZ (f:=fun v=>match v with |.lit _ |.mpt .. |.msl ..=>true |_=>false) hl0 hy)⟩
end
theorem Fx.rs{wS:World}{G A:Am}{m:BM}{w:World}{st:St}(hR:R A m w st)(h:Fx wS G A w)(L:zeF):Fx wS G (zu1 A m L) w:=
 ⟨h.heap,h.os,h.tape,h.output,fun B k hB=>by
  rcases hB with h1 |⟨l,b,h1,h2,rfl,_⟩
  ·exact h.old B k h1
  ·exact .inr (hR.nOwn l b h1 h2).1⟩
section
variable {P : Program} {n : Nat} {wS : World} {G : Am} {Q : Exit → Ev → St → Prop} {env : Ev} {st : St}
theorem zBy{c:Code}{E:Ev}{S:St}(h:Can 0 E S env st)(k:FW P n wS G c Q E S):FW P n wS G c Q env st:=fun A m w a hF hR hE=>by
 obtain ⟨L,c1,c2,c3,c4,c5⟩:=h
 have hs:=zuy.of c2 c3
 exact k _ _ w a (hF.rs hR L) (hR.rs hs) (hE.rs hR hs c1)
theorem ztJ{o:Oper}{E:Ev}{S:St}{K:Ev→St→Prop}(h:Can 0 E S env st)(k:FP P n wS G o K E S):FP P n wS G o K env st:=fun A m w a hF hR hE=>by
 obtain ⟨L,c1,c2,c3,c4,c5⟩:=h
 have hs:=zuy.of c2 c3
 exact k _ _ w a (hF.rs hR L) (hR.rs hs) (hE.rs hR hs c1)
theorem zAo{x y:Code}(I:Ev→St→Prop)(h1:FW P n wS G x (zsf I Q) env st)(h2:∀env st,I env st→FW P n wS G y Q env st):FW P n wS G (.seq x y) Q env st:=
 zdR (zAp h1 fun e env st h=>by cases e <;> first |exact h2 _ _ h |exact h)
theorem zro{id:Nat}{ops:Array Oper}(l1:List Oper)(z:Oper)(E:Ev)(S:St)(ss en:List Nat)(F:Ev)(k:Nat)(hall:ops.toList=l1++[z])(hm:P.follows .mixedOrders=true)(hok:zj9 n l1=true)(hgs:l1.all (fun o=>o.guard.isNone)=true)(hg:z.guard=none)
  (hz:zzj l1 z=true) (hzl:z.after.toList.all (fun e=>!Region.binds .any e||Nat.blt e.on l1.length)=true)
  (hss:znP l1.length ss=true) (hks:zgN l1 en (zb8 F)=true) (h:DT P l1 ss env (fun env st=>Can 0 E S env st) k [] en F st) (hy:FP P n wS G z (Q .normal) E S):FW P n wS G (.region id ops true) Q env st:=by
 have hsub:∀(k:Nat) (p en:List Nat) (F:Ev) (st:St),DT P l1 ss env (fun env st=>Can 0 E S env st) k p en F st→DT P l1 ss env (fun env st=>FP P n wS G z (Q .normal) env st) k p en F st:=by
  intro k
  induction k with
  |zero=>exact fun p en F st h=>⟨h.1,h.2.1,h.2.2.1,ztJ h.2.2.2 hy⟩
  |succ k ih =>
   intro p en F st h
   refine ⟨h.1,h.2.1,h.2.2.1,fun s a b c=>?_⟩
   have:=h.2.2.2 s a b c
   cases ho:l1[s]? with
   |none=>rw [ho] at this;exact this.elim
   |some o =>
    rw [ho] at this
    refine ⟨this.1,?_⟩
    have h2:=this.2
    unfold zq1 at h2 ⊢
    cases hic:zfi o.op with
    |true =>
     rw [hic] at h2
     simp only at h2 ⊢
     cases hac:zmh (sel F (ea l1 env s) (zdl l1 o.after.toList)) o.op with
     |none=>rw [hac] at h2;exact h2.elim
     |some y =>
      rw [hac] at h2
      exact h2.mono fun av st' ⟨en',new,k1,k2,k3,k4⟩=>⟨en',new,k1,k2,k3,ih _ _ _ _ k4⟩
    |false =>
     rw [hic] at h2
     simp only at h2 ⊢
     cases hac:aop P (sel F (ea l1 env s) (zdl l1 o.after.toList)) st o.op with
     |none=>rw [hac] at h2;exact h2.elim
     |some y =>
      rw [hac] at h2
      obtain ⟨en',new,k1,k2,k3,k4⟩:=h2
      exact ⟨en',new,k1,k2,k3,ih _ _ _ _ k4⟩
 exact zBA hall ss en F k hm hok hgs hg hz hzl hss hks (hsub _ _ _ _ _ h)
end
def zC2(env:Ev):Ev→Prop
 | []=>True
 |p ::r=>look env p.1=some p.2∧zC2 env r
theorem zCP{env0 env:Ev}(h:zC2 env env0):∀t v,look env0 t=some v→look env t=some v:=fun t v ht=>by
 induction env0 with
 |nil=>cases ht
 |cons p r ih =>
  obtain ⟨k,x⟩:=p
  simp only [look] at ht
  split at ht
  ·rename_i e;subst e;cases ht
   exact h.1
  ·exact ih h.2 ht
theorem zBo{P:Program}{n:Nat}{wZ:World}{env:Ev}{st:St}{K:Ev→St→Prop}{d:Nat}{x y:Operand}{t e:TypeId}{ti te:TI}{ty:TypeId}{pos:String}{aft:Array Edge}{xs:List (List UInt8)}{b:Nat}{s:List UInt8}{t0 t3:Nat}{cs:List za}{mps:List zU}{env0:Ev}
  (hdn:d<n) (ht:zbd P t=some ti) (hk:ti.k=.slc e) (he:zbd P e=some te) (hs1:te.size=1) (hfit:(xs.length+1)*te.bytes≤140737488355328) (hlen:xs.length+1≤9223372036854775807)
  (hx:ev env x=some (.isl 1 (xs.map zt))) (hy:ev env y=some (.msl b 0 1)) (hb:st[b]?=some (some (1,[zt s]))) (hWx:wL wS xs) (hWs:wS s) (hst:zrB st=true)
  (h0:look env t0=some (.isl 6 (cs.map zc))) (hW0:wL zbl cs) (h3:look env t3=some (.isl 3 (mps.map zx))) (hW3:wL zhC mps) (hsub:∀t v,look env0 t=some v→look env t=some v) (hl0:zCB env0=true)
  (hK:∀xs' mps' cs',wL wS xs'→wL zhC mps'→mps'.length=mps.length→wL zbl cs'→K ((d,.isl 1 (xs'.map zt))::(t3,.isl 3 (mps'.map zx))::(t0,.isl 6 (cs'.map zc))::env0) st):
  ∀A m w a,Fx wZ noA A w→R A m w st→Env A m st.length w n env a→∀next Q',(∀a' w',FO wZ noA n K a' w'→(∀B k,A B k→k≠1→w'.heap[B]?=w.heap[B]?)→next a' w') →
   Oper.wp P ⟨some d,.call ⟨.builtin .append,#[x,y],#[t,t]⟩,ty,pos,aft,none⟩ a w next Q':=fun A m w a hF hR hE next Q' hn=>by
 have hfun:∀B k k',A B k→A B k'→k=k':=fun B k k' h h'=>hR.aFun B k k' (hF.fresh h) h h'
 obtain ⟨d0,i0,hd0,hi0,_,_,_,hdk,_⟩:=zay ht
 rw [hk] at hdk
 have:=zhq hdk
 subst this
 obtain ⟨d2,i,_,hi,hz,hsize,hbytes,_,hzs⟩:=zay he
 rw [hs1] at hsize hzs
 have hsrc0:zCc A m st.length w P 1 t (a.eval y) [zt s]:=zuj hR ht hk (by simp [zgO,hb]) (zL hE hy) rfl
 obtain ⟨news,hsrc,hval⟩:=hsrc0.src
 have hnl:=hsrc.newsLen
 obtain ⟨nv,rfl⟩:∃nv,news=[nv]:=by
  match news,(show news.length=1 by simpa using hnl) with
  | [u],_=>exact ⟨u,rfl⟩
 have hnv:nv=.string (B s):=by
  have h:=hval 0 (by simp) 0 (by show 0<1;decide)
  have h':V A m st.length w (sA s) nv:=by simpa [zt] using h
  exact h'.lit_inv
 subst hnv
 have hsrc':Go.Src P i.size t (a.eval y) 1 [.string (B s)] w:=by rw [hsize];simpa using hsrc
 have hxv:=(zL hE hx).isl_inv
 have fin:∀(v:Value) (w':World) (A':Am) (xs':List (List UInt8)),(Builtin.append_ #[t,t] ty #[a.eval x,a.eval y]).run P w=.ok v w'→Fx wZ noA A' w'→R A' m w' st→VI A' w' (.isl 1 (xs'.map zt)) v→wL wS xs' →
   (∀u,VI A w (.isl 6 (cs.map zc)) u→∃cs',VI A' w' (.isl 6 (cs'.map zc)) u∧wL zbl cs')→(∀u,VI A w (.isl 3 (mps.map zx)) u→∃mps',VI A' w' (.isl 3 (mps'.map zx)) u∧mps'.length=mps.length∧wL zhC mps')→(∀B k,A B k→k≠1→w'.heap[B]?=w.heap[B]?) →
   Oper.wp P ⟨some d,.call ⟨.builtin .append,#[x,y],#[t,t]⟩,ty,pos,aft,none⟩ a w next Q':=fun v w' A' xs' hrun hF' hR' hv hwx hc hm hh=>by
  obtain ⟨cs0,hb0⟩:=zhe a.eval { dst:=some d,op:=.call { callee:=.builtin .append,args:=#[x,y],argTypes:=#[t,t] },type:=ty,pos:=pos,after:=aft,guard:=none } .append #[x,y] #[t,t] rfl P w
  have hexec:(execOp a.eval { dst:=some d,op:=.call { callee:=.builtin .append,args:=#[x,y],argTypes:=#[t,t] },type:=ty,pos:=pos,after:=aft,guard:=none }).run P w=.ok (.value v) w':=by
   rw [hb0];simp [builtin,hrun]
  unfold Oper.wp
  rw [hexec]
  obtain ⟨q1,q2⟩:=hE.val t0 _ h0
  obtain ⟨q3,q4⟩:=hE.val t3 _ h3
  obtain ⟨cs',c1,c2⟩:=hc _ q2.isl_inv
  obtain ⟨mps',m1,m2,m3⟩:=hm _ q4.isl_inv
  refine hn _ _ ⟨A',m,_,st,hF',hR',Env.put (v:=v) ⟨hE.size,fun t' z hz=>?_,hE.defers⟩ hdn (.imm hv),hK xs' mps' cs' hwx m3 m2 c2⟩ hh
  simp only [look] at hz
  split at hz
  ·rename_i e';subst e';cases hz;exact ⟨q3,.imm m1⟩
  ·split at hz
   ·rename_i e';subst e';cases hz;exact ⟨q1,.imm c1⟩
   ·obtain ⟨q5,q6⟩:=hE.val t' z (hsub t' z hz)
    exact ⟨q5,q6.again (znZ (f:=fun v=>match v with |.lit _ |.mpt .. |.msl ..=>true |_=>false) hl0 hz)⟩
 have room:∀(B0 o cap:Nat),Okb A w B0 o 1 cap→a.eval x=.slice (some ⟨B0,o,none⟩) xs.length cap→xs.length+1≤cap →
   (∀w',TC A A w w'→∃(xs':List (List UInt8)) (vs':Nat→Nat→Value),xs'.length=xs.length∧(∀x∈xs',wS x)∧(∀i j,i<(xs'.map zt).length→j<1→w'.cell? ⟨B0,o+i*1+j,none⟩=some (vs' i j)) ∧
    ∀i (h:i<(xs'.map zt).length) j (h':j<(xs'.map zt)[i].length),VI A w' (xs'.map zt)[i][j] (vs' i j)) →
   Oper.wp P ⟨some d,.call ⟨.builtin .append,#[x,y],#[t,t]⟩,ty,pos,aft,none⟩ a w next Q':=fun B0 o cap hA hxe hroom hcont=>by
  have hN:=hF.fresh hA.1
  obtain ⟨_,hr⟩:=hA.2 hN
  obtain ⟨⟨u0,hu0⟩,hf0⟩:=hr xs.length (by omega)
  obtain ⟨w',hw'⟩:∃w',w'=w.setCells B0 (o+xs.length) [.string (B s)]:=⟨_,rfl⟩
  have hrun:=run_append_room_src (P:=P) w t t ty e i hd0 hi B0 o xs.length cap (a.eval y) 1 [.string (B s)] hsrc' hroom
   (fun j hj=>by
      have:j=0:=by simpa using hj
      subst this;rw [hsize];simp [hu0])
   (fun j hj=>by
      have:j=0:=by simpa using hj
      subst this;rw [hsize];exact ziU (by simpa using hf0))
  rw [hsize,Nat.mul_one,←hw',←hxe] at hrun
  have hheap:∀B',B'≠B0→w'.heap[B']?=w.heap[B']?:=fun B' h=>by rw [hw'];exact zfF _ _ _ _ _ h
  have hsz:w'.heap.size=w.heap.size:=by rw [hw'];exact zgG _ _ _ _
  have hosw:=zik B0 [.string (B s)] (o+xs.length) w
  rw [←hw'] at hosw
  have hTC:TC A A w w':=by
   have h:=zzR (D:=A) (D':=A) (w:=w) (B:=B0) (k:=1) (e:=o+xs.length) (j0:=0) (cl:=[.string (B s)]) hA.1 hfun (fun B k h=>hF.fresh h) (fun _ _ h=>h) (by simp) (fun q hq=>by
    have:q=0:=by simpa using hq
    subst this
    exact ⟨u0,by simpa using hu0,.one hWs⟩)
   rw [hw']
   simpa using h
  obtain ⟨xs',vs',g1,g2,g3,g4⟩:=hcont w' hTC
  have hcell:w'.cell? ⟨B0,o+xs.length,none⟩=some (.string (B s)):=by
   have:=World.cell?_setCells_in B0 [.string (B s)] (o+xs.length) w (fun j hj=>by
    have:j=0:=by simpa using hj
    subst this;simp [hu0]) 0 (by simp)
   rw [hw'];simpa using this
  refine fin _ w' A (xs'++[s]) hrun ⟨fun B' hB'=>(hheap B' (by omega)).trans (hF.heap B' hB'),hosw.1.trans hF.os,hosw.2.1.trans hF.tape,hosw.2.2.trans hF.output,hF.old⟩
   (hR.again hst (by rw [hsz];exact Nat.le_refl _) (fun l b' hb' hh=>hheap _ (hR.aOwn B0 1 l b' hA.1 hb' hh)) (fun B' k h=>by rw [hsz];exact hR.aLow B' k h) hR.aOwn hR.aFun) ?_ ⟨by simp [g1];omega,fun z hz=>?_⟩
   (fun u hu=>by obtain ⟨cs',c1,_,c2⟩:=lT zpO hTC hW0 hu;exact ⟨cs',c1,c2⟩) (fun u hu=>by obtain ⟨m',c1,c3,c2⟩:=lT zt9 hTC hW3 hu;exact ⟨m',c1,c3,c2⟩) (fun B k hB hk=>hheap B fun e=>hk (hfun B k 1 hB (e ▸ hA.1)))
  ·have hl:((xs'++[s]).map zt).length=xs.length+1:=by simp [g1]
   have:=VI.isl (A:=A) (w:=w') 1 ((xs'++[s]).map zt) B0 o cap (fun i j=>if i<xs.length then vs' i j else .string (B s)) (hTC.okb hA) (by rw [hl];exact hroom) (fun i hi=>by rw [List.getElem_map];rfl)
    (fun i j hi hj=>by
     rw [hl] at hi
     by_cases hix:i<xs.length
     ·simp only [hix,if_true];exact g3 i j (by simp [g1];exact hix) hj
     ·have h1:i=xs.length:=by omega
      have h2:j=0:=by omega
      subst h1;subst h2
      simp only [Nat.lt_irrefl,if_false,Nat.mul_one,Nat.add_zero]
      exact hcell)
    (fun i hi j hj=>by
     have hi':=hi
     rw [hl] at hi'
     have hj0:j=0:=by
      have:((xs'++[s]).map zt)[i].length=1:=by rw [List.getElem_map];rfl
      omega
     subst hj0
     by_cases hix:i<xs.length
     ·simp only [hix,if_true]
      have h5:=g4 i (by simp [g1];exact hix) 0 (by rw [List.getElem_map];exact Nat.zero_lt_one)
      have e5:((xs'++[s]).map zt)[i]=(xs'.map zt)[i]'(by simp [g1];exact hix):=by
       rw [List.getElem_map,List.getElem_map,List.getElem_append_left (show i<xs'.length by omega)]
      have e6:((xs'++[s]).map zt)[i][0]=((xs'.map zt)[i]'(by simp [g1];exact hix))[0]'(by rw [List.getElem_map];exact Nat.zero_lt_one):=by simp only [e5]
      rw [e6]
      exact h5
     ·have h1:i=xs'.length:=by omega
      subst h1
      simp only [hix,if_false]
      have e5:((xs'++[s]).map zt)[xs'.length][0]=sA s:=by simp [zt]
      rw [e5]
      exact .lit _)
   rw [hl] at this
   exact this
  ·rcases List.mem_append.1 hz with h |h
   ·exact g2 z h
   ·have:z=s:=by simpa using h
    subst this;exact hWs
 have grow:∀(base:Option Addr) (cap:Nat) (olds:List Value),a.eval x=.slice base xs.length cap→(Builtin.firstCells i.size xs.length (.slice base xs.length cap)).run P w.drew=.ok olds.toArray w.drew→olds.length=xs.length →
   (∀i (h:i<xs.length),olds.getD i undef=.string (B xs[i]))→cap<xs.length+1→Oper.wp P ⟨some d,.call ⟨.builtin .append,#[x,y],#[t,t]⟩,ty,pos,aft,none⟩ a w next Q':=fun base cap olds hxe hfc hol hov hlt=>by
  have hrun:=run_append_grow_src (P:=P) w t t ty e i te.zero hd0 hi hz base xs.length cap olds hfc (a.eval y) 1 [.string (B s)] hsrc' hlt (by omega) (growslice_fits hlt (by rw [hbytes];exact hfit))
  rw [←hxe] at hrun
  have hcap:=grownCap_ge w (xs.length+1) cap e
  obtain ⟨C,hC⟩:∃C:Array Value,C=(olds++[Value.string (B s)]).toArray++Builtin.zeroCells te.zero.cells (grownCap w (xs.length+1) cap e-(xs.length+1)):=⟨_,rfl⟩
  rw [←hC] at hrun
  have hcl:C.size=grownCap w (xs.length+1) cap e:=by
   rw [hC]
   simp only [Array.size_append,List.size_toArray,List.length_append,size_zeroCells,hzs,hol,List.length_singleton]
   omega
  have hcell:∀off,(w.drew.alloc (.cells C e)).cell? ⟨w.heap.size,off,none⟩=C[off]?:=fun off=>World.cell?_alloc_new w.drew C e off
  have hg:ziN w (w.drew.alloc (.cells C e)):=(ziN.drew w).trans (ziN.alloc _ _)
  obtain ⟨A',hA'⟩:∃A':Am,A'=fun B k=>A B k∨(B=w.heap.size∧k=1):=⟨_,rfl⟩
  have hsub:∀B k,A B k→A' B k:=fun B k h=>by rw [hA'];exact .inl h
  obtain ⟨hR',hS'⟩:=hR.grow (A':=A') hg hsub (fun B k h=>by
   rw [hA'] at h
   rcases h with h |⟨rfl,_⟩
   ·exact .inl h
   ·refine .inr ⟨Nat.le_refl _,?_⟩
    show w.heap.size<(w.drew.alloc _).heap.size
    rw [World.size_alloc];exact Nat.lt_succ_self _) (fun B k k' hN h h'=>by
   rw [hA'] at h h'
   rcases h with h |⟨h,rfl⟩ <;> rcases h' with h' |⟨h',rfl⟩
   ·exact hR.aFun B k k' hN h h'
   ·have:=hR.aLow B k h;omega
   ·have:=hR.aLow B k' h';omega
   ·rfl)
  have hmono:∀{av u},VI A w av u→VI A' (w.drew.alloc (.cells C e)) av u:=fun h=>h.mono hsub fun B k hB=>hg.heap B (hR.aLow B k hB)
  refine fin _ _ A' (xs++[s]) hrun ⟨fun B' hB'=>(hg.heap B' (Nat.lt_of_lt_of_le hB' hR.nLe)).trans (hF.heap B' hB'),hg.os.trans hF.os,hg.tape.trans hF.tape,hg.output.trans hF.output,fun B k h=>by
   rw [hA'] at h
   rcases h with h |⟨rfl,_⟩
   ·exact hF.old B k h
   ·exact .inr hR.nLe⟩ hR' ?_ ⟨by simp;omega,fun z hz=>?_⟩ (fun u hu=>⟨cs,hmono hu,hW0⟩) (fun u hu=>⟨mps,hmono hu,rfl,hW3⟩) (fun B k hB _=>hg.heap B (hR.aLow B k hB))
  ·have hl:((xs++[s]).map zt).length=xs.length+1:=by simp
   have hget:∀i (h:i<xs.length+1),C[i]?=some (.string (B ((xs++[s])[i]'(by simpa using h)))):=fun i h=>by
    rw [hC,Array.getElem?_append_left (by simp [hol];omega)]
    by_cases hix:i<xs.length
    ·have h1:=hov i hix
     have h2:i<olds.length:=by omega
     simp [List.getElem?_append_left h2,List.getElem?_eq_getElem h2,List.getElem_append_left hix] at h1 ⊢
     exact h1
    ·have h1:i=xs.length:=by omega
     subst h1
     simp [List.getElem?_append_right (show olds.length≤xs.length by omega),hol]
   have:=VI.isl (A:=A') (w:=w.drew.alloc (.cells C e)) 1 ((xs++[s]).map zt) w.heap.size 0 (grownCap w (xs.length+1) cap e) (fun i j=>.string (B ((xs++[s]).getD i []))) ⟨by rw [hA'];exact .inr ⟨rfl,rfl⟩,fun _=>⟨⟨0,by simp⟩,fun off ho=>by
     rw [Nat.zero_add,hcell]
     refine ⟨⟨_,Array.getElem?_eq_getElem (by rw [hcl];omega)⟩,zhi (w:=w.drew) _ e off⟩⟩⟩ (by rw [hl];exact hcap) (fun i hi=>by rw [List.getElem_map];rfl)
    (fun i j hi hj=>by
     rw [hl] at hi
     have h2:j=0:=by omega
     subst h2
     have h3:i<(xs++[s]).length:=by simpa using hi
     simp only [Nat.zero_add,Nat.mul_one,Nat.add_zero]
     rw [hcell,hget i hi]
     simp only [List.getD_eq_getElem?_getD,List.getElem?_eq_getElem h3,Option.getD_some])
    (fun i hi j hj=>by
     have hi':=hi
     rw [hl] at hi'
     have hj0:j=0:=by
      have:((xs++[s]).map zt)[i].length=1:=by rw [List.getElem_map];rfl
      omega
     subst hj0
     have h3:i<(xs++[s]).length:=by simpa using hi'
     have e5:((xs++[s]).map zt)[i][0]=sA ((xs++[s]).getD i []):=by
      simp only [List.getElem_map,zt,List.getD_eq_getElem?_getD,List.getElem?_eq_getElem h3,Option.getD_some];rfl
     rw [e5]
     exact .lit _)
   rw [hl] at this
   exact this
  ·rcases List.mem_append.1 hz with h |h
   ·exact hWx.2 z h
   ·have:z=s:=by simpa using h
    subst this;exact hWs
 generalize hq:xs.map zt=els at hxv
 generalize hxe:a.eval x=xv at hxv
 have hlen0:els.length=xs.length:=by rw [←hq];simp
 cases hxv with
 |isl _ _ B0 o cap vs hA hcap hkk hc hv =>
  subst hq
  rw [hlen0] at hxe hcap
  by_cases hroom:xs.length+1≤cap
  ·refine room B0 o cap hA hxe hroom fun w' hTC=>?_
   obtain ⟨xs',vs',g1,g2,_,g3,g4⟩:=zB5 zw9 hTC hWx.2 hA.1 (q:=o) (by omega) hc hv
   exact ⟨xs',vs',g1,g2,g3,g4⟩
  ·have hrd:Rd A m st.length w B0 o 1 (xs.map zt):=⟨hkk,fun i hi j hj=>⟨_,hc i j hi (by rw [←hkk i hi];exact hj),.imm (hv i hi j hj)⟩⟩
   obtain ⟨olds,ho1,ho2,ho3⟩:=hrd.flat
   refine grow (some ⟨B0,o,none⟩) cap olds hxe ?_ (by rw [ho1];simp) (fun i hi=>?_) (by omega)
   ·refine run_firstCells_some w.drew i.size xs.length ⟨B0,o,none⟩ xs.length cap olds (by rw [ho1,hsize];simp) fun j v hj=>?_
    have hadd:(⟨B0,o,none⟩:Addr).add j=⟨B0,o+j,none⟩:=by unfold Addr.add;split <;> simp_all
    rw [hadd]
    simpa using ho2 j v hj
   ·have h4:=ho3 i (by simpa using hi) 0 (by rw [List.getElem_map];exact Nat.zero_lt_one)
    have e5:(xs.map zt)[i]'(by simpa using hi)=[sA xs[i]]:=by simp [zt]
    have e6:((xs.map zt)[i]'(by simpa using hi))[0]'(by rw [e5];exact Nat.zero_lt_one)=sA xs[i]:=by simp only [e5];rfl
    rw [e6] at h4
    simpa using h4.lit_inv
 |inil _ ad cap hN =>
  have hx0:xs=[]:=by simpa using hq
  subst hx0
  rcases Nat.eq_zero_or_pos cap with h |h
  ·subst h
   refine grow ad 0 [] hxe ?_ rfl (fun i hi=>by cases hi) (by simp)
   cases ad <;> simp [Builtin.firstCells,loadCells,loadCellsFrom]
  ·rcases hN with h1 |⟨B0,o,h1,hA⟩ |⟨B0,k',h1,h2⟩
   ·omega
   ·subst h1
    exact room B0 o cap hA hxe h fun w' hTC=>⟨[],fun _ _=>undef,rfl,(fun x hx=>by cases hx),(fun i j hi=>by cases hi),fun i hi=>by cases hi⟩
   ·exact absurd (hF.fresh h1) (by omega)
theorem znJ{α:Type}{f:α→List AV}{l:List α}{i:Nat}{c:α}(h:l[i]?=some c):(l.map f)[i]?=some (f c):=by simp [h]
theorem zth{k j:Nat}{row:List AV}{u y0:AV}(h:row[j]?=some u)(t:TkA k j u y0):∀q y,[y0][q]?=some y→∃u,row[j+q]?=some u∧TkA k (j+q) u y:=fun q y hq=>by
 match q,hq with
 | 0,hq=>cases hq;exact ⟨u,h,t⟩
 |q+1,hq=>cases hq
theorem zCT(x:zw){x':zw}(h:zhB x'):∀q y,(zi x')[q]?=some y→∃u,(zi x)[0+q]?=some u∧TkA 4 (0+q) u y:=fun q y hq=>by
 match q,hq with
 | 0,hq=>cases hq;exact ⟨_,rfl,.int h.1⟩
 | 1,hq=>cases hq;exact ⟨_,rfl,.int h.2.1⟩
 | 2,hq=>cases hq;exact ⟨_,rfl,.str h.2.2.1⟩
 | 3,hq=>cases hq;exact ⟨_,rfl,.str h.2.2.2⟩
 |q+4,hq=>cases hq
theorem zCX{α:Type}{W:α→Prop}:wL W []:=⟨Nat.zero_le _,fun y hy=>by cases hy⟩
theorem zDJ{α:Type}{W:α→Prop}{x:α}(h:W x):wL W [x]:=⟨Nat.le_of_ble_eq_true rfl,fun y hy=>(List.mem_singleton.1 hy) ▸ h⟩
theorem zA9{α:Type}{W:α→Prop}{b:Nat}{l z r:List α}(h:zfY b l z=some r)(hl:wL W l)(hz:wL W z):wL W r:=by
 obtain ⟨rfl,_,h2⟩:=zod h
 refine ⟨by simpa using h2,fun y hy=>?_⟩
 rcases List.mem_append.1 hy with h |h
 ·exact hl.2 y h
 ·exact hz.2 y h
theorem zBf{α:Type}{W:α→Prop}{l r:List α}{a b:Int}(h:zhs l a b=some r)(hl:wL W l):wL W r:=by
 unfold zhs at h
 split at h
 ·cases h
  refine ⟨Nat.le_trans (by simp;omega) hl.1,fun y hy=>hl.2 y (List.mem_of_mem_drop (List.mem_of_mem_take hy))⟩
 ·cases h
theorem zCY{n:Int}:wI .i64 (IntKind.i64.wrap n):=by
 show (Lit.int .i64 (IntKind.i64.wrap n)).wf=true
 unfold Lit.wf
 simp [IntKind.min,IntKind.max,IntKind.bits,IntKind.signed,IntKind.wrap]
 omega
def lst(k i:Nat):Array Bool:=((List.range k).map fun j=>Nat.blt j i).toArray
theorem zyC(k:Nat):lst k 0=Array.replicate k false:=by
 apply Array.ext'
 unfold lst
 refine List.ext_getElem (by simp) fun i h1 h2=>?_
 simp
 rfl
theorem ztS{k i:Nat}(h:i<k):(lst k i).setIfInBounds i true=lst k (i+1):=by
 apply Array.ext'
 unfold lst
 refine List.ext_getElem (by simp) fun j h1 h2=>?_
 simp only [Array.toList_setIfInBounds,List.getElem_set,List.getElem_map,List.getElem_range]
 split
 ·rename_i e;subst e;simp
 ·rename_i e
  refine Bool.eq_iff_iff.2 ?_
  simp only [Nat.blt_eq]
  omega
def zzd(ops:Array Oper)(m:Nat):Bool:=Region.noSelect ops&&(List.range ops.size).all fun i=>if Nat.blt i m then Region.free .any ops (lst ops.size i) i&&(Region.ready .any ops (lst ops.size i)).contains i else Region.ready .any ops (lst ops.size i) == [i]
def TX(P:Program)(ops:Array Oper)(Q:Exit→Act→World→Prop)(S:World→Prop)(m:Nat):Nat→Nat→Act→World→Prop
 | 0,_,a,w=>Q .normal a w
 |r+1,i,a,w=>if i<m then ∃o v,ops[i]?=some o∧YieldsIf P ops S o v a∧S w∧TX P ops Q S m r (i+1) (a.put o.dst v) w else wpOp P ops Q i (fun a' w'=>S w'∧TX P ops Q S m r (i+1) a' w') a w
theorem zvq{P:Program}{ops:Array Oper}{Q:Exit→Act→World→Prop}{S:World→Prop}{m:Nat}(hc:zzd ops m=true)(hQ:∀c a w,¬Q (.panic c) a w):∀(r i:Nat) (a:Act) (w:World),i+r=ops.size→TX P ops Q S m r i a w→wpAnyH P .any ops Q S r (lst ops.size i) a w:=by
 unfold zzd at hc
 simp only [Bool.and_eq_true] at hc
 obtain ⟨hs,hc⟩:=hc
 intro r
 induction r with
 |zero =>
  intro i a w hi h
  refine wpAnyH_done ?_ h 0
  rw [List.eq_nil_iff_forall_not_mem]
  intro j hj
  obtain ⟨h1,o,ho,_⟩:=mem_ready.1 hj
  have hj':=(Array.getElem?_eq_some_iff.1 ho).1
  have hj2:j<(lst ops.size i).size:=by simp [lst];exact hj'
  have:(lst ops.size i).getD j true=true:=by simp [Array.getD,hj2,lst];omega
  rw [this] at h1;cases h1
 |succ r ih =>
  intro i a w hi h
  have hil:i<ops.size:=by omega
  have hci:=(List.all_eq_true.1 hc) i (List.mem_range.2 hil)
  unfold TX at h
  by_cases him:i<m
  ·rw [if_pos him] at h
   obtain ⟨o,v,ho,hy,hS,hT⟩:=h
   rw [if_pos (by simpa using him)] at hci
   simp only [Bool.and_eq_true] at hci
   refine wpAnyH_take ho hs hci.1 hci.2 (fun c a w h=>absurd h (hQ c _ w)) hy hS ?_
   rw [ztS hil]
   exact ih (i+1) _ w (by omega) hT
  ·rw [if_neg him] at h
   rw [if_neg (by simpa using him)] at hci
   refine wpAnyH_all (eq_of_beq hci) (by simp) fun j hj=>?_
   have:j=i:=by simpa using hj
   subst this
   refine wpOp_mono (fun a' w' h=>⟨h.1,?_⟩) h
   rw [ztS hil]
   exact ih (j+1) a' w' (by omega) h.2
theorem zBz{P:Program}{n:Nat}{wS:World}{G:Am}{Q:Exit→Ev→St→Prop}{env:Ev}{st:St}{id:Nat}{ops:Array Oper}(l0:List Oper)(z1 z2 z3:Oper)(m:Nat)(hall:ops.toList=l0++[z1]++[z2]++[z3])(hm:P.follows .mixedOrders=true)
  (hok:zj9 n (l0++[z1]++[z2])=true) (hok1:zj9 n (l0++[z1])=true) (hok0:zj9 n l0=true) (hgs:(l0++[z1]++[z2]).all (fun o=>o.guard.isNone)=true) (hg3:z3.guard=none)
  (h1:zzj l0 z1=true) (h2:zzj (l0++[z1]) z2=true) (h3:zzj (l0++[z1]++[z2]) z3=true) (k1:z1.after.toList.all (fun e=>!Region.binds .any e||Nat.blt e.on l0.length)=true)
  (k2:z2.after.toList.all (fun e=>!Region.binds .any e||Nat.blt e.on (l0++[z1]).length)=true) (k3:z3.after.toList.all (fun e=>!Region.binds .any e||Nat.blt e.on (l0++[z1]++[z2]).length)=true) (ht:zzd l0.toArray m=true) (hp:∀c env st,¬Q (.panic c) env st)
  (h:∀A mm w a,Fx wS G A w→R A mm w st→Env A mm st.length w n env a→∀Qf:Exit→Act→World→Prop,(∀a' w',FO wS G n (FP P n wS G z1 (FP P n wS G z2 (FP P n wS G z3 (Q .normal)))) a' w'→Qf .normal a' w')→∃S,TX P l0.toArray Qf S m l0.length 0 a w):
  FW P n wS G (.region id ops true) Q env st:=fun A mm w a hF hR hE=>by
 have hg':ziN w { w with drawn:=w.drawn+1 }:=⟨Nat.le_refl _,fun _ _=>rfl,rfl,rfl,rfl⟩
 obtain ⟨hR1,hS1⟩:=hR.grow' hg'
 refine wp_region_any hm ?_
 obtain ⟨Qf,hQf⟩:∃Qf:Exit→Act→World→Prop,Qf=fun e a' w'=>FO wS G n (Q e) a' w':=⟨_,rfl⟩
 rw [←hQf]
 have hpan:∀c a w,¬Qf (.panic c) a w:=fun c a w h=>by rw [hQf] at h;obtain ⟨_,_,env',st',_,_,_,h4⟩:=h;exact hp c env' st' h4
 simp only [List.all_append,Bool.and_eq_true] at hgs
 have g1:z1.guard=none:=by simpa using hgs.1.2
 have g2:z2.guard=none:=by simpa using hgs.2
 have e3:∀a w,FO wS G n (FP P n wS G z3 (Q .normal)) a w→zjB P z3 Qf .normal a w:=fun a w ⟨A',m',env',st',f1,f2,f3,f4⟩=>f4 A' m' w a f1 f2 f3 _ _ fun a' w' h=>by rw [hQf];exact h
 have e2:∀a w,FO wS G n (FP P n wS G z2 (FP P n wS G z3 (Q .normal))) a w→zjB P z2 (zjB P z3 Qf) .normal a w:=fun a w ⟨A',m',env',st',f1,f2,f3,f4⟩=>f4 A' m' w a f1 f2 f3 _ _ e3
 have e1:∀a w,FO wS G n (FP P n wS G z1 (FP P n wS G z2 (FP P n wS G z3 (Q .normal)))) a w→zjB P z1 (zjB P z2 (zjB P z3 Qf)) .normal a w:=fun a w ⟨A',m',env',st',f1,f2,f3,f4⟩=>f4 A' m' w a f1 f2 f3 _ _ e2
 obtain ⟨S,hT⟩:=h A mm _ a (hF.step hR hS1) hR1 (hE.step hR hS1) (zjB P z1 (zjB P z2 (zjB P z3 Qf))) e1
 have a0:=wpAny_of_held _ _ _ _ (zvq (P:=P) (Q:=zjB P z1 (zjB P z2 (zjB P z3 Qf))) ht (fun c a w h=>hpan c a w h) l0.length 0 a _ (by simp) hT)
 have hf:∀(k:Nat) (l:List Oper) (s i:Nat),(Array.replicate k false).getD s false=true→zmT l s i=true→(Array.replicate k false).getD i false=true:=fun k l s i hs _=>by simp [Array.getD] at hs
 rw [zyC] at a0
 have rep:∀k,(Array.replicate k false).push false=Array.replicate (k+1) false:=fun k=>by
  apply Array.ext'
  simp [List.replicate_succ']
 have a1:=zlm (P:=P) (n:=n) (ops:=(l0++[z1]).toArray) (ops1:=l0.toArray) (z:=z1) (Q:=zjB P z2 (zjB P z3 Qf)) rfl hok0 hgs.1.1 g1 h1 (by simpa using k1) _ _ _ _ (by simp) (hf _ _) a0
 rw [rep] at a1
 have a2:=zlm (P:=P) (n:=n) (ops:=(l0++[z1]++[z2]).toArray) (ops1:=(l0++[z1]).toArray) (z:=z2) (Q:=zjB P z3 Qf) rfl hok1 (by simpa using hgs.1) g2 h2 (by simpa using k2) _ _ _ _ (by simp) (hf _ _) a1
 rw [rep] at a2
 have a3:=zlm (P:=P) (n:=n) (ops:=ops) (ops1:=(l0++[z1]++[z2]).toArray) (z:=z3) (Q:=Qf) hall hok (by simpa [and_assoc] using hgs) hg3 h3 (by simpa using k3) _ _ _ _ (by simp) (hf _ _) a2
 rw [rep] at a3
 have hsz:ops.size=l0.length+1+1+1:=by
  have:=congrArg List.length hall
  simpa using this
 rw [hsz]
 simpa using a3
section
variable {P : Program} {w : World} {a : Act} {d : Nat} {ty : TypeId} {pos : String} {aft : Array Edge}
theorem zCa{x:Operand}{v:Value}(h:a.eval x=v):(execOp a.eval ⟨some d,.move x,ty,pos,aft,none⟩).run P w=.ok (.value v) w:=by simp [execOp,h]
theorem zDe{x:Operand}{ad:Addr}(h:a.eval x=.pointer (some ad)):(execOp a.eval ⟨some d,.nilCheck x,ty,pos,aft,none⟩).run P w=.ok (.value (.pointer (some ad))) w:=by simp [execOp,h]
theorem zCZ{t:TypeId}{ti:TI}{fs:List (Nat×Nat)}{f off sz B o:Nat}{x:Operand}(ht:zbd P t=some ti)(hk:ti.k=.agg fs)(hf:fs[f]?=some (off,sz))(hsz:sz≠0)(h:a.eval x=.pointer (some ⟨B,o,none⟩)):
  (execOp a.eval ⟨some d,.fieldAddr t x f,ty,pos,aft,none⟩).run P w=.ok (.value (.pointer (some ⟨B,o+off,none⟩))) w:=by
 obtain ⟨dd,i0,hd,_,_,_,_,hdk,_⟩:=zay ht
 rw [hk] at hdk
 obtain ⟨flds,rfl,hm⟩:=zxI hdk
 obtain ⟨fld,h1,h2⟩:=zqt hm f _ hf
 have h1':flds[f]?=some fld:=by simpa using h1
 cases hi:P.info? fld.type with
 |none=>rw [hi] at h2;cases h2
 |some fi =>
  rw [hi] at h2
  simp at h2
  obtain ⟨h3,h4⟩:=h2
  have hz:¬(fi.size=0):=by rw [h4];exact hsz
  simp [execOp,h,Instr.fieldAt,run_underlying hd,h1',Instr.sureAddr,fieldPlace,sizeOf,typeInfo,hi,hz,h3,zfX]
theorem zC0{t:TypeId}{ti:TI}{B o:Nat}{x:Operand}{v:Value}(ht:zbd P t=some ti)(hk:ti.k.isAgg=some false)(h:a.eval x=.pointer (some ⟨B,o,none⟩))(hc:w.cell? ⟨B,o,none⟩=some v):
  (execOp a.eval ⟨some d,.load t x,ty,pos,aft,none⟩).run P w=.ok (.value v) w:=by
 have hia:=zkQ w ht hk
 simp [execOp,h,Instr.loadAt,Instr.sureAddr,loadVar,hia,hc]
theorem zDK{t e:TypeId}{ti te:TI}{B o n c:Nat}{i:Int}{k:IntKind}{x y:Operand}(ht:zbd P t=some ti)(hk:ti.k=.slc e)(he:zbd P e=some te)(h:a.eval x=.slice (some ⟨B,o,none⟩) n c)(hy:a.eval y=.int k i)(h0:0≤i)(h1:i<(n:Int)):
  (execOp a.eval ⟨some d,.indexAddr t x y,ty,pos,aft,none⟩).run P w=.ok (.value (.pointer (some ⟨B,o+i.toNat*te.size,none⟩))) w:=by
 obtain ⟨dd,i0,hd,_,_,_,_,hdk,_⟩:=zay ht
 rw [hk] at hdk
 have:=zhq hdk
 subst this
 have hso:=zd0 w he
 simp [execOp,h,hy,Instr.indexAt,asIntOf,run_underlying hd,h0,h1,hso,zfX]
end
theorem zzu{P:Program}{n:Nat}{wS:World}{G:Am}{o:Oper}{env:Ev}{st:St}{K:Ev→St→Prop}(hd:o.dst.all (·<n)=true)(h:SOp P o env st K):FP P n wS G o K env st:=fun A m w a hF hR hE next Q' hn =>
 zyP hR hE hd h fun a' w' ⟨A',m',env',st',h1,h2,h3,h4⟩=>hn a' w' ⟨A',m',env',st',hF.step hR h3,h1,h2,h4⟩
theorem zyx{A:Am}{w:World}{k:Nat}{els:List (List AV)}{v:Value}(h:VI A w (.isl k els) v)(hne:0<els.length):∃B o cap,v=.slice (some ⟨B,o,none⟩) els.length cap∧A B k∧∀i (hi:i<els.length) j (hj:j<els[i].length),∃u,w.cell? ⟨B,o+i*k+j,none⟩=some u∧VI A w els[i][j] u:=by
 cases h with
 |isl _ _ B o cap vs hA hcap hkk hc hv=>exact ⟨B,o,cap,rfl,hA.1,fun i hi j hj=>⟨_,hc i j hi (by rw [←hkk i hi];exact hj),hv i hi j hj⟩⟩
 |inil=>cases hne
theorem zyw{A:Am}{w:World}{k:Nat}{els:List (List AV)}{i0 j0:Nat}{v:Value}(h:VI A w (.ipt k els i0 j0) v):∃B o,v=.pointer (some ⟨B,o+i0*k+j0,none⟩)∧A B k∧∀i (hi:i<els.length) j (hj:j<els[i].length),∃u,w.cell? ⟨B,o+i*k+j,none⟩=some u∧VI A w els[i][j] u:=by
 cases h with
 |ipt _ _ _ _ B o vs hA hkk hc hv=>exact ⟨B,o,rfl,hA.1,fun i hi j hj=>⟨_,hc i j hi (by rw [←hkk i hi];exact hj),hv i hi j hj⟩⟩
theorem evl{A:Am}{m:BM}{nb:Nat}{w:World}{n:Nat}{env:Ev}{a:Act}{x:Operand}{v:Value}(hE:Env A m nb w n env a)(h:ev env x=some (.lit v)):a.eval x=v:=(zL hE h).lit_inv
theorem te{P:Program}{ops:Array Oper}{Qf:Exit→Act→World→Prop}{S:World→Prop}{m r i d n:Nat}{o:Oper}{v:Value}{A:Am}{mx:BM}{nb:Nat}{w:World}{env:Ev}{a:Act}(ho:ops[i]?=some o)(hlt:Nat.blt i m=true)(hg:o.guard=none)(hd:o.dst=some d)(hdn:d<n)(hS:S w)
  (hE:Env A mx nb w n env a) (hy:∀w',S w'→(execOp a.eval o).run P w'=.ok (.value v) w') (k:∀a',Env A mx nb w n ((d,.lit v)::env) a'→TX P ops Qf S m r (i+1) a' w):TX P ops Qf S m (r+1) i a w:=by
 unfold TX
 rw [if_pos (by simpa using hlt)]
 refine ⟨o,v,ho,.inl ⟨by unfold Region.wanted;rw [hg],hy⟩,hS,?_⟩
 rw [hd]
 exact k _ (hE.put hdn (.imm (.lit v)))
theorem r36{wZ:World}{n:Nat}{Q:Exit→Ev→St→Prop}{env:Ev}{st:St}{id:Nat}{ops:Array Oper}{ms:List zb}{i0:Nat}{mm:zb}{i1:Int}{mp:zU}{cs:List za}{s:List UInt8}{y0 y1 y2 y3 y4 y5 y6 y7 y8 y9 y10 y11 y12 y13 y14 y15 y16 y17 y18:TypeId}{p0 p1 p2 p3 p4 p5 p6 p7 p8 p9 p10 p11 p12 p13 p14 p15 p16 p17 p18:String}{e0 e1 e2 e3 e4 e5 e6 e7 e8 e9 e10 e11 e12 e13 e14 e15 e16 e17 e18:Array Edge}
  (hm:ms[i0]?=some mm) (hp:idx mm.Maps i1=some mp) (hW:wL zbl cs) (hwm:wL zhC mm.Maps) (hs:wS s) (hlen:mp.Stack.length≤1000000) (h0:look env 0=some (.isl 6 (cs.map zc))) (h5:look env 5=some (sA s)) (h15:look env 15=some (.ipt 10 (ms.map zd) i0 0)) (h19:look env 19=some (iA i1)) (hst:zrB st=true) (hn:Nat.blt 257 n=true)
  (hall:ops.toList=([⟨some 240,.move (.tmp 15),y0,p0,e0,none⟩,⟨some 241,.nilCheck (.tmp 240),y1,p1,e1,none⟩,⟨some 242,.fieldAddr 38 (.tmp 241) 8,y2,p2,e2,none⟩,⟨some 243,.load 35 (.tmp 242),y3,p3,e3,none⟩,⟨some 244,.move (.tmp 19),y4,p4,e4,none⟩,⟨some 245,.move (.tmp 15),y5,p5,e5,none⟩,⟨some 246,.nilCheck (.tmp 245),y6,p6,e6,none⟩,⟨some 247,.fieldAddr 38 (.tmp 246) 8,y7,p7,e7,none⟩,⟨some 248,.load 35 (.tmp 247),y8,p8,e8,none⟩,⟨some 249,.move (.tmp 19),y9,p9,e9,none⟩,⟨some 250,.indexAddr 35 (.tmp 248) (.tmp 249),y10,p10,e10,none⟩,⟨some 251,.fieldAddr 80 (.tmp 250) 2,y11,p11,e11,none⟩,⟨some 252,.load 22 (.tmp 251),y12,p12,e12,none⟩,⟨some 253,.move (.tmp 5),y13,p13,e13,none⟩,⟨some 254,.buildSlice 22 1 #[(0,.tmp 253)],y14,p14,e14,none⟩,⟨some 255,.call ⟨.builtin .append,#[.tmp 252,.tmp 254],#[22,22]⟩,y15,p15,e15,none⟩]:List Oper)++[(⟨some 256,.indexAddr 35 (.tmp 243) (.tmp 244),y16,p16,e16,none⟩:Oper)]++[(⟨some 257,.fieldAddr 80 (.tmp 256) 2,y17,p17,e17,none⟩:Oper)]++[(⟨none,.store 22 (.tmp 257) (.tmp 255),y18,p18,e18,none⟩:Oper)]) (hmx:Tryz.prog.follows .mixedOrders=true)
  (hok:zj9 n (([⟨some 240,.move (.tmp 15),y0,p0,e0,none⟩,⟨some 241,.nilCheck (.tmp 240),y1,p1,e1,none⟩,⟨some 242,.fieldAddr 38 (.tmp 241) 8,y2,p2,e2,none⟩,⟨some 243,.load 35 (.tmp 242),y3,p3,e3,none⟩,⟨some 244,.move (.tmp 19),y4,p4,e4,none⟩,⟨some 245,.move (.tmp 15),y5,p5,e5,none⟩,⟨some 246,.nilCheck (.tmp 245),y6,p6,e6,none⟩,⟨some 247,.fieldAddr 38 (.tmp 246) 8,y7,p7,e7,none⟩,⟨some 248,.load 35 (.tmp 247),y8,p8,e8,none⟩,⟨some 249,.move (.tmp 19),y9,p9,e9,none⟩,⟨some 250,.indexAddr 35 (.tmp 248) (.tmp 249),y10,p10,e10,none⟩,⟨some 251,.fieldAddr 80 (.tmp 250) 2,y11,p11,e11,none⟩,⟨some 252,.load 22 (.tmp 251),y12,p12,e12,none⟩,⟨some 253,.move (.tmp 5),y13,p13,e13,none⟩,⟨some 254,.buildSlice 22 1 #[(0,.tmp 253)],y14,p14,e14,none⟩,⟨some 255,.call ⟨.builtin .append,#[.tmp 252,.tmp 254],#[22,22]⟩,y15,p15,e15,none⟩]:List Oper)++[(⟨some 256,.indexAddr 35 (.tmp 243) (.tmp 244),y16,p16,e16,none⟩:Oper)]++[(⟨some 257,.fieldAddr 80 (.tmp 256) 2,y17,p17,e17,none⟩:Oper)])=true) (hok1:zj9 n (([⟨some 240,.move (.tmp 15),y0,p0,e0,none⟩,⟨some 241,.nilCheck (.tmp 240),y1,p1,e1,none⟩,⟨some 242,.fieldAddr 38 (.tmp 241) 8,y2,p2,e2,none⟩,⟨some 243,.load 35 (.tmp 242),y3,p3,e3,none⟩,⟨some 244,.move (.tmp 19),y4,p4,e4,none⟩,⟨some 245,.move (.tmp 15),y5,p5,e5,none⟩,⟨some 246,.nilCheck (.tmp 245),y6,p6,e6,none⟩,⟨some 247,.fieldAddr 38 (.tmp 246) 8,y7,p7,e7,none⟩,⟨some 248,.load 35 (.tmp 247),y8,p8,e8,none⟩,⟨some 249,.move (.tmp 19),y9,p9,e9,none⟩,⟨some 250,.indexAddr 35 (.tmp 248) (.tmp 249),y10,p10,e10,none⟩,⟨some 251,.fieldAddr 80 (.tmp 250) 2,y11,p11,e11,none⟩,⟨some 252,.load 22 (.tmp 251),y12,p12,e12,none⟩,⟨some 253,.move (.tmp 5),y13,p13,e13,none⟩,⟨some 254,.buildSlice 22 1 #[(0,.tmp 253)],y14,p14,e14,none⟩,⟨some 255,.call ⟨.builtin .append,#[.tmp 252,.tmp 254],#[22,22]⟩,y15,p15,e15,none⟩]:List Oper)++[(⟨some 256,.indexAddr 35 (.tmp 243) (.tmp 244),y16,p16,e16,none⟩:Oper)])=true) (hok0:zj9 n ([⟨some 240,.move (.tmp 15),y0,p0,e0,none⟩,⟨some 241,.nilCheck (.tmp 240),y1,p1,e1,none⟩,⟨some 242,.fieldAddr 38 (.tmp 241) 8,y2,p2,e2,none⟩,⟨some 243,.load 35 (.tmp 242),y3,p3,e3,none⟩,⟨some 244,.move (.tmp 19),y4,p4,e4,none⟩,⟨some 245,.move (.tmp 15),y5,p5,e5,none⟩,⟨some 246,.nilCheck (.tmp 245),y6,p6,e6,none⟩,⟨some 247,.fieldAddr 38 (.tmp 246) 8,y7,p7,e7,none⟩,⟨some 248,.load 35 (.tmp 247),y8,p8,e8,none⟩,⟨some 249,.move (.tmp 19),y9,p9,e9,none⟩,⟨some 250,.indexAddr 35 (.tmp 248) (.tmp 249),y10,p10,e10,none⟩,⟨some 251,.fieldAddr 80 (.tmp 250) 2,y11,p11,e11,none⟩,⟨some 252,.load 22 (.tmp 251),y12,p12,e12,none⟩,⟨some 253,.move (.tmp 5),y13,p13,e13,none⟩,⟨some 254,.buildSlice 22 1 #[(0,.tmp 253)],y14,p14,e14,none⟩,⟨some 255,.call ⟨.builtin .append,#[.tmp 252,.tmp 254],#[22,22]⟩,y15,p15,e15,none⟩]:List Oper)=true)
  (k0:zzj ([⟨some 240,.move (.tmp 15),y0,p0,e0,none⟩,⟨some 241,.nilCheck (.tmp 240),y1,p1,e1,none⟩,⟨some 242,.fieldAddr 38 (.tmp 241) 8,y2,p2,e2,none⟩,⟨some 243,.load 35 (.tmp 242),y3,p3,e3,none⟩,⟨some 244,.move (.tmp 19),y4,p4,e4,none⟩,⟨some 245,.move (.tmp 15),y5,p5,e5,none⟩,⟨some 246,.nilCheck (.tmp 245),y6,p6,e6,none⟩,⟨some 247,.fieldAddr 38 (.tmp 246) 8,y7,p7,e7,none⟩,⟨some 248,.load 35 (.tmp 247),y8,p8,e8,none⟩,⟨some 249,.move (.tmp 19),y9,p9,e9,none⟩,⟨some 250,.indexAddr 35 (.tmp 248) (.tmp 249),y10,p10,e10,none⟩,⟨some 251,.fieldAddr 80 (.tmp 250) 2,y11,p11,e11,none⟩,⟨some 252,.load 22 (.tmp 251),y12,p12,e12,none⟩,⟨some 253,.move (.tmp 5),y13,p13,e13,none⟩,⟨some 254,.buildSlice 22 1 #[(0,.tmp 253)],y14,p14,e14,none⟩,⟨some 255,.call ⟨.builtin .append,#[.tmp 252,.tmp 254],#[22,22]⟩,y15,p15,e15,none⟩]:List Oper) (⟨some 256,.indexAddr 35 (.tmp 243) (.tmp 244),y16,p16,e16,none⟩:Oper)=true) (k1:zzj (([⟨some 240,.move (.tmp 15),y0,p0,e0,none⟩,⟨some 241,.nilCheck (.tmp 240),y1,p1,e1,none⟩,⟨some 242,.fieldAddr 38 (.tmp 241) 8,y2,p2,e2,none⟩,⟨some 243,.load 35 (.tmp 242),y3,p3,e3,none⟩,⟨some 244,.move (.tmp 19),y4,p4,e4,none⟩,⟨some 245,.move (.tmp 15),y5,p5,e5,none⟩,⟨some 246,.nilCheck (.tmp 245),y6,p6,e6,none⟩,⟨some 247,.fieldAddr 38 (.tmp 246) 8,y7,p7,e7,none⟩,⟨some 248,.load 35 (.tmp 247),y8,p8,e8,none⟩,⟨some 249,.move (.tmp 19),y9,p9,e9,none⟩,⟨some 250,.indexAddr 35 (.tmp 248) (.tmp 249),y10,p10,e10,none⟩,⟨some 251,.fieldAddr 80 (.tmp 250) 2,y11,p11,e11,none⟩,⟨some 252,.load 22 (.tmp 251),y12,p12,e12,none⟩,⟨some 253,.move (.tmp 5),y13,p13,e13,none⟩,⟨some 254,.buildSlice 22 1 #[(0,.tmp 253)],y14,p14,e14,none⟩,⟨some 255,.call ⟨.builtin .append,#[.tmp 252,.tmp 254],#[22,22]⟩,y15,p15,e15,none⟩]:List Oper)++[(⟨some 256,.indexAddr 35 (.tmp 243) (.tmp 244),y16,p16,e16,none⟩:Oper)]) (⟨some 257,.fieldAddr 80 (.tmp 256) 2,y17,p17,e17,none⟩:Oper)=true) (k2:zzj (([⟨some 240,.move (.tmp 15),y0,p0,e0,none⟩,⟨some 241,.nilCheck (.tmp 240),y1,p1,e1,none⟩,⟨some 242,.fieldAddr 38 (.tmp 241) 8,y2,p2,e2,none⟩,⟨some 243,.load 35 (.tmp 242),y3,p3,e3,none⟩,⟨some 244,.move (.tmp 19),y4,p4,e4,none⟩,⟨some 245,.move (.tmp 15),y5,p5,e5,none⟩,⟨some 246,.nilCheck (.tmp 245),y6,p6,e6,none⟩,⟨some 247,.fieldAddr 38 (.tmp 246) 8,y7,p7,e7,none⟩,⟨some 248,.load 35 (.tmp 247),y8,p8,e8,none⟩,⟨some 249,.move (.tmp 19),y9,p9,e9,none⟩,⟨some 250,.indexAddr 35 (.tmp 248) (.tmp 249),y10,p10,e10,none⟩,⟨some 251,.fieldAddr 80 (.tmp 250) 2,y11,p11,e11,none⟩,⟨some 252,.load 22 (.tmp 251),y12,p12,e12,none⟩,⟨some 253,.move (.tmp 5),y13,p13,e13,none⟩,⟨some 254,.buildSlice 22 1 #[(0,.tmp 253)],y14,p14,e14,none⟩,⟨some 255,.call ⟨.builtin .append,#[.tmp 252,.tmp 254],#[22,22]⟩,y15,p15,e15,none⟩]:List Oper)++[(⟨some 256,.indexAddr 35 (.tmp 243) (.tmp 244),y16,p16,e16,none⟩:Oper)]++[(⟨some 257,.fieldAddr 80 (.tmp 256) 2,y17,p17,e17,none⟩:Oper)]) (⟨none,.store 22 (.tmp 257) (.tmp 255),y18,p18,e18,none⟩:Oper)=true) (k3:e16.toList.all (fun e=>!Region.binds .any e||Nat.blt e.on 16)=true)
  (k4:e17.toList.all (fun e=>!Region.binds .any e||Nat.blt e.on 17)=true) (k5:e18.toList.all (fun e=>!Region.binds .any e||Nat.blt e.on 18)=true) (ht:zzd (Array.mk ([⟨some 240,.move (.tmp 15),y0,p0,e0,none⟩,⟨some 241,.nilCheck (.tmp 240),y1,p1,e1,none⟩,⟨some 242,.fieldAddr 38 (.tmp 241) 8,y2,p2,e2,none⟩,⟨some 243,.load 35 (.tmp 242),y3,p3,e3,none⟩,⟨some 244,.move (.tmp 19),y4,p4,e4,none⟩,⟨some 245,.move (.tmp 15),y5,p5,e5,none⟩,⟨some 246,.nilCheck (.tmp 245),y6,p6,e6,none⟩,⟨some 247,.fieldAddr 38 (.tmp 246) 8,y7,p7,e7,none⟩,⟨some 248,.load 35 (.tmp 247),y8,p8,e8,none⟩,⟨some 249,.move (.tmp 19),y9,p9,e9,none⟩,⟨some 250,.indexAddr 35 (.tmp 248) (.tmp 249),y10,p10,e10,none⟩,⟨some 251,.fieldAddr 80 (.tmp 250) 2,y11,p11,e11,none⟩,⟨some 252,.load 22 (.tmp 251),y12,p12,e12,none⟩,⟨some 253,.move (.tmp 5),y13,p13,e13,none⟩,⟨some 254,.buildSlice 22 1 #[(0,.tmp 253)],y14,p14,e14,none⟩,⟨some 255,.call ⟨.builtin .append,#[.tmp 252,.tmp 254],#[22,22]⟩,y15,p15,e15,none⟩]:List Oper)) 14=true) (hpan:∀c env st,¬Q (.panic c) env st)
  (hK:∀cs',wL zbl cs'→∀st',Q .normal [(0,.isl 6 (cs'.map zc))] st'):FW Tryz.prog n wZ noA (.region id ops true) Q env st:=by
 have hn:257<n:=by simpa using hn
 refine zBz ([⟨some 240,.move (.tmp 15),y0,p0,e0,none⟩,⟨some 241,.nilCheck (.tmp 240),y1,p1,e1,none⟩,⟨some 242,.fieldAddr 38 (.tmp 241) 8,y2,p2,e2,none⟩,⟨some 243,.load 35 (.tmp 242),y3,p3,e3,none⟩,⟨some 244,.move (.tmp 19),y4,p4,e4,none⟩,⟨some 245,.move (.tmp 15),y5,p5,e5,none⟩,⟨some 246,.nilCheck (.tmp 245),y6,p6,e6,none⟩,⟨some 247,.fieldAddr 38 (.tmp 246) 8,y7,p7,e7,none⟩,⟨some 248,.load 35 (.tmp 247),y8,p8,e8,none⟩,⟨some 249,.move (.tmp 19),y9,p9,e9,none⟩,⟨some 250,.indexAddr 35 (.tmp 248) (.tmp 249),y10,p10,e10,none⟩,⟨some 251,.fieldAddr 80 (.tmp 250) 2,y11,p11,e11,none⟩,⟨some 252,.load 22 (.tmp 251),y12,p12,e12,none⟩,⟨some 253,.move (.tmp 5),y13,p13,e13,none⟩,⟨some 254,.buildSlice 22 1 #[(0,.tmp 253)],y14,p14,e14,none⟩,⟨some 255,.call ⟨.builtin .append,#[.tmp 252,.tmp 254],#[22,22]⟩,y15,p15,e15,none⟩]:List Oper) (⟨some 256,.indexAddr 35 (.tmp 243) (.tmp 244),y16,p16,e16,none⟩:Oper) (⟨some 257,.fieldAddr 80 (.tmp 256) 2,y17,p17,e17,none⟩:Oper) (⟨none,.store 22 (.tmp 257) (.tmp 255),y18,p18,e18,none⟩:Oper) 14 hall hmx hok hok1 hok0 rfl rfl k0 k1 k2 k3 k4 k5 ht hpan fun A mx w a hF hR hE Qf hQf=>?_
 obtain ⟨hi1,hi1n,hi1g⟩:=zm hp
 have hi1l:i1<((mm.Maps.map zx).length:Int):=by rw [List.length_map];omega
 obtain ⟨t15,v15⟩:=hE.val 15 _ h15
 obtain ⟨B1,o1,hv15,hA1,hc1⟩:=zyw v15.ipt_inv
 obtain ⟨hi0,hi0g⟩:=List.getElem?_eq_some_iff.1 hm
 have hi0':i0<(ms.map zd).length:=by simpa using hi0
 have hrow:(ms.map zd)[i0]=zd mm:=by rw [List.getElem_map,hi0g]
 obtain ⟨vM,hcell8,hM'⟩:=hc1 i0 hi0' 8 (by rw [hrow];show 8<10;decide)
 have hM:VI A w (.isl 3 (mm.Maps.map zx)) vM:=by
  have e:((ms.map zd)[i0])[8]'(by rw [hrow];show 8<10;decide)=.isl 3 (mm.Maps.map zx):=by simp only [hrow];rfl
  rwa [e] at hM'
 obtain ⟨B2,o2,cap2,rfl,hA2,hc2⟩:=zyx hM (by rw [List.length_map];omega)
 have hi1':i1.toNat<(mm.Maps.map zx).length:=by simpa using hi1n
 have hrow2:(mm.Maps.map zx)[i1.toNat]=zx mp:=by rw [List.getElem_map];congr 1;exact (List.getElem?_eq_some_iff.1 hi1g).2
 obtain ⟨vS,hcellS,hS'⟩:=hc2 i1.toNat hi1' 2 (by rw [hrow2];show 2<3;decide)
 have hSt:VI A w (.isl 1 (mp.Stack.map zt)) vS:=by
  have e:((mm.Maps.map zx)[i1.toNat])[2]'(by rw [hrow2];show 2<3;decide)=.isl 1 (mp.Stack.map zt):=by simp only [hrow2];rfl
  rwa [e] at hS'
 have hws:wL wS mp.Stack:=(hwm.2 mp (List.mem_of_getElem? hi1g)).2.2
 obtain ⟨S,hSd⟩:∃S:World→Prop,S=fun w'=>∀B k,A B k→k≠1→w'.heap[B]?=w.heap[B]?:=⟨_,rfl⟩
 have hS0:S w:=by rw [hSd];exact fun _ _ _ _=>rfl
 have hcM:∀w',S w'→w'.cell? ⟨B1,o1+i0*10+0+8,none⟩=some (.slice (some ⟨B2,o2,none⟩) (mm.Maps.map zx).length cap2):=fun w' h=>by
  rw [hSd] at h
  rw [zcF (h B1 10 hA1 (by decide))]
  exact hcell8
 have hcS:∀w',S w'→w'.cell? ⟨B2,o2+i1.toNat*3+2,none⟩=some vS:=fun w' h=>by
  rw [hSd] at h
  rw [zcF (h B2 3 hA2 (by decide))]
  exact hcellS
 refine ⟨S,?_⟩
 have hE0:Env A mx st.length w n [(0,.isl 6 (cs.map zc)),(5,sA s),(19,iA i1)] a:=hE.less (zCP ⟨h0,h5,h19,trivial⟩)
 have hE:Env A mx st.length w n [(15,.lit (.pointer (some ⟨B1,o1+i0*10+0,none⟩))),(0,.isl 6 (cs.map zc)),(5,sA s),(19,iA i1)] a:=⟨hE0.size,fun t x hx=>by
  simp only [look] at hx
  split at hx
  ·rename_i e;subst e;cases hx
   exact ⟨t15,by rw [hv15];exact .imm (.lit _)⟩
  ·exact hE0.val t x hx,hE0.defers⟩
 clear hE0
 show TX Tryz.prog (Array.mk ([⟨some 240,.move (.tmp 15),y0,p0,e0,none⟩,⟨some 241,.nilCheck (.tmp 240),y1,p1,e1,none⟩,⟨some 242,.fieldAddr 38 (.tmp 241) 8,y2,p2,e2,none⟩,⟨some 243,.load 35 (.tmp 242),y3,p3,e3,none⟩,⟨some 244,.move (.tmp 19),y4,p4,e4,none⟩,⟨some 245,.move (.tmp 15),y5,p5,e5,none⟩,⟨some 246,.nilCheck (.tmp 245),y6,p6,e6,none⟩,⟨some 247,.fieldAddr 38 (.tmp 246) 8,y7,p7,e7,none⟩,⟨some 248,.load 35 (.tmp 247),y8,p8,e8,none⟩,⟨some 249,.move (.tmp 19),y9,p9,e9,none⟩,⟨some 250,.indexAddr 35 (.tmp 248) (.tmp 249),y10,p10,e10,none⟩,⟨some 251,.fieldAddr 80 (.tmp 250) 2,y11,p11,e11,none⟩,⟨some 252,.load 22 (.tmp 251),y12,p12,e12,none⟩,⟨some 253,.move (.tmp 5),y13,p13,e13,none⟩,⟨some 254,.buildSlice 22 1 #[(0,.tmp 253)],y14,p14,e14,none⟩,⟨some 255,.call ⟨.builtin .append,#[.tmp 252,.tmp 254],#[22,22]⟩,y15,p15,e15,none⟩]:List Oper)) Qf S 14 16 0 a w
 refine te rfl rfl rfl rfl (by omega) hS0 hE (fun w' hS'=>zCa (evl hE rfl)) fun a hE=>?_
 refine te rfl rfl rfl rfl (by omega) hS0 hE (fun w' hS'=>zDe (evl hE rfl)) fun a hE=>?_
 refine te rfl rfl rfl rfl (by omega) hS0 hE (fun w' hS'=>zCZ ti rfl rfl (by decide) (evl hE rfl)) fun a hE=>?_
 refine te rfl rfl rfl rfl (by omega) hS0 hE (fun w' hS'=>zC0 ti rfl (evl hE rfl) (hcM w' hS')) fun a hE=>?_
 refine te rfl rfl rfl rfl (by omega) hS0 hE (fun w' hS'=>zCa (evl hE rfl)) fun a hE=>?_
 refine te rfl rfl rfl rfl (by omega) hS0 hE (fun w' hS'=>zCa (evl hE rfl)) fun a hE=>?_
 refine te rfl rfl rfl rfl (by omega) hS0 hE (fun w' hS'=>zDe (evl hE rfl)) fun a hE=>?_
 refine te rfl rfl rfl rfl (by omega) hS0 hE (fun w' hS'=>zCZ ti rfl rfl (by decide) (evl hE rfl)) fun a hE=>?_
 refine te rfl rfl rfl rfl (by omega) hS0 hE (fun w' hS'=>zC0 ti rfl (evl hE rfl) (hcM w' hS')) fun a hE=>?_
 refine te rfl rfl rfl rfl (by omega) hS0 hE (fun w' hS'=>zCa (evl hE rfl)) fun a hE=>?_
 refine te rfl rfl rfl rfl (by omega) hS0 hE (fun w' hS'=>zDK ti rfl ti (evl hE rfl) (evl hE rfl) hi1 hi1l) fun a hE=>?_
 refine te rfl rfl rfl rfl (by omega) hS0 hE (fun w' hS'=>zCZ ti rfl rfl (by decide) (evl hE rfl)) fun a hE=>?_
 refine te rfl rfl rfl rfl (by omega) hS0 hE (fun w' hS'=>zC0 ti rfl (evl hE rfl) (hcS w' hS')) fun a hE=>?_
 refine te rfl rfl rfl rfl (by omega) hS0 hE (fun w' hS'=>zCa (evl hE rfl)) fun a hE=>?_
 unfold TX
 rw [if_neg (by decide)]
 unfold wpOp
 simp only [show (Array.mk ([⟨some 240,.move (.tmp 15),y0,p0,e0,none⟩,⟨some 241,.nilCheck (.tmp 240),y1,p1,e1,none⟩,⟨some 242,.fieldAddr 38 (.tmp 241) 8,y2,p2,e2,none⟩,⟨some 243,.load 35 (.tmp 242),y3,p3,e3,none⟩,⟨some 244,.move (.tmp 19),y4,p4,e4,none⟩,⟨some 245,.move (.tmp 15),y5,p5,e5,none⟩,⟨some 246,.nilCheck (.tmp 245),y6,p6,e6,none⟩,⟨some 247,.fieldAddr 38 (.tmp 246) 8,y7,p7,e7,none⟩,⟨some 248,.load 35 (.tmp 247),y8,p8,e8,none⟩,⟨some 249,.move (.tmp 19),y9,p9,e9,none⟩,⟨some 250,.indexAddr 35 (.tmp 248) (.tmp 249),y10,p10,e10,none⟩,⟨some 251,.fieldAddr 80 (.tmp 250) 2,y11,p11,e11,none⟩,⟨some 252,.load 22 (.tmp 251),y12,p12,e12,none⟩,⟨some 253,.move (.tmp 5),y13,p13,e13,none⟩,⟨some 254,.buildSlice 22 1 #[(0,.tmp 253)],y14,p14,e14,none⟩,⟨some 255,.call ⟨.builtin .append,#[.tmp 252,.tmp 254],#[22,22]⟩,y15,p15,e15,none⟩]:List Oper))[14]?=some (⟨some 254,.buildSlice 22 1 #[(0,.tmp 253)],y14,p14,e14,none⟩:Oper) from rfl]
 rw [show Region.wanted (⟨some 254,.buildSlice 22 1 #[(0,.tmp 253)],y14,p14,e14,none⟩:Oper) (yielded (Array.mk ([⟨some 240,.move (.tmp 15),y0,p0,e0,none⟩,⟨some 241,.nilCheck (.tmp 240),y1,p1,e1,none⟩,⟨some 242,.fieldAddr 38 (.tmp 241) 8,y2,p2,e2,none⟩,⟨some 243,.load 35 (.tmp 242),y3,p3,e3,none⟩,⟨some 244,.move (.tmp 19),y4,p4,e4,none⟩,⟨some 245,.move (.tmp 15),y5,p5,e5,none⟩,⟨some 246,.nilCheck (.tmp 245),y6,p6,e6,none⟩,⟨some 247,.fieldAddr 38 (.tmp 246) 8,y7,p7,e7,none⟩,⟨some 248,.load 35 (.tmp 247),y8,p8,e8,none⟩,⟨some 249,.move (.tmp 19),y9,p9,e9,none⟩,⟨some 250,.indexAddr 35 (.tmp 248) (.tmp 249),y10,p10,e10,none⟩,⟨some 251,.fieldAddr 80 (.tmp 250) 2,y11,p11,e11,none⟩,⟨some 252,.load 22 (.tmp 251),y12,p12,e12,none⟩,⟨some 253,.move (.tmp 5),y13,p13,e13,none⟩,⟨some 254,.buildSlice 22 1 #[(0,.tmp 253)],y14,p14,e14,none⟩,⟨some 255,.call ⟨.builtin .append,#[.tmp 252,.tmp 254],#[22,22]⟩,y15,p15,e15,none⟩]:List Oper)) a.tmps)=true from rfl]
 simp only [if_true]
 refine .inl (zyP (K:=fun e s'=>e=(254,.msl st.length 0 1):: _∧s'=st++[some (1,[zt s])]) hR hE (by simp;omega) (bl st.length ti rfl ti rfl (by decide) (by decide) rfl rfl rfl ⟨rfl,rfl⟩) fun a1 w1 ⟨A1,m1,env1,st1,r1,r2,r3,r4,r5⟩=>?_)
 subst r4;subst r5
 have hF1:=hF.step hR r3
 have hS1:S w1:=by
  rw [hSd]
  exact fun B k hB _=>r3.heap B (hR.aLow B k hB) fun l b hb hh=>hR.aOwn B k l b hB hb hh
 refine ⟨hS1,?_⟩
 unfold TX
 rw [if_neg (by decide)]
 unfold wpOp
 simp only [show (Array.mk ([⟨some 240,.move (.tmp 15),y0,p0,e0,none⟩,⟨some 241,.nilCheck (.tmp 240),y1,p1,e1,none⟩,⟨some 242,.fieldAddr 38 (.tmp 241) 8,y2,p2,e2,none⟩,⟨some 243,.load 35 (.tmp 242),y3,p3,e3,none⟩,⟨some 244,.move (.tmp 19),y4,p4,e4,none⟩,⟨some 245,.move (.tmp 15),y5,p5,e5,none⟩,⟨some 246,.nilCheck (.tmp 245),y6,p6,e6,none⟩,⟨some 247,.fieldAddr 38 (.tmp 246) 8,y7,p7,e7,none⟩,⟨some 248,.load 35 (.tmp 247),y8,p8,e8,none⟩,⟨some 249,.move (.tmp 19),y9,p9,e9,none⟩,⟨some 250,.indexAddr 35 (.tmp 248) (.tmp 249),y10,p10,e10,none⟩,⟨some 251,.fieldAddr 80 (.tmp 250) 2,y11,p11,e11,none⟩,⟨some 252,.load 22 (.tmp 251),y12,p12,e12,none⟩,⟨some 253,.move (.tmp 5),y13,p13,e13,none⟩,⟨some 254,.buildSlice 22 1 #[(0,.tmp 253)],y14,p14,e14,none⟩,⟨some 255,.call ⟨.builtin .append,#[.tmp 252,.tmp 254],#[22,22]⟩,y15,p15,e15,none⟩]:List Oper))[15]?=some (⟨some 255,.call ⟨.builtin .append,#[.tmp 252,.tmp 254],#[22,22]⟩,y15,p15,e15,none⟩:Oper) from rfl]
 rw [show Region.wanted (⟨some 255,.call ⟨.builtin .append,#[.tmp 252,.tmp 254],#[22,22]⟩,y15,p15,e15,none⟩:Oper) (yielded (Array.mk ([⟨some 240,.move (.tmp 15),y0,p0,e0,none⟩,⟨some 241,.nilCheck (.tmp 240),y1,p1,e1,none⟩,⟨some 242,.fieldAddr 38 (.tmp 241) 8,y2,p2,e2,none⟩,⟨some 243,.load 35 (.tmp 242),y3,p3,e3,none⟩,⟨some 244,.move (.tmp 19),y4,p4,e4,none⟩,⟨some 245,.move (.tmp 15),y5,p5,e5,none⟩,⟨some 246,.nilCheck (.tmp 245),y6,p6,e6,none⟩,⟨some 247,.fieldAddr 38 (.tmp 246) 8,y7,p7,e7,none⟩,⟨some 248,.load 35 (.tmp 247),y8,p8,e8,none⟩,⟨some 249,.move (.tmp 19),y9,p9,e9,none⟩,⟨some 250,.indexAddr 35 (.tmp 248) (.tmp 249),y10,p10,e10,none⟩,⟨some 251,.fieldAddr 80 (.tmp 250) 2,y11,p11,e11,none⟩,⟨some 252,.load 22 (.tmp 251),y12,p12,e12,none⟩,⟨some 253,.move (.tmp 5),y13,p13,e13,none⟩,⟨some 254,.buildSlice 22 1 #[(0,.tmp 253)],y14,p14,e14,none⟩,⟨some 255,.call ⟨.builtin .append,#[.tmp 252,.tmp 254],#[22,22]⟩,y15,p15,e15,none⟩]:List Oper)) a1.tmps)=true from rfl]
 simp only [if_true]
 have hV:∀{x v},VI A w x v→V A1 m1 (st++[some (1,[zt s])]).length w1 x v:=fun h=>(V.imm h).step hR r3
 have hE1:Env A1 m1 (st++[some (1,[zt s])]).length w1 n [(243,.isl 3 (mm.Maps.map zx)),(252,.isl 1 (mp.Stack.map zt)),(244,iA i1),(254,.msl st.length 0 1),(0,.isl 6 (cs.map zc))] a1:=by
  refine ⟨r2.size,fun t x hx=>?_,r2.defers⟩
  simp only [look] at hx
  split at hx
  ·rename_i e;subst e;cases hx
   obtain ⟨g1,g2⟩:=r2.val 243 _ rfl
   exact ⟨g1,by rw [g2.lit_inv];exact hV hM⟩
  ·split at hx
   ·rename_i e;subst e;cases hx
    obtain ⟨g1,g2⟩:=r2.val 252 _ rfl
    exact ⟨g1,by rw [g2.lit_inv];exact hV hSt⟩
   ·split at hx
    ·rename_i e;subst e;cases hx;exact r2.val 244 _ rfl
    ·split at hx
     ·rename_i e;subst e;cases hx;exact r2.val 254 _ rfl
     ·split at hx
      ·rename_i e;subst e;cases hx;exact r2.val 0 _ rfl
      ·cases hx
 have hst1:zrB (st++[some (1,[zt s])])=true:=by
  unfold zrB at hst ⊢
  rw [List.all_append,hst]
  rfl
 refine .inl (zBo (b:=st.length) (t0:=0) (t3:=243) (env0:=[(244,iA i1)]) (by omega) ti rfl ti rfl (by show (mp.Stack.length+1)*16≤_;omega) (by omega) rfl rfl (by simp) hws hs hst1 rfl hW rfl hwm (zCP ⟨rfl,trivial⟩) rfl
  (K:=FP Tryz.prog n wZ noA (⟨some 256,.indexAddr 35 (.tmp 243) (.tmp 244),y16,p16,e16,none⟩:Oper) (FP Tryz.prog n wZ noA (⟨some 257,.fieldAddr 80 (.tmp 256) 2,y17,p17,e17,none⟩:Oper) (FP Tryz.prog n wZ noA (⟨none,.store 22 (.tmp 257) (.tmp 255),y18,p18,e18,none⟩:Oper) (Q .normal)))) (fun xs' mps' cs' g1 g2 g3 g4=>?_) A1 m1 w1 a1 hF1 r1 hE1 _ _ fun a2 w2 h hh=>⟨?_,hQf _ _ h⟩)
 · 
  have hmp:∃mp',idx mps' i1=some mp':=by
   have h:i1.toNat<mps'.length:=by omega
   exact ⟨mps'[i1.toNat],by unfold idx;rw [if_pos hi1];exact List.getElem?_eq_getElem h⟩
  obtain ⟨mp',hmp'⟩:=hmp
  refine zzu (by simp;omega) (ixI (c:=mp') ti rfl ti rfl rfl rfl hmp' ?_)
  refine zzu (by simp;omega) (fa ti rfl rfl rfl ?_)
  exact ziu (env0:=[]) (tl:=0) ti rfl (znJ (zm hmp').2.2) rfl rfl rfl rfl rfl (zth rfl (.stk g1)) hst1 rfl g4 (fun _ _ h=>by cases h) rfl fun cs' hcs'=>hK cs' hcs' _
 ·rw [hSd] at hS1 ⊢
  exact fun B k hB hk=>(hh B k (r3.aSub B k hB) hk).trans (hS1 B k hB hk)
def zvs:List AV→List AV→Prop
 | [],[]=>True
 |x ::l,y ::r=>UnF x y∧zvs l r
 |_,_=>False
theorem zvs.get:∀{l r:List AV},zvs l r→l.length=r.length∧∀i (h:i<l.length) (h':i<r.length),UnF l[i] r[i]
 | [],[],_=>⟨rfl,fun i h=>by cases h⟩
 | [],_ :: _,h=>h.elim
 |_ :: _,[],h=>h.elim
 |x ::l,y ::r,h=>by
  obtain ⟨h1,h2⟩:=zvs.get h.2
  refine ⟨by simp [h1],fun i hi hi'=>?_⟩
  cases i with
  |zero=>exact h.1
  |succ i=>exact h2 i (by simpa using hi) (by simpa using hi')
theorem zAS{α:Type}{st:St}{L:zeF}{b sz:Nat}{l:List α}{f g:α→List AV}(h:∀x,zvs (g x) (f x))(hD:zrt L b=false)(hb:st[b]?=some (some (sz,l.map g))):Rs st L (.fr (.isl sz (l.map f))) (.msl b 0 l.length):=
 .sf hD hb (by simp) (by simp) (fun q h1 h2=>by simpa using (h _).get.1) fun q h1 h2 j h3 h4=>by
  simp only [List.getElem_map] at h3 h4 ⊢
  exact (h _).get.2 j h3 h4
theorem unl{v:Value}:UnF (.lit v) (.lit v):=.inr ⟨v,rfl,rfl⟩
theorem unf{v:AV}:UnF (.fr v) v:=.inl rfl
def zjK(x:zU):List AV:=[iA x.At,.fr (.isl 1 (List.map zt x.Locals)),.fr (.isl 1 (List.map zt x.Stack))]
def zbV(x:zb):List AV:=[sA x.Name,.fr (.isl 1 (List.map zt x.Params)),sA x.Ret,bA x.Static,bA x.Abstract,iA x.Locals,iA x.Stack,.fr (.isl 4 (List.map zi x.Code)),.fr (.isl 3 (List.map zx x.Maps)),.fr (.isl 4 (List.map zap x.Traps))]
def zgk(x:za):List AV:=[sA x.Name,sA x.Super,bA x.Interface,.fr (.isl 1 (List.map zt x.Impl)),.fr (.isl 3 (List.map zA x.Fields)),.fr (.isl 10 (List.map zd x.Methods))]
theorem zDI(x:List UInt8):zvs (zt x) (zt x):=⟨unl,trivial⟩
theorem zDG(x:zw):zvs (zi x) (zi x):=⟨unl,unl,unl,unl,trivial⟩
theorem zCW(x:zan):zvs (zap x) (zap x):=⟨unl,unl,unl,unl,trivial⟩
theorem zB9(x:zq):zvs (zA x) (zA x):=⟨unl,unl,unl,trivial⟩
theorem zDH(x:zU):zvs (zjK x) (zx x):=⟨unl,unf,unf,trivial⟩
theorem zA6(x:zb):zvs (zbV x) (zd x):=⟨unl,unf,unl,unl,unl,unl,unl,unf,unf,unf,trivial⟩
theorem zB8(x:za):zvs (zgk x) (zc x):=⟨unl,unl,unl,unf,unf,unf,trivial⟩
theorem zcB(v1:List (List UInt8))(v2:Int){r:(List (List UInt8))}(h:zc3 v1 v2=some r):zaF Tryz.prog 70 [.isl 1 (List.map zt v1),iA v2] (.fr (.isl 1 (List.map zt r))):=by
 refine zl Tryz.func70 rfl (by kernel_rfl) rfl rfl ?_
 unfold zc3 at h
 refine rg rfl<|u<|asg rfl<|zn ?_
 refine rg rfl<|u<|asg rfl<|zn ?_
 refine zf ?_
 refine rg rfl<|u<|asg rfl<|zn ?_
 obtain ⟨o,ho,h⟩:=bs h
 refine zmO (X:=(List (List UInt8))×Int) (B:=(List (List UInt8))) (R:=(List (List UInt8))) (fun z=>[(0,.isl 1 (List.map zt v1)),(1,iA v2),(5,.msl 0 0 (List.length z.1)),(6,iA z.2)]) (fun z=>[some (1,List.map zt z.1)]) (fun b=>[(5,.msl 0 0 (List.length b))]) (fun b=>[some (1,List.map zt b)]) (fun r env st=>zj8 Tryz.prog Tryz.f70 0 (.fr (.isl 1 (List.map zt r))) [] env st) ho ⟨[.fresh 1],ce rfl rfl<|ce rfl rfl<|cv rfl (.nilown rfl)<|ce rfl rfl<|cn,rfl,⟨⟨rfl,rfl⟩,trivial⟩,rfl,Nat.le_of_ble_eq_true rfl⟩ ?_ ?_ ?_
 ·
  rintro ⟨v8,v9⟩ r h
  replace h:zd6 v1 v2 v8 v9=some r:=h
  unfold zd6 at h
  refine zf ?_
  refine rg rfl<|u<|mv rfl<|u<|mv rfl<|u<|lnI ti rfl rfl<|u<|lss ti rfl rfl<|u<|mv rfl<|zhw (j:=4) 3 rfl rfl rfl rfl rfl gpn (fun hb6=>g rfl hb6<|mv rfl<|g rfl hb6<|mv rfl<|g rfl hb6<|lss ti rfl rfl<|zn (egA [12,13,14] 3 hb6 rfl rfl rfl rfl)) zx9<|zn ?_
  refine zg3 rfl (fun hc7=>?_) (fun hc7=>?_)
  ·
   replace h:=bT hc7 h
   refine ze ?_
   refine zf ?_
   refine zj ?_
   obtain ⟨v10,q8,h⟩:=bs h
   obtain ⟨v11,q9,h⟩:=bs h
   obtain ⟨v12,q10,h⟩:=bs h
   refine rl rfl<|u<|mv rfl<|u<|mv rfl<|u<|mv rfl<|u<|ixI ti rfl ti rfl rfl rfl q8<|u<|ldI ti rfl (zm q8).2.2 rfl<|u<|pc (zbr v10 12 q9) rfl rfl rfl<|u<|bl 1 ti rfl ti rfl (by decide) (by decide) rfl rfl rfl<|u<|apM 2 ti rfl ti rfl rfl (by decide) ti rfl rfl rfl rfl (roX (f:=zt) (z:=[v11]) rfl rfl) (fun _=>rfl) rfl q10<|u<|asg rfl<|zn ?_
   refine rl rfl<|u<|mv rfl<|u<|add ti rfl rfl<|u<|asg rfl<|zn ?_
   obtain rfl:=sm h
   exact ⟨_,rfl,[.old 2],ce rfl rfl<|ce rfl rfl<|cv rfl (.msl rfl)<|ce rfl rfl<|cn,rfl,⟨⟨_,rfl,zbs (fun _=>rfl)⟩,trivial⟩,rfl,Nat.le_of_ble_eq_true rfl⟩
  ·
   replace h:=bF hc7 h
   refine zy ?_
   obtain rfl:=sm h
   exact ⟨rfl,_,rfl,[.old 0],cv rfl (.msl rfl)<|cn,rfl,⟨⟨_,rfl,zbs (fun _=>rfl)⟩,trivial⟩,rfl,Nat.le_of_ble_eq_true rfl⟩
 ·
  rintro v13 rfl
  replace h:zjD v13=some r:=h
  unfold zjD at h
  refine zu ?_
  refine rg rfl<|u<|mv rfl<|u<|asg rfl<|zn ?_
  refine zD ?_
  obtain rfl:=sm h
  exact ⟨_,rfl,[],zAS zDI rfl rfl,rfl,trivial,rfl,Nat.le_of_ble_eq_true rfl⟩
 ·
  rintro r' rfl env st hp
  obtain rfl:=sm h
  exact hp
theorem zoC(v1:zb){r:zb}(h:zgT v1=some r):zaF Tryz.prog 71 [.agg (zd v1)] (.agg (zbV r)):=by
 refine zl Tryz.func71 rfl (by kernel_rfl) rfl rfl ?_
 unfold zgT at h
 refine rg rfl<|u<|bx 0 10 rfl rfl rfl rfl<|u<|al 1 ti rfl<|zn ?_
 obtain ⟨v2,q1,h⟩:=bs h
 obtain ⟨v3,q2,h⟩:=bs h
 obtain ⟨v4,q3,h⟩:=bs h
 refine rd [(1,.mpt 0 0 0),(2,.mpt 1 0 0),(3,.mpt 2 0 0)] [some (10,[(zd v1)]),some (10,[[sA [],.lit (.slice none 0 0),sA [],bA false,bA false,iA 0,iA 0,.lit (.slice none 0 0),.lit (.slice none 0 0),.lit (.slice none 0 0)]]),some (10,[[sA v2,.fr (.isl 1 (List.map zt v3)),sA v4,bA v1.Static,bA v1.Abstract,iA v1.Locals,iA v1.Stack,.lit (.slice none 0 0),.lit (.slice none 0 0),.lit (.slice none 0 0)]])] [18,19] [17,16,15,14,13,12,11,10,9,8,7,6,5,4,3,2,1,0] [(25,.agg [sA v2,.fr (.isl 1 (List.map zt v3)),sA v4,bA v1.Static,bA v1.Abstract,iA v1.Locals,iA v1.Stack,.lit (.slice none 0 0),.lit (.slice none 0 0),.lit (.slice none 0 0)]),(24,iA v1.Stack),(23,.mpt 0 0 6),(22,iA v1.Locals),(21,.mpt 0 0 5),(20,bA v1.Abstract),(19,.mpt 0 0 4),(18,bA v1.Static),(17,.mpt 0 0 3),(16,sA v4),(15,sA v1.Ret),(14,.mpt 0 0 2),(13,.fr (.isl 1 (List.map zt v3))),(12,.isl 1 (List.map zt v1.Params)),(11,.mpt 0 0 1),(10,sA v2),(9,sA v1.Name),(8,.mpt 0 0 0)] 2 (by kernel_rfl) (by kernel_rfl) rfl (by kernel_rfl) (dtS ⟨(fun _=>pa rfl rfl rfl rfl (bd (parts:=[(0,sA v2),(1,.fr (.isl 1 (List.map zt v3))),(2,sA v4),(3,bA v1.Static),(4,bA v1.Abstract),(5,iA v1.Locals),(6,iA v1.Stack)]) (cs:=[sA v2,.fr (.isl 1 (List.map zt v3)),sA v4,bA v1.Static,bA v1.Abstract,iA v1.Locals,iA v1.Stack,.lit (.slice none 0 0),.lit (.slice none 0 0),.lit (.slice none 0 0)]) ti rfl rfl (by kernel_rfl)<|⟨rfl,rfl⟩)),(fun _=>pa rfl rfl rfl rfl (ld ti rfl rfl<|⟨rfl,rfl⟩)),(fun _=>pa rfl rfl rfl rfl (fa ti rfl rfl rfl<|⟨rfl,rfl⟩)),(fun _=>pa rfl rfl rfl rfl (ld ti rfl rfl<|⟨rfl,rfl⟩)),(fun _=>pa rfl rfl rfl rfl (fa ti rfl rfl rfl<|⟨rfl,rfl⟩)),(fun _=>pa rfl rfl rfl rfl (ld ti rfl rfl<|⟨rfl,rfl⟩)),(fun _=>pa rfl rfl rfl rfl (fa ti rfl rfl rfl<|⟨rfl,rfl⟩)),(fun _=>pa rfl rfl rfl rfl (ld ti rfl rfl<|⟨rfl,rfl⟩)),(fun _=>pa rfl rfl rfl rfl (fa ti rfl rfl rfl<|⟨rfl,rfl⟩)),(fun _=>pa rfl rfl rfl rfl (pc (zbr v1.Ret 12 q3) rfl rfl rfl<|⟨rfl,rfl⟩)),(fun _=>pa rfl rfl rfl rfl (ld ti rfl rfl<|⟨rfl,rfl⟩)),(fun _=>pa rfl rfl rfl rfl (fa ti rfl rfl rfl<|⟨rfl,rfl⟩)),(fun _=>pa rfl rfl rfl rfl (pc (zcB v1.Params 8 q2) rfl rfl rfl<|⟨rfl,rfl⟩)),(fun _=>pa rfl rfl rfl rfl (ld ti rfl rfl<|⟨rfl,rfl⟩)),(fun _=>pa rfl rfl rfl rfl (fa ti rfl rfl rfl<|⟨rfl,rfl⟩)),(fun _=>pa rfl rfl rfl rfl (pc (zbr v1.Name 10 q1) rfl rfl rfl<|⟨rfl,rfl⟩)),(fun _=>pa rfl rfl rfl rfl (ld ti rfl rfl<|⟨rfl,rfl⟩)),(fun _=>pa rfl rfl rfl rfl (fa ti rfl rfl rfl<|⟨rfl,rfl⟩)),trivial⟩ (by kernel_rfl) rfl ⟨(fun _ _=>⟨_,rfl,rfl,al 2 ti rfl<|⟨(.mpt 2 0 0),[],[(3,.mpt 2 0 0)],rfl,rfl,by kernel_rfl,rfl,dtS ⟨(fun _=>pa rfl rfl rfl rfl (bd (parts:=[(0,sA v2),(1,.fr (.isl 1 (List.map zt v3))),(2,sA v4),(3,bA v1.Static),(4,bA v1.Abstract),(5,iA v1.Locals),(6,iA v1.Stack)]) (cs:=[sA v2,.fr (.isl 1 (List.map zt v3)),sA v4,bA v1.Static,bA v1.Abstract,iA v1.Locals,iA v1.Stack,.lit (.slice none 0 0),.lit (.slice none 0 0),.lit (.slice none 0 0)]) ti rfl rfl (by kernel_rfl)<|⟨rfl,rfl⟩)),(fun _=>pa rfl rfl rfl rfl (ld ti rfl rfl<|⟨rfl,rfl⟩)),(fun _=>pa rfl rfl rfl rfl (fa ti rfl rfl rfl<|⟨rfl,rfl⟩)),(fun _=>pa rfl rfl rfl rfl (ld ti rfl rfl<|⟨rfl,rfl⟩)),(fun _=>pa rfl rfl rfl rfl (fa ti rfl rfl rfl<|⟨rfl,rfl⟩)),(fun _=>pa rfl rfl rfl rfl (ld ti rfl rfl<|⟨rfl,rfl⟩)),(fun _=>pa rfl rfl rfl rfl (fa ti rfl rfl rfl<|⟨rfl,rfl⟩)),(fun _=>pa rfl rfl rfl rfl (ld ti rfl rfl<|⟨rfl,rfl⟩)),(fun _=>pa rfl rfl rfl rfl (fa ti rfl rfl rfl<|⟨rfl,rfl⟩)),(fun _=>pa rfl rfl rfl rfl (pc (zbr v1.Ret 12 q3) rfl rfl rfl<|⟨rfl,rfl⟩)),(fun _=>pa rfl rfl rfl rfl (ld ti rfl rfl<|⟨rfl,rfl⟩)),(fun _=>pa rfl rfl rfl rfl (fa ti rfl rfl rfl<|⟨rfl,rfl⟩)),(fun _=>pa rfl rfl rfl rfl (pc (zcB v1.Params 8 q2) rfl rfl rfl<|⟨rfl,rfl⟩)),(fun _=>pa rfl rfl rfl rfl (ld ti rfl rfl<|⟨rfl,rfl⟩)),(fun _=>pa rfl rfl rfl rfl (fa ti rfl rfl rfl<|⟨rfl,rfl⟩)),(fun _=>pa rfl rfl rfl rfl (pc (zbr v1.Name 10 q1) rfl rfl rfl<|⟨rfl,rfl⟩)),(fun _=>pa rfl rfl rfl rfl (ld ti rfl rfl<|⟨rfl,rfl⟩)),(fun _=>pa rfl rfl rfl rfl (fa ti rfl rfl rfl<|⟨rfl,rfl⟩)),trivial⟩ (by kernel_rfl) rfl ⟨(fun h=>by cases h),(fun _ _=>⟨_,rfl,rfl,sto ti rfl rfl rfl<|⟨.any,[],[],rfl,rfl,by kernel_rfl,trivial,dt0 ⟨(fun h=>by cases h),(fun h=>by cases h),(fun h=>by cases h),(fun h=>by cases h),(fun h=>by cases h),(fun h=>by cases h),(fun h=>by cases h),(fun h=>by cases h),(fun h=>by cases h),(fun h=>by cases h),(fun h=>by cases h),(fun h=>by cases h),(fun h=>by cases h),(fun h=>by cases h),(fun h=>by cases h),(fun h=>by cases h),(fun h=>by cases h),(fun h=>by cases h),trivial⟩ (by kernel_rfl) rfl ⟨[.old 0,.old 1,.old 2],cv rfl (.mpt rfl)<|cv rfl (.mpt rfl)<|cv rfl (.mpt rfl)<|cn,rfl,⟨⟨_,rfl,zaz (ciL rfl)⟩,⟨_,rfl,zaz (ciL rfl)⟩,⟨_,rfl,zaz (ciL rfl)⟩,trivial⟩,rfl,Nat.le_of_ble_eq_true rfl⟩⟩⟩),trivial⟩⟩⟩),(fun _ h=>by cases h),trivial⟩) ?_
 refine zf ?_
 refine rg rfl<|u<|asg rfl<|zn ?_
 obtain ⟨o,ho,h⟩:=bs h
 refine zmO (X:=(List zw)×Int) (B:=(List zw)) (R:=zb) (fun z=>[(1,.mpt 0 0 0),(2,.mpt 1 0 0),(3,.mpt 2 0 0),(4,iA z.2)]) (fun z=>[some (10,[(zd v1)]),some (10,[[sA [],.lit (.slice none 0 0),sA [],bA false,bA false,iA 0,iA 0,.lit (.slice none 0 0),.lit (.slice none 0 0),.lit (.slice none 0 0)]]),some (10,[[sA v2,.fr (.isl 1 (List.map zt v3)),sA v4,bA v1.Static,bA v1.Abstract,iA v1.Locals,iA v1.Stack,.msl 3 0 (List.length z.1),.lit (.slice none 0 0),.lit (.slice none 0 0)]]),some (4,List.map zi z.1)]) (fun b=>[(1,.mpt 0 0 0),(2,.mpt 1 0 0),(3,.mpt 2 0 0)]) (fun b=>[some (10,[(zd v1)]),some (10,[[sA [],.lit (.slice none 0 0),sA [],bA false,bA false,iA 0,iA 0,.lit (.slice none 0 0),.lit (.slice none 0 0),.lit (.slice none 0 0)]]),some (10,[[sA v2,.fr (.isl 1 (List.map zt v3)),sA v4,bA v1.Static,bA v1.Abstract,iA v1.Locals,iA v1.Stack,.msl 3 0 (List.length b),.lit (.slice none 0 0),.lit (.slice none 0 0)]]),some (4,List.map zi b)]) (fun r env st=>zj8 Tryz.prog Tryz.f71 0 (.agg (zbV r)) [] env st) ho ⟨[.old 0,.old 1,.old 2,.fresh 4],cv rfl (.mpt rfl)<|cv rfl (.mpt rfl)<|cv rfl (.mpt rfl)<|ce rfl rfl<|cn,rfl,⟨⟨_,rfl,zaz (ciL rfl)⟩,⟨_,rfl,zaz (ciL rfl)⟩,⟨_,rfl,zaz ⟨ci rfl,ci rfl,ci rfl,ci rfl,ci rfl,ci rfl,ci rfl,.nilown rfl,ci rfl,ci rfl,trivial⟩⟩,⟨rfl,rfl⟩,trivial⟩,rfl,Nat.le_of_ble_eq_true rfl⟩ ?_ ?_ ?_
 ·
  rintro ⟨v10,v11⟩ r h
  replace h:zdm v1 v10 v11=some r:=h
  unfold zdm at h
  refine zf ?_
  refine rg rfl<|u<|mv rfl<|u<|fa ti rfl rfl rfl<|u<|ld ti rfl rfl<|u<|lnI ti rfl rfl<|u<|lss ti rfl rfl<|u<|mv rfl<|zhw (j:=5) 2 rfl rfl rfl rfl rfl gpn (fun hb9=>g rfl hb9<|mv rfl<|g rfl hb9<|lss ti rfl rfl<|zn (egA [32,33] 2 hb9 rfl rfl rfl rfl)) zx9<|zn ?_
  refine zg3 rfl (fun hc10=>?_) (fun hc10=>?_)
  ·
   replace h:=bT hc10 h
   refine ze ?_
   refine zf ?_
   refine zj ?_
   obtain ⟨v12,q11,h⟩:=bs h
   obtain ⟨v13,q12,h⟩:=bs h
   obtain ⟨v14,q13,h⟩:=bs h
   refine rdL [(1,.mpt 0 0 0),(2,.mpt 1 0 0),(3,.mpt 2 0 0),(4,iA v11)] [some (10,[(zd v1)]),some (10,[[sA [],.lit (.slice none 0 0),sA [],bA false,bA false,iA 0,iA 0,.lit (.slice none 0 0),.lit (.slice none 0 0),.lit (.slice none 0 0)]]),some (10,[[sA v2,.fr (.isl 1 (List.map zt v3)),sA v4,bA v1.Static,bA v1.Abstract,iA v1.Locals,iA v1.Stack,.msl 3 0 (List.length v14),.lit (.slice none 0 0),.lit (.slice none 0 0)]]),some (4,List.map zi v14)] [8,9,11] [7,6,5,4,3,2,1,0] [(44,.agg (zi v13)),(43,.agg (zi v12)),(42,.ipt 4 (List.map zi v1.Code) (Int.toNat v11) 0),(41,iA v11),(40,.isl 4 (List.map zi v1.Code)),(39,.mpt 0 0 7),(38,.msl 3 0 (List.length v10)),(37,.mpt 2 0 7)] 3 (by kernel_rfl) (by kernel_rfl) rfl (by kernel_rfl) (dtS ⟨(fun _=>pa rfl rfl rfl rfl (pc (zoB v12 q12) rfl rfl rfl<|⟨rfl,rfl⟩)),(fun _=>pa rfl rfl rfl rfl (ldI ti rfl (zm q11).2.2 rfl<|⟨rfl,rfl⟩)),(fun _=>pa rfl rfl rfl rfl (ixI ti rfl ti rfl rfl rfl q11<|⟨rfl,rfl⟩)),(fun _=>pa rfl rfl rfl rfl (mv rfl<|⟨rfl,rfl⟩)),(fun _=>pa rfl rfl rfl rfl (ld ti rfl rfl<|⟨rfl,rfl⟩)),(fun _=>pa rfl rfl rfl rfl (fa ti rfl rfl rfl<|⟨rfl,rfl⟩)),(fun _=>pa rfl rfl rfl rfl (ld ti rfl rfl<|⟨rfl,rfl⟩)),(fun _=>pa rfl rfl rfl rfl (fa ti rfl rfl rfl<|⟨rfl,rfl⟩)),trivial⟩ (by kernel_rfl) rfl ⟨(fun _ _=>⟨_,rfl,rfl,bl 4 ti rfl ti rfl (by decide) (by decide) rfl rfl rfl<|⟨(.msl 4 0 1),[],[(45,.msl 4 0 1)],rfl,rfl,by kernel_rfl,rfl,dtS ⟨(fun h=>by cases h),(fun _=>pa rfl rfl rfl rfl (ldI ti rfl (zm q11).2.2 rfl<|⟨rfl,rfl⟩)),(fun _=>pa rfl rfl rfl rfl (ixI ti rfl ti rfl rfl rfl q11<|⟨rfl,rfl⟩)),(fun _=>pa rfl rfl rfl rfl (mv rfl<|⟨rfl,rfl⟩)),(fun _=>pa rfl rfl rfl rfl (ld ti rfl rfl<|⟨rfl,rfl⟩)),(fun _=>pa rfl rfl rfl rfl (fa ti rfl rfl rfl<|⟨rfl,rfl⟩)),(fun _=>pa rfl rfl rfl rfl (ld ti rfl rfl<|⟨rfl,rfl⟩)),(fun _=>pa rfl rfl rfl rfl (fa ti rfl rfl rfl<|⟨rfl,rfl⟩)),trivial⟩ (by kernel_rfl) rfl ⟨(fun h=>by cases h),(fun _ _=>⟨_,rfl,rfl,apM 5 ti rfl ti rfl rfl (by decide) ti rfl rfl rfl rfl (roX (f:=zi) (z:=[v13]) rfl rfl) (fun _=>rfl) rfl q13<|⟨(.msl 5 0 (List.length v14)),[10],[(47,.mpt 2 0 7),(46,.msl 5 0 (List.length v14))],rfl,rfl,by kernel_rfl,rfl,dtS ⟨(fun _=>pa rfl rfl rfl rfl (fa ti rfl rfl rfl<|⟨rfl,rfl⟩)),(fun h=>by cases h),(fun _=>pa rfl rfl rfl rfl (ldI ti rfl (zm q11).2.2 rfl<|⟨rfl,rfl⟩)),(fun _=>pa rfl rfl rfl rfl (ixI ti rfl ti rfl rfl rfl q11<|⟨rfl,rfl⟩)),(fun _=>pa rfl rfl rfl rfl (mv rfl<|⟨rfl,rfl⟩)),(fun _=>pa rfl rfl rfl rfl (ld ti rfl rfl<|⟨rfl,rfl⟩)),(fun _=>pa rfl rfl rfl rfl (fa ti rfl rfl rfl<|⟨rfl,rfl⟩)),(fun h=>by cases h),(fun _=>pa rfl rfl rfl rfl (fa ti rfl rfl rfl<|⟨rfl,rfl⟩)),trivial⟩ (by kernel_rfl) rfl ⟨(fun h=>by cases h),(fun h=>by cases h),(fun _ _=>⟨_,rfl,rfl,sto ti rfl rfl rfl<|⟨.any,[],[],rfl,rfl,by kernel_rfl,trivial,dt0 ⟨(fun h=>by cases h),(fun h=>by cases h),(fun h=>by cases h),(fun h=>by cases h),(fun h=>by cases h),(fun h=>by cases h),(fun h=>by cases h),(fun h=>by cases h),(fun h=>by cases h),trivial⟩ (by kernel_rfl) rfl ⟨[.old 0,.old 1,.old 2,.old 5],cv rfl (.mpt rfl)<|cv rfl (.mpt rfl)<|cv rfl (.mpt rfl)<|ce rfl rfl<|cn,rfl,⟨⟨_,rfl,zaz (ciL rfl)⟩,⟨_,rfl,zaz (ciL rfl)⟩,⟨_,rfl,zaz ⟨ci rfl,ci rfl,ci rfl,ci rfl,ci rfl,ci rfl,ci rfl,.msl rfl,ci rfl,ci rfl,trivial⟩⟩,⟨_,rfl,zbs (fun _=>rfl)⟩,trivial⟩,rfl,Nat.le_of_ble_eq_true rfl⟩⟩⟩),trivial⟩⟩⟩),(fun _ h=>by cases h),trivial⟩⟩⟩),(fun _ h=>by cases h),(fun _ h=>by cases h),trivial⟩) ?_
   refine rl rfl<|u<|mv rfl<|u<|add ti rfl rfl<|u<|asg rfl<|zn ?_
   obtain rfl:=sm h
   exact ⟨_,rfl,[.old 0,.old 1,.old 2,.old 3],cv rfl (.mpt rfl)<|cv rfl (.mpt rfl)<|cv rfl (.mpt rfl)<|ce rfl rfl<|cn,rfl,⟨⟨_,rfl,zaz (ciL rfl)⟩,⟨_,rfl,zaz (ciL rfl)⟩,⟨_,rfl,zaz ⟨ci rfl,ci rfl,ci rfl,ci rfl,ci rfl,ci rfl,ci rfl,.msl rfl,ci rfl,ci rfl,trivial⟩⟩,⟨_,rfl,zbs (fun _=>rfl)⟩,trivial⟩,rfl,Nat.le_of_ble_eq_true rfl⟩
  ·
   replace h:=bF hc10 h
   refine zy ?_
   obtain rfl:=sm h
   exact ⟨rfl,_,rfl,[.old 0,.old 1,.old 2,.old 3],cv rfl (.mpt rfl)<|cv rfl (.mpt rfl)<|cv rfl (.mpt rfl)<|cn,rfl,⟨⟨_,rfl,zaz (ciL rfl)⟩,⟨_,rfl,zaz (ciL rfl)⟩,⟨_,rfl,zaz ⟨ci rfl,ci rfl,ci rfl,ci rfl,ci rfl,ci rfl,ci rfl,.msl rfl,ci rfl,ci rfl,trivial⟩⟩,⟨_,rfl,zbs (fun _=>rfl)⟩,trivial⟩,rfl,Nat.le_of_ble_eq_true rfl⟩
 ·
  rintro v15 rfl
  replace h:zfS v1 v2 v3 v4 v15=some r:=h
  unfold zfS at h
  refine zu ?_
  refine zf ?_
  refine rg rfl<|u<|asg rfl<|zn ?_
  obtain ⟨o,ho,h⟩:=bs h
  refine zmO (X:=(List zU)×Int) (B:=(List zU)) (R:=zb) (fun z=>[(1,.mpt 0 0 0),(2,.mpt 1 0 0),(3,.mpt 2 0 0),(5,iA z.2)]) (fun z=>[some (10,[(zd v1)]),some (10,[[sA [],.lit (.slice none 0 0),sA [],bA false,bA false,iA 0,iA 0,.lit (.slice none 0 0),.lit (.slice none 0 0),.lit (.slice none 0 0)]]),some (10,[[sA v2,.fr (.isl 1 (List.map zt v3)),sA v4,bA v1.Static,bA v1.Abstract,iA v1.Locals,iA v1.Stack,.msl 3 0 (List.length v15),.msl 4 0 (List.length z.1),.lit (.slice none 0 0)]]),some (4,List.map zi v15),some (3,List.map zjK z.1)]) (fun b=>[(1,.mpt 0 0 0),(2,.mpt 1 0 0),(3,.mpt 2 0 0)]) (fun b=>[some (10,[(zd v1)]),some (10,[[sA [],.lit (.slice none 0 0),sA [],bA false,bA false,iA 0,iA 0,.lit (.slice none 0 0),.lit (.slice none 0 0),.lit (.slice none 0 0)]]),some (10,[[sA v2,.fr (.isl 1 (List.map zt v3)),sA v4,bA v1.Static,bA v1.Abstract,iA v1.Locals,iA v1.Stack,.msl 3 0 (List.length v15),.msl 4 0 (List.length b),.lit (.slice none 0 0)]]),some (4,List.map zi v15),some (3,List.map zjK b)]) (fun r env st=>zj8 Tryz.prog Tryz.f71 0 (.agg (zbV r)) [] env st) ho ⟨[.old 0,.old 1,.old 2,.old 3,.fresh 3],cv rfl (.mpt rfl)<|cv rfl (.mpt rfl)<|cv rfl (.mpt rfl)<|ce rfl rfl<|cn,rfl,⟨⟨_,rfl,zaz (ciL rfl)⟩,⟨_,rfl,zaz (ciL rfl)⟩,⟨_,rfl,zaz ⟨ci rfl,ci rfl,ci rfl,ci rfl,ci rfl,ci rfl,ci rfl,.msl rfl,.nilown rfl,ci rfl,trivial⟩⟩,⟨_,rfl,zbs (fun _=>rfl)⟩,⟨rfl,rfl⟩,trivial⟩,rfl,Nat.le_of_ble_eq_true rfl⟩ ?_ ?_ ?_
  ·
   rintro ⟨v24,v25⟩ r h
   replace h:zdn v1 v24 v25=some r:=h
   unfold zdn at h
   refine zf ?_
   refine rg rfl<|u<|mv rfl<|u<|fa ti rfl rfl rfl<|u<|ld ti rfl rfl<|u<|lnI ti rfl rfl<|u<|lss ti rfl rfl<|u<|mv rfl<|zhw (j:=5) 2 rfl rfl rfl rfl rfl gpn (fun hb22=>g rfl hb22<|mv rfl<|g rfl hb22<|lss ti rfl rfl<|zn (egA [54,55] 2 hb22 rfl rfl rfl rfl)) zx9<|zn ?_
   refine zg3 rfl (fun hc23=>?_) (fun hc23=>?_)
   ·
    replace h:=bT hc23 h
    refine ze ?_
    refine zf ?_
    refine zj ?_
    obtain ⟨v26,q24,h⟩:=bs h
    obtain ⟨v27,q25,h⟩:=bs h
    obtain ⟨v28,q26,h⟩:=bs h
    obtain ⟨v29,q27,h⟩:=bs h
    obtain ⟨v30,q28,h⟩:=bs h
    obtain ⟨v31,q29,h⟩:=bs h
    refine rdL [(1,.mpt 0 0 0),(2,.mpt 1 0 0),(3,.mpt 2 0 0),(5,iA v25)] [some (10,[(zd v1)]),some (10,[[sA [],.lit (.slice none 0 0),sA [],bA false,bA false,iA 0,iA 0,.lit (.slice none 0 0),.lit (.slice none 0 0),.lit (.slice none 0 0)]]),some (10,[[sA v2,.fr (.isl 1 (List.map zt v3)),sA v4,bA v1.Static,bA v1.Abstract,iA v1.Locals,iA v1.Stack,.msl 3 0 (List.length v15),.msl 4 0 (List.length v31),.lit (.slice none 0 0)]]),some (4,List.map zi v15),some (3,List.map zjK v31)] [23,24,26] [22,21,20,19,18,17,16,15,14,13,12,11,10,9,8,7,6,5,4,3,2,1,0] [(81,.agg [iA v26.At,.fr (.isl 1 (List.map zt v28)),.fr (.isl 1 (List.map zt v30))]),(80,.fr (.isl 1 (List.map zt v30))),(79,.isl 1 (List.map zt v29.Stack)),(78,.ipt 3 (List.map zx v1.Maps) (Int.toNat v25) 2),(77,.ipt 3 (List.map zx v1.Maps) (Int.toNat v25) 0),(76,iA v25),(75,.isl 3 (List.map zx v1.Maps)),(74,.mpt 0 0 8),(73,.fr (.isl 1 (List.map zt v28))),(72,.isl 1 (List.map zt v27.Locals)),(71,.ipt 3 (List.map zx v1.Maps) (Int.toNat v25) 1),(70,.ipt 3 (List.map zx v1.Maps) (Int.toNat v25) 0),(69,iA v25),(68,.isl 3 (List.map zx v1.Maps)),(67,.mpt 0 0 8),(66,iA v26.At),(65,.ipt 3 (List.map zx v1.Maps) (Int.toNat v25) 0),(64,.ipt 3 (List.map zx v1.Maps) (Int.toNat v25) 0),(63,iA v25),(62,.isl 3 (List.map zx v1.Maps)),(61,.mpt 0 0 8),(60,.msl 4 0 (List.length v24)),(59,.mpt 2 0 8)] 3 (by kernel_rfl) (by kernel_rfl) rfl (by kernel_rfl) (dtS ⟨(fun _=>pa rfl rfl rfl rfl (bd ti rfl rfl rfl<|⟨rfl,rfl⟩)),(fun _=>pa rfl rfl rfl rfl (pc (zcB v29.Stack 20 q28) rfl rfl rfl<|⟨rfl,rfl⟩)),(fun _=>pa rfl rfl rfl rfl (ldI ti rfl (zm q27).2.2 rfl<|⟨rfl,rfl⟩)),(fun _=>pa rfl rfl rfl rfl (fa ti rfl rfl rfl<|⟨rfl,rfl⟩)),(fun _=>pa rfl rfl rfl rfl (ixI ti rfl ti rfl rfl rfl q27<|⟨rfl,rfl⟩)),(fun _=>pa rfl rfl rfl rfl (mv rfl<|⟨rfl,rfl⟩)),(fun _=>pa rfl rfl rfl rfl (ld ti rfl rfl<|⟨rfl,rfl⟩)),(fun _=>pa rfl rfl rfl rfl (fa ti rfl rfl rfl<|⟨rfl,rfl⟩)),(fun _=>pa rfl rfl rfl rfl (pc (zcB v27.Locals 20 q26) rfl rfl rfl<|⟨rfl,rfl⟩)),(fun _=>pa rfl rfl rfl rfl (ldI ti rfl (zm q25).2.2 rfl<|⟨rfl,rfl⟩)),(fun _=>pa rfl rfl rfl rfl (fa ti rfl rfl rfl<|⟨rfl,rfl⟩)),(fun _=>pa rfl rfl rfl rfl (ixI ti rfl ti rfl rfl rfl q25<|⟨rfl,rfl⟩)),(fun _=>pa rfl rfl rfl rfl (mv rfl<|⟨rfl,rfl⟩)),(fun _=>pa rfl rfl rfl rfl (ld ti rfl rfl<|⟨rfl,rfl⟩)),(fun _=>pa rfl rfl rfl rfl (fa ti rfl rfl rfl<|⟨rfl,rfl⟩)),(fun _=>pa rfl rfl rfl rfl (ldI ti rfl (zm q24).2.2 rfl<|⟨rfl,rfl⟩)),(fun _=>pa rfl rfl rfl rfl (fa ti rfl rfl rfl<|⟨rfl,rfl⟩)),(fun _=>pa rfl rfl rfl rfl (ixI ti rfl ti rfl rfl rfl q24<|⟨rfl,rfl⟩)),(fun _=>pa rfl rfl rfl rfl (mv rfl<|⟨rfl,rfl⟩)),(fun _=>pa rfl rfl rfl rfl (ld ti rfl rfl<|⟨rfl,rfl⟩)),(fun _=>pa rfl rfl rfl rfl (fa ti rfl rfl rfl<|⟨rfl,rfl⟩)),(fun _=>pa rfl rfl rfl rfl (ld ti rfl rfl<|⟨rfl,rfl⟩)),(fun _=>pa rfl rfl rfl rfl (fa ti rfl rfl rfl<|⟨rfl,rfl⟩)),trivial⟩ (by kernel_rfl) rfl ⟨(fun _ _=>⟨_,rfl,rfl,bl 5 ti rfl ti rfl (by decide) (by decide) rfl rfl rfl<|⟨(.msl 5 0 1),[],[(82,.msl 5 0 1)],rfl,rfl,by kernel_rfl,rfl,dtS ⟨(fun h=>by cases h),(fun _=>pa rfl rfl rfl rfl (pc (zcB v29.Stack 20 q28) rfl rfl rfl<|⟨rfl,rfl⟩)),(fun _=>pa rfl rfl rfl rfl (ldI ti rfl (zm q27).2.2 rfl<|⟨rfl,rfl⟩)),(fun _=>pa rfl rfl rfl rfl (fa ti rfl rfl rfl<|⟨rfl,rfl⟩)),(fun _=>pa rfl rfl rfl rfl (ixI ti rfl ti rfl rfl rfl q27<|⟨rfl,rfl⟩)),(fun _=>pa rfl rfl rfl rfl (mv rfl<|⟨rfl,rfl⟩)),(fun _=>pa rfl rfl rfl rfl (ld ti rfl rfl<|⟨rfl,rfl⟩)),(fun _=>pa rfl rfl rfl rfl (fa ti rfl rfl rfl<|⟨rfl,rfl⟩)),(fun _=>pa rfl rfl rfl rfl (pc (zcB v27.Locals 20 q26) rfl rfl rfl<|⟨rfl,rfl⟩)),(fun _=>pa rfl rfl rfl rfl (ldI ti rfl (zm q25).2.2 rfl<|⟨rfl,rfl⟩)),(fun _=>pa rfl rfl rfl rfl (fa ti rfl rfl rfl<|⟨rfl,rfl⟩)),(fun _=>pa rfl rfl rfl rfl (ixI ti rfl ti rfl rfl rfl q25<|⟨rfl,rfl⟩)),(fun _=>pa rfl rfl rfl rfl (mv rfl<|⟨rfl,rfl⟩)),(fun _=>pa rfl rfl rfl rfl (ld ti rfl rfl<|⟨rfl,rfl⟩)),(fun _=>pa rfl rfl rfl rfl (fa ti rfl rfl rfl<|⟨rfl,rfl⟩)),(fun _=>pa rfl rfl rfl rfl (ldI ti rfl (zm q24).2.2 rfl<|⟨rfl,rfl⟩)),(fun _=>pa rfl rfl rfl rfl (fa ti rfl rfl rfl<|⟨rfl,rfl⟩)),(fun _=>pa rfl rfl rfl rfl (ixI ti rfl ti rfl rfl rfl q24<|⟨rfl,rfl⟩)),(fun _=>pa rfl rfl rfl rfl (mv rfl<|⟨rfl,rfl⟩)),(fun _=>pa rfl rfl rfl rfl (ld ti rfl rfl<|⟨rfl,rfl⟩)),(fun _=>pa rfl rfl rfl rfl (fa ti rfl rfl rfl<|⟨rfl,rfl⟩)),(fun _=>pa rfl rfl rfl rfl (ld ti rfl rfl<|⟨rfl,rfl⟩)),(fun _=>pa rfl rfl rfl rfl (fa ti rfl rfl rfl<|⟨rfl,rfl⟩)),trivial⟩ (by kernel_rfl) rfl ⟨(fun h=>by cases h),(fun _ _=>⟨_,rfl,rfl,apM 6 ti rfl ti rfl rfl (by decide) ti rfl rfl rfl rfl (roX (f:=zjK) (z:=[(zU.mk v26.At v28 v30)]) rfl rfl) (fun _=>rfl) rfl q29<|⟨(.msl 6 0 (List.length v31)),[25],[(84,.mpt 2 0 8),(83,.msl 6 0 (List.length v31))],rfl,rfl,by kernel_rfl,rfl,dtS ⟨(fun _=>pa rfl rfl rfl rfl (fa ti rfl rfl rfl<|⟨rfl,rfl⟩)),(fun h=>by cases h),(fun h=>by cases h),(fun _=>pa rfl rfl rfl rfl (ldI ti rfl (zm q27).2.2 rfl<|⟨rfl,rfl⟩)),(fun _=>pa rfl rfl rfl rfl (fa ti rfl rfl rfl<|⟨rfl,rfl⟩)),(fun _=>pa rfl rfl rfl rfl (ixI ti rfl ti rfl rfl rfl q27<|⟨rfl,rfl⟩)),(fun _=>pa rfl rfl rfl rfl (mv rfl<|⟨rfl,rfl⟩)),(fun _=>pa rfl rfl rfl rfl (ld ti rfl rfl<|⟨rfl,rfl⟩)),(fun _=>pa rfl rfl rfl rfl (fa ti rfl rfl rfl<|⟨rfl,rfl⟩)),(fun _=>pa rfl rfl rfl rfl (pc (zcB v27.Locals 20 q26) rfl rfl rfl<|⟨rfl,rfl⟩)),(fun _=>pa rfl rfl rfl rfl (ldI ti rfl (zm q25).2.2 rfl<|⟨rfl,rfl⟩)),(fun _=>pa rfl rfl rfl rfl (fa ti rfl rfl rfl<|⟨rfl,rfl⟩)),(fun _=>pa rfl rfl rfl rfl (ixI ti rfl ti rfl rfl rfl q25<|⟨rfl,rfl⟩)),(fun _=>pa rfl rfl rfl rfl (mv rfl<|⟨rfl,rfl⟩)),(fun _=>pa rfl rfl rfl rfl (ld ti rfl rfl<|⟨rfl,rfl⟩)),(fun _=>pa rfl rfl rfl rfl (fa ti rfl rfl rfl<|⟨rfl,rfl⟩)),(fun _=>pa rfl rfl rfl rfl (ldI ti rfl (zm q24).2.2 rfl<|⟨rfl,rfl⟩)),(fun _=>pa rfl rfl rfl rfl (fa ti rfl rfl rfl<|⟨rfl,rfl⟩)),(fun _=>pa rfl rfl rfl rfl (ixI ti rfl ti rfl rfl rfl q24<|⟨rfl,rfl⟩)),(fun _=>pa rfl rfl rfl rfl (mv rfl<|⟨rfl,rfl⟩)),(fun _=>pa rfl rfl rfl rfl (ld ti rfl rfl<|⟨rfl,rfl⟩)),(fun _=>pa rfl rfl rfl rfl (fa ti rfl rfl rfl<|⟨rfl,rfl⟩)),(fun h=>by cases h),(fun _=>pa rfl rfl rfl rfl (fa ti rfl rfl rfl<|⟨rfl,rfl⟩)),trivial⟩ (by kernel_rfl) rfl ⟨(fun h=>by cases h),(fun h=>by cases h),(fun _ _=>⟨_,rfl,rfl,sto ti rfl rfl rfl<|⟨.any,[],[],rfl,rfl,by kernel_rfl,trivial,dt0 ⟨(fun h=>by cases h),(fun h=>by cases h),(fun h=>by cases h),(fun h=>by cases h),(fun h=>by cases h),(fun h=>by cases h),(fun h=>by cases h),(fun h=>by cases h),(fun h=>by cases h),(fun h=>by cases h),(fun h=>by cases h),(fun h=>by cases h),(fun h=>by cases h),(fun h=>by cases h),(fun h=>by cases h),(fun h=>by cases h),(fun h=>by cases h),(fun h=>by cases h),(fun h=>by cases h),(fun h=>by cases h),(fun h=>by cases h),(fun h=>by cases h),(fun h=>by cases h),(fun h=>by cases h),trivial⟩ (by kernel_rfl) rfl ⟨[.old 0,.old 1,.old 2,.old 3,.old 6],cv rfl (.mpt rfl)<|cv rfl (.mpt rfl)<|cv rfl (.mpt rfl)<|ce rfl rfl<|cn,rfl,⟨⟨_,rfl,zaz (ciL rfl)⟩,⟨_,rfl,zaz (ciL rfl)⟩,⟨_,rfl,zaz ⟨ci rfl,ci rfl,ci rfl,ci rfl,ci rfl,ci rfl,ci rfl,.msl rfl,.msl rfl,ci rfl,trivial⟩⟩,⟨_,rfl,zbs (fun _=>rfl)⟩,⟨_,rfl,zbs (fun _=>rfl)⟩,trivial⟩,rfl,Nat.le_of_ble_eq_true rfl⟩⟩⟩),trivial⟩⟩⟩),(fun _ h=>by cases h),trivial⟩⟩⟩),(fun _ h=>by cases h),(fun _ h=>by cases h),trivial⟩) ?_
    refine rl rfl<|u<|mv rfl<|u<|add ti rfl rfl<|u<|asg rfl<|zn ?_
    obtain rfl:=sm h
    exact ⟨_,rfl,[.old 0,.old 1,.old 2,.old 3,.old 4],cv rfl (.mpt rfl)<|cv rfl (.mpt rfl)<|cv rfl (.mpt rfl)<|ce rfl rfl<|cn,rfl,⟨⟨_,rfl,zaz (ciL rfl)⟩,⟨_,rfl,zaz (ciL rfl)⟩,⟨_,rfl,zaz ⟨ci rfl,ci rfl,ci rfl,ci rfl,ci rfl,ci rfl,ci rfl,.msl rfl,.msl rfl,ci rfl,trivial⟩⟩,⟨_,rfl,zbs (fun _=>rfl)⟩,⟨_,rfl,zbs (fun _=>rfl)⟩,trivial⟩,rfl,Nat.le_of_ble_eq_true rfl⟩
   ·
    replace h:=bF hc23 h
    refine zy ?_
    obtain rfl:=sm h
    exact ⟨rfl,_,rfl,[.old 0,.old 1,.old 2,.old 3,.old 4],cv rfl (.mpt rfl)<|cv rfl (.mpt rfl)<|cv rfl (.mpt rfl)<|cn,rfl,⟨⟨_,rfl,zaz (ciL rfl)⟩,⟨_,rfl,zaz (ciL rfl)⟩,⟨_,rfl,zaz ⟨ci rfl,ci rfl,ci rfl,ci rfl,ci rfl,ci rfl,ci rfl,.msl rfl,.msl rfl,ci rfl,trivial⟩⟩,⟨_,rfl,zbs (fun _=>rfl)⟩,⟨_,rfl,zbs (fun _=>rfl)⟩,trivial⟩,rfl,Nat.le_of_ble_eq_true rfl⟩
  ·
   rintro v32 rfl
   replace h:zfT v1 v2 v3 v4 v15 v32=some r:=h
   unfold zfT at h
   refine zu ?_
   refine zf ?_
   refine rg rfl<|u<|asg rfl<|zn ?_
   obtain ⟨o,ho,h⟩:=bs h
   refine zmO (X:=(List zan)×Int) (B:=(List zan)) (R:=zb) (fun z=>[(1,.mpt 0 0 0),(2,.mpt 1 0 0),(3,.mpt 2 0 0),(6,iA z.2)]) (fun z=>[some (10,[(zd v1)]),some (10,[[sA [],.lit (.slice none 0 0),sA [],bA false,bA false,iA 0,iA 0,.lit (.slice none 0 0),.lit (.slice none 0 0),.lit (.slice none 0 0)]]),some (10,[[sA v2,.fr (.isl 1 (List.map zt v3)),sA v4,bA v1.Static,bA v1.Abstract,iA v1.Locals,iA v1.Stack,.msl 3 0 (List.length v15),.msl 4 0 (List.length v32),.msl 5 0 (List.length z.1)]]),some (4,List.map zi v15),some (3,List.map zjK v32),some (4,List.map zap z.1)]) (fun b=>[(2,.mpt 0 0 0),(3,.mpt 1 0 0)]) (fun b=>[some (10,[[sA [],.lit (.slice none 0 0),sA [],bA false,bA false,iA 0,iA 0,.lit (.slice none 0 0),.lit (.slice none 0 0),.lit (.slice none 0 0)]]),some (10,[[sA v2,.fr (.isl 1 (List.map zt v3)),sA v4,bA v1.Static,bA v1.Abstract,iA v1.Locals,iA v1.Stack,.msl 2 0 (List.length v15),.msl 3 0 (List.length v32),.msl 4 0 (List.length b)]]),some (4,List.map zi v15),some (3,List.map zjK v32),some (4,List.map zap b)]) (fun r env st=>zj8 Tryz.prog Tryz.f71 0 (.agg (zbV r)) [] env st) ho ⟨[.old 0,.old 1,.old 2,.old 3,.old 4,.fresh 4],cv rfl (.mpt rfl)<|cv rfl (.mpt rfl)<|cv rfl (.mpt rfl)<|ce rfl rfl<|cn,rfl,⟨⟨_,rfl,zaz (ciL rfl)⟩,⟨_,rfl,zaz (ciL rfl)⟩,⟨_,rfl,zaz ⟨ci rfl,ci rfl,ci rfl,ci rfl,ci rfl,ci rfl,ci rfl,.msl rfl,.msl rfl,.nilown rfl,trivial⟩⟩,⟨_,rfl,zbs (fun _=>rfl)⟩,⟨_,rfl,zbs (fun _=>rfl)⟩,⟨rfl,rfl⟩,trivial⟩,rfl,Nat.le_of_ble_eq_true rfl⟩ ?_ ?_ ?_
   ·
    rintro ⟨v38,v39⟩ r h
    replace h:zdo v1 v38 v39=some r:=h
    unfold zdo at h
    refine zf ?_
    refine rg rfl<|u<|mv rfl<|u<|fa ti rfl rfl rfl<|u<|ld ti rfl rfl<|u<|lnI ti rfl rfl<|u<|lss ti rfl rfl<|u<|mv rfl<|zhw (j:=5) 2 rfl rfl rfl rfl rfl gpn (fun hb35=>g rfl hb35<|mv rfl<|g rfl hb35<|lss ti rfl rfl<|zn (egA [91,92] 2 hb35 rfl rfl rfl rfl)) zx9<|zn ?_
    refine zg3 rfl (fun hc36=>?_) (fun hc36=>?_)
    ·
     replace h:=bT hc36 h
     refine ze ?_
     refine zf ?_
     refine zj ?_
     obtain ⟨v40,q37,h⟩:=bs h
     refine rg rfl<|u<|fa ti rfl rfl rfl<|u<|ld ti rfl rfl<|u<|mv rfl<|u<|ixI ti rfl ti rfl rfl rfl q37<|u<|ldI ti rfl (zm q37).2.2 rfl<|u<|al 6 ti rfl<|u<|sto ti rfl rfl rfl<|zn ?_
     obtain ⟨v41,q38,h⟩:=bs h
     refine rg rfl<|u<|fa ti rfl rfl rfl<|u<|ld ti rfl rfl<|u<|pc (zbr v40.C 10 q38) rfl rfl rfl<|u<|fa ti rfl rfl rfl<|u<|sto ti rfl rfl rfl<|zn ?_
     obtain ⟨v42,q39,h⟩:=bs h
     refine rl rfl<|u<|fa ti rfl rfl rfl<|u<|ld ti rfl rfl<|u<|ld ti rfl rfl<|u<|bl 7 ti rfl ti rfl (by decide) (by decide) rfl rfl rfl<|u<|apM 8 ti rfl ti rfl rfl (by decide) ti rfl rfl rfl rfl (roX (f:=zap) (z:=[(zan.mk v40.From v40.To v40.At v41)]) rfl rfl) (fun _=>rfl) rfl q39<|u<|fa ti rfl rfl rfl<|u<|sto ti rfl rfl rfl<|zn ?_
     refine rl rfl<|u<|mv rfl<|u<|add ti rfl rfl<|u<|asg rfl<|zn ?_
     obtain rfl:=sm h
     exact ⟨_,rfl,[.old 0,.old 1,.old 2,.old 3,.old 4,.old 8],cv rfl (.mpt rfl)<|cv rfl (.mpt rfl)<|cv rfl (.mpt rfl)<|ce rfl rfl<|cn,rfl,⟨⟨_,rfl,zaz (ciL rfl)⟩,⟨_,rfl,zaz (ciL rfl)⟩,⟨_,rfl,zaz ⟨ci rfl,ci rfl,ci rfl,ci rfl,ci rfl,ci rfl,ci rfl,.msl rfl,.msl rfl,.msl rfl,trivial⟩⟩,⟨_,rfl,zbs (fun _=>rfl)⟩,⟨_,rfl,zbs (fun _=>rfl)⟩,⟨_,rfl,zbs (fun _=>rfl)⟩,trivial⟩,rfl,Nat.le_of_ble_eq_true rfl⟩
    ·
     replace h:=bF hc36 h
     refine zy ?_
     obtain rfl:=sm h
     exact ⟨rfl,_,rfl,[.old 1,.old 2,.old 3,.old 4,.old 5],cv rfl (.mpt rfl)<|cv rfl (.mpt rfl)<|cn,rfl,⟨⟨_,rfl,zaz (ciL rfl)⟩,⟨_,rfl,zaz ⟨ci rfl,ci rfl,ci rfl,ci rfl,ci rfl,ci rfl,ci rfl,.msl rfl,.msl rfl,.msl rfl,trivial⟩⟩,⟨_,rfl,zbs (fun _=>rfl)⟩,⟨_,rfl,zbs (fun _=>rfl)⟩,⟨_,rfl,zbs (fun _=>rfl)⟩,trivial⟩,rfl,Nat.le_of_ble_eq_true rfl⟩
   ·
    rintro v43 rfl
    replace h:ziJ v1 v2 v3 v4 v15 v32 v43=some r:=h
    unfold ziJ at h
    refine zu ?_
    refine rg rfl<|u<|ld ti rfl rfl<|u<|sto ti rfl rfl rfl<|zn ?_
    refine zD ?_
    obtain rfl:=sm h
    exact ⟨_,rfl,[],znT ⟨ci rfl,ci rfl,ci rfl,ci rfl,ci rfl,ci rfl,ci rfl,(zAS zDG rfl rfl),(zAS zDH rfl rfl),(zAS zCW rfl rfl),trivial⟩,rfl,trivial,rfl,Nat.le_of_ble_eq_true rfl⟩
   ·
    rintro r' rfl env st hp
    obtain rfl:=sm h
    exact hp
  ·
   rintro r' rfl env st hp
   obtain rfl:=sm h
   exact hp
 ·
  rintro r' rfl env st hp
  obtain rfl:=sm h
  exact hp
theorem zrz(v1:za){r:(List UInt8)×(List UInt8)×(List (List UInt8))×(List zq)×(List zb)}(h:zlc v1=some r):SC Tryz.prog 16 [.agg (zc v1)] [] (.agg [sA r.1,sA r.2.1,bA v1.Interface,.fr (.isl 1 (List.map zt r.2.2.1)),.msl 0 0 (List.length r.2.2.2.1),.msl 1 0 (List.length r.2.2.2.2)]) [.many 3 (List.map zA r.2.2.2.1),.many 10 (List.map zbV r.2.2.2.2)]:=by
 refine ⟨⟨zgu (sz:=3) (fun _=>rfl),zgu (sz:=10) (fun _=>rfl),trivial⟩,zP Tryz.func16 rfl (by kernel_rfl) rfl ?_⟩
 unfold zlc at h
 refine rg rfl<|u<|bx 0 6 rfl rfl rfl rfl<|u<|al 1 ti rfl<|zn ?_
 obtain ⟨v2,q1,h⟩:=bs h
 obtain ⟨v3,q2,h⟩:=bs h
 obtain ⟨v4,q3,h⟩:=bs h
 refine rd [(1,.mpt 0 0 0),(2,.mpt 1 0 0),(3,.mpt 2 0 0)] [some (6,[(zc v1)]),some (6,[[sA [],sA [],bA false,.lit (.slice none 0 0),.lit (.slice none 0 0),.lit (.slice none 0 0)]]),some (6,[[sA v2,sA v3,bA v1.Interface,.fr (.isl 1 (List.map zt v4)),.lit (.slice none 0 0),.lit (.slice none 0 0)]])] [12,13] [11,10,9,8,7,6,5,4,3,2,1,0] [(18,.agg [sA v2,sA v3,bA v1.Interface,.fr (.isl 1 (List.map zt v4)),.lit (.slice none 0 0),.lit (.slice none 0 0)]),(17,.fr (.isl 1 (List.map zt v4))),(16,.isl 1 (List.map zt v1.Impl)),(15,.mpt 0 0 3),(14,bA v1.Interface),(13,.mpt 0 0 2),(12,sA v3),(11,sA v1.Super),(10,.mpt 0 0 1),(9,sA v2),(8,sA v1.Name),(7,.mpt 0 0 0)] 2 (by kernel_rfl) (by kernel_rfl) rfl (by kernel_rfl) (dtS ⟨(fun _=>pa rfl rfl rfl rfl (bd ti rfl rfl rfl<|⟨rfl,rfl⟩)),(fun _=>pa rfl rfl rfl rfl (pc (zcB v1.Impl 6 q3) rfl rfl rfl<|⟨rfl,rfl⟩)),(fun _=>pa rfl rfl rfl rfl (ld ti rfl rfl<|⟨rfl,rfl⟩)),(fun _=>pa rfl rfl rfl rfl (fa ti rfl rfl rfl<|⟨rfl,rfl⟩)),(fun _=>pa rfl rfl rfl rfl (ld ti rfl rfl<|⟨rfl,rfl⟩)),(fun _=>pa rfl rfl rfl rfl (fa ti rfl rfl rfl<|⟨rfl,rfl⟩)),(fun _=>pa rfl rfl rfl rfl (pc (zbr v1.Super 10 q2) rfl rfl rfl<|⟨rfl,rfl⟩)),(fun _=>pa rfl rfl rfl rfl (ld ti rfl rfl<|⟨rfl,rfl⟩)),(fun _=>pa rfl rfl rfl rfl (fa ti rfl rfl rfl<|⟨rfl,rfl⟩)),(fun _=>pa rfl rfl rfl rfl (pc (zbr v1.Name 10 q1) rfl rfl rfl<|⟨rfl,rfl⟩)),(fun _=>pa rfl rfl rfl rfl (ld ti rfl rfl<|⟨rfl,rfl⟩)),(fun _=>pa rfl rfl rfl rfl (fa ti rfl rfl rfl<|⟨rfl,rfl⟩)),trivial⟩ (by kernel_rfl) rfl ⟨(fun _ _=>⟨_,rfl,rfl,al 2 ti rfl<|⟨(.mpt 2 0 0),[],[(3,.mpt 2 0 0)],rfl,rfl,by kernel_rfl,rfl,dtS ⟨(fun _=>pa rfl rfl rfl rfl (bd ti rfl rfl rfl<|⟨rfl,rfl⟩)),(fun _=>pa rfl rfl rfl rfl (pc (zcB v1.Impl 6 q3) rfl rfl rfl<|⟨rfl,rfl⟩)),(fun _=>pa rfl rfl rfl rfl (ld ti rfl rfl<|⟨rfl,rfl⟩)),(fun _=>pa rfl rfl rfl rfl (fa ti rfl rfl rfl<|⟨rfl,rfl⟩)),(fun _=>pa rfl rfl rfl rfl (ld ti rfl rfl<|⟨rfl,rfl⟩)),(fun _=>pa rfl rfl rfl rfl (fa ti rfl rfl rfl<|⟨rfl,rfl⟩)),(fun _=>pa rfl rfl rfl rfl (pc (zbr v1.Super 10 q2) rfl rfl rfl<|⟨rfl,rfl⟩)),(fun _=>pa rfl rfl rfl rfl (ld ti rfl rfl<|⟨rfl,rfl⟩)),(fun _=>pa rfl rfl rfl rfl (fa ti rfl rfl rfl<|⟨rfl,rfl⟩)),(fun _=>pa rfl rfl rfl rfl (pc (zbr v1.Name 10 q1) rfl rfl rfl<|⟨rfl,rfl⟩)),(fun _=>pa rfl rfl rfl rfl (ld ti rfl rfl<|⟨rfl,rfl⟩)),(fun _=>pa rfl rfl rfl rfl (fa ti rfl rfl rfl<|⟨rfl,rfl⟩)),trivial⟩ (by kernel_rfl) rfl ⟨(fun h=>by cases h),(fun _ _=>⟨_,rfl,rfl,sto ti rfl rfl rfl<|⟨.any,[],[],rfl,rfl,by kernel_rfl,trivial,dt0 ⟨(fun h=>by cases h),(fun h=>by cases h),(fun h=>by cases h),(fun h=>by cases h),(fun h=>by cases h),(fun h=>by cases h),(fun h=>by cases h),(fun h=>by cases h),(fun h=>by cases h),(fun h=>by cases h),(fun h=>by cases h),(fun h=>by cases h),trivial⟩ (by kernel_rfl) rfl ⟨[.old 0,.old 1,.old 2],cv rfl (.mpt rfl)<|cv rfl (.mpt rfl)<|cv rfl (.mpt rfl)<|cn,rfl,⟨⟨_,rfl,zaz (ciL rfl)⟩,⟨_,rfl,zaz (ciL rfl)⟩,⟨_,rfl,zaz (ciL rfl)⟩,trivial⟩,rfl,Nat.le_of_ble_eq_true rfl⟩⟩⟩),trivial⟩⟩⟩),(fun _ h=>by cases h),trivial⟩) ?_
 refine zf ?_
 refine rg rfl<|u<|asg rfl<|zn ?_
 obtain ⟨o,ho,h⟩:=bs h
 refine zmO (X:=(List zq)×Int) (B:=(List zq)) (R:=(List UInt8)×(List UInt8)×(List (List UInt8))×(List zq)×(List zb)) (fun z=>[(1,.mpt 0 0 0),(2,.mpt 1 0 0),(3,.mpt 2 0 0),(4,iA z.2)]) (fun z=>[some (6,[(zc v1)]),some (6,[[sA [],sA [],bA false,.lit (.slice none 0 0),.lit (.slice none 0 0),.lit (.slice none 0 0)]]),some (6,[[sA v2,sA v3,bA v1.Interface,.fr (.isl 1 (List.map zt v4)),.msl 3 0 (List.length z.1),.lit (.slice none 0 0)]]),some (3,List.map zA z.1)]) (fun b=>[(1,.mpt 0 0 0),(2,.mpt 1 0 0),(3,.mpt 2 0 0)]) (fun b=>[some (6,[(zc v1)]),some (6,[[sA [],sA [],bA false,.lit (.slice none 0 0),.lit (.slice none 0 0),.lit (.slice none 0 0)]]),some (6,[[sA v2,sA v3,bA v1.Interface,.fr (.isl 1 (List.map zt v4)),.msl 3 0 (List.length b),.lit (.slice none 0 0)]]),some (3,List.map zA b)]) (fun r env st=>zj8 Tryz.prog Tryz.f16 0 (.agg [sA r.1,sA r.2.1,bA v1.Interface,.fr (.isl 1 (List.map zt r.2.2.1)),.msl 0 0 (List.length r.2.2.2.1),.msl 1 0 (List.length r.2.2.2.2)]) [some (3,List.map zA r.2.2.2.1),some (10,List.map zbV r.2.2.2.2)] env st) ho ⟨[.old 0,.old 1,.old 2,.fresh 3],cv rfl (.mpt rfl)<|cv rfl (.mpt rfl)<|cv rfl (.mpt rfl)<|ce rfl rfl<|cn,rfl,⟨⟨_,rfl,zaz (ciL rfl)⟩,⟨_,rfl,zaz (ciL rfl)⟩,⟨_,rfl,zaz ⟨ci rfl,ci rfl,ci rfl,ci rfl,.nilown rfl,ci rfl,trivial⟩⟩,⟨rfl,rfl⟩,trivial⟩,rfl,Nat.le_of_ble_eq_true rfl⟩ ?_ ?_ ?_
 ·
  rintro ⟨v11,v12⟩ r h
  replace h:zfl v1 v11 v12=some r:=h
  unfold zfl at h
  refine zf ?_
  refine rg rfl<|u<|mv rfl<|u<|fa ti rfl rfl rfl<|u<|ld ti rfl rfl<|u<|lnI ti rfl rfl<|u<|lss ti rfl rfl<|u<|mv rfl<|zhw (j:=5) 2 rfl rfl rfl rfl rfl gpn (fun hb10=>g rfl hb10<|mv rfl<|g rfl hb10<|lss ti rfl rfl<|zn (egA [25,26] 2 hb10 rfl rfl rfl rfl)) zx9<|zn ?_
  refine zg3 rfl (fun hc11=>?_) (fun hc11=>?_)
  ·
   replace h:=bT hc11 h
   refine ze ?_
   refine zf ?_
   refine zj ?_
   obtain ⟨v13,q12,h⟩:=bs h
   refine rg rfl<|u<|fa ti rfl rfl rfl<|u<|ld ti rfl rfl<|u<|mv rfl<|u<|ixI ti rfl ti rfl rfl rfl q12<|u<|ldI ti rfl (zm q12).2.2 rfl<|u<|al 4 ti rfl<|u<|sto ti rfl rfl rfl<|zn ?_
   obtain ⟨v14,q13,h⟩:=bs h
   obtain ⟨v15,q14,h⟩:=bs h
   obtain ⟨v16,q15,h⟩:=bs h
   refine rdL [(1,.mpt 0 0 0),(2,.mpt 1 0 0),(3,.mpt 2 0 0),(4,iA v12)] [some (6,[(zc v1)]),some (6,[[sA [],sA [],bA false,.lit (.slice none 0 0),.lit (.slice none 0 0),.lit (.slice none 0 0)]]),some (6,[[sA v2,sA v3,bA v1.Interface,.fr (.isl 1 (List.map zt v4)),.msl 3 0 (List.length v16),.lit (.slice none 0 0)]]),some (3,List.map zA v16)] [11,12,14] [10,9,8,7,6,5,4,3,2,1,0] [(45,.agg [sA v14,sA v15,bA v13.Static]),(44,bA v13.Static),(43,.mpt 4 0 2),(42,sA v15),(41,sA v13.Type_),(40,.mpt 4 0 1),(39,sA v14),(38,sA v13.Name),(37,.mpt 4 0 0),(36,.msl 3 0 (List.length v11)),(35,.mpt 2 0 4)] 3 (by kernel_rfl) (by kernel_rfl) rfl (by kernel_rfl) (dtS ⟨(fun _=>pa rfl rfl rfl rfl (bd ti rfl rfl rfl<|⟨rfl,rfl⟩)),(fun _=>pa rfl rfl rfl rfl (ld ti rfl rfl<|⟨rfl,rfl⟩)),(fun _=>pa rfl rfl rfl rfl (fa ti rfl rfl rfl<|⟨rfl,rfl⟩)),(fun _=>pa rfl rfl rfl rfl (pc (zbr v13.Type_ 12 q14) rfl rfl rfl<|⟨rfl,rfl⟩)),(fun _=>pa rfl rfl rfl rfl (ld ti rfl rfl<|⟨rfl,rfl⟩)),(fun _=>pa rfl rfl rfl rfl (fa ti rfl rfl rfl<|⟨rfl,rfl⟩)),(fun _=>pa rfl rfl rfl rfl (pc (zbr v13.Name 10 q13) rfl rfl rfl<|⟨rfl,rfl⟩)),(fun _=>pa rfl rfl rfl rfl (ld ti rfl rfl<|⟨rfl,rfl⟩)),(fun _=>pa rfl rfl rfl rfl (fa ti rfl rfl rfl<|⟨rfl,rfl⟩)),(fun _=>pa rfl rfl rfl rfl (ld ti rfl rfl<|⟨rfl,rfl⟩)),(fun _=>pa rfl rfl rfl rfl (fa ti rfl rfl rfl<|⟨rfl,rfl⟩)),trivial⟩ (by kernel_rfl) rfl ⟨(fun _ _=>⟨_,rfl,rfl,bl 5 ti rfl ti rfl (by decide) (by decide) rfl rfl rfl<|⟨(.msl 5 0 1),[],[(46,.msl 5 0 1)],rfl,rfl,by kernel_rfl,rfl,dtS ⟨(fun h=>by cases h),(fun _=>pa rfl rfl rfl rfl (ld ti rfl rfl<|⟨rfl,rfl⟩)),(fun _=>pa rfl rfl rfl rfl (fa ti rfl rfl rfl<|⟨rfl,rfl⟩)),(fun _=>pa rfl rfl rfl rfl (pc (zbr v13.Type_ 12 q14) rfl rfl rfl<|⟨rfl,rfl⟩)),(fun _=>pa rfl rfl rfl rfl (ld ti rfl rfl<|⟨rfl,rfl⟩)),(fun _=>pa rfl rfl rfl rfl (fa ti rfl rfl rfl<|⟨rfl,rfl⟩)),(fun _=>pa rfl rfl rfl rfl (pc (zbr v13.Name 10 q13) rfl rfl rfl<|⟨rfl,rfl⟩)),(fun _=>pa rfl rfl rfl rfl (ld ti rfl rfl<|⟨rfl,rfl⟩)),(fun _=>pa rfl rfl rfl rfl (fa ti rfl rfl rfl<|⟨rfl,rfl⟩)),(fun _=>pa rfl rfl rfl rfl (ld ti rfl rfl<|⟨rfl,rfl⟩)),(fun _=>pa rfl rfl rfl rfl (fa ti rfl rfl rfl<|⟨rfl,rfl⟩)),trivial⟩ (by kernel_rfl) rfl ⟨(fun h=>by cases h),(fun _ _=>⟨_,rfl,rfl,apM 6 ti rfl ti rfl rfl (by decide) ti rfl rfl rfl rfl (roX (f:=zA) (z:=[(zq.mk v14 v15 v13.Static)]) rfl rfl) (fun _=>rfl) rfl q15<|⟨(.msl 6 0 (List.length v16)),[13],[(48,.mpt 2 0 4),(47,.msl 6 0 (List.length v16))],rfl,rfl,by kernel_rfl,rfl,dtS ⟨(fun _=>pa rfl rfl rfl rfl (fa ti rfl rfl rfl<|⟨rfl,rfl⟩)),(fun h=>by cases h),(fun _=>pa rfl rfl rfl rfl (ld ti rfl rfl<|⟨rfl,rfl⟩)),(fun _=>pa rfl rfl rfl rfl (fa ti rfl rfl rfl<|⟨rfl,rfl⟩)),(fun h=>by cases h),(fun _=>pa rfl rfl rfl rfl (ld ti rfl rfl<|⟨rfl,rfl⟩)),(fun _=>pa rfl rfl rfl rfl (fa ti rfl rfl rfl<|⟨rfl,rfl⟩)),(fun _=>pa rfl rfl rfl rfl (pc (zbr v13.Name 10 q13) rfl rfl rfl<|⟨rfl,rfl⟩)),(fun _=>pa rfl rfl rfl rfl (ld ti rfl rfl<|⟨rfl,rfl⟩)),(fun _=>pa rfl rfl rfl rfl (fa ti rfl rfl rfl<|⟨rfl,rfl⟩)),(fun h=>by cases h),(fun _=>pa rfl rfl rfl rfl (fa ti rfl rfl rfl<|⟨rfl,rfl⟩)),trivial⟩ (by kernel_rfl) rfl ⟨(fun h=>by cases h),(fun h=>by cases h),(fun _ _=>⟨_,rfl,rfl,sto ti rfl rfl rfl<|⟨.any,[],[],rfl,rfl,by kernel_rfl,trivial,dt0 ⟨(fun h=>by cases h),(fun h=>by cases h),(fun h=>by cases h),(fun h=>by cases h),(fun h=>by cases h),(fun h=>by cases h),(fun h=>by cases h),(fun h=>by cases h),(fun h=>by cases h),(fun h=>by cases h),(fun h=>by cases h),(fun h=>by cases h),trivial⟩ (by kernel_rfl) rfl ⟨[.old 0,.old 1,.old 2,.old 6],cv rfl (.mpt rfl)<|cv rfl (.mpt rfl)<|cv rfl (.mpt rfl)<|ce rfl rfl<|cn,rfl,⟨⟨_,rfl,zaz (ciL rfl)⟩,⟨_,rfl,zaz (ciL rfl)⟩,⟨_,rfl,zaz ⟨ci rfl,ci rfl,ci rfl,ci rfl,.msl rfl,ci rfl,trivial⟩⟩,⟨_,rfl,zbs (fun _=>rfl)⟩,trivial⟩,rfl,Nat.le_of_ble_eq_true rfl⟩⟩⟩),trivial⟩⟩⟩),(fun _ h=>by cases h),trivial⟩⟩⟩),(fun _ h=>by cases h),(fun _ h=>by cases h),trivial⟩) ?_
   refine rl rfl<|u<|mv rfl<|u<|add ti rfl rfl<|u<|asg rfl<|zn ?_
   obtain rfl:=sm h
   exact ⟨_,rfl,[.old 0,.old 1,.old 2,.old 3],cv rfl (.mpt rfl)<|cv rfl (.mpt rfl)<|cv rfl (.mpt rfl)<|ce rfl rfl<|cn,rfl,⟨⟨_,rfl,zaz (ciL rfl)⟩,⟨_,rfl,zaz (ciL rfl)⟩,⟨_,rfl,zaz ⟨ci rfl,ci rfl,ci rfl,ci rfl,.msl rfl,ci rfl,trivial⟩⟩,⟨_,rfl,zbs (fun _=>rfl)⟩,trivial⟩,rfl,Nat.le_of_ble_eq_true rfl⟩
  ·
   replace h:=bF hc11 h
   refine zy ?_
   obtain rfl:=sm h
   exact ⟨rfl,_,rfl,[.old 0,.old 1,.old 2,.old 3],cv rfl (.mpt rfl)<|cv rfl (.mpt rfl)<|cv rfl (.mpt rfl)<|cn,rfl,⟨⟨_,rfl,zaz (ciL rfl)⟩,⟨_,rfl,zaz (ciL rfl)⟩,⟨_,rfl,zaz ⟨ci rfl,ci rfl,ci rfl,ci rfl,.msl rfl,ci rfl,trivial⟩⟩,⟨_,rfl,zbs (fun _=>rfl)⟩,trivial⟩,rfl,Nat.le_of_ble_eq_true rfl⟩
 ·
  rintro v17 rfl
  replace h:zh4 v1 v2 v3 v4 v17=some r:=h
  unfold zh4 at h
  refine zu ?_
  refine zf ?_
  refine rg rfl<|u<|asg rfl<|zn ?_
  obtain ⟨o,ho,h⟩:=bs h
  refine zmO (X:=(List zb)×Int) (B:=(List zb)) (R:=(List UInt8)×(List UInt8)×(List (List UInt8))×(List zq)×(List zb)) (fun z=>[(1,.mpt 0 0 0),(2,.mpt 1 0 0),(3,.mpt 2 0 0),(6,iA z.2)]) (fun z=>[some (6,[(zc v1)]),some (6,[[sA [],sA [],bA false,.lit (.slice none 0 0),.lit (.slice none 0 0),.lit (.slice none 0 0)]]),some (6,[[sA v2,sA v3,bA v1.Interface,.fr (.isl 1 (List.map zt v4)),.msl 3 0 (List.length v17),.msl 4 0 (List.length z.1)]]),some (3,List.map zA v17),some (10,List.map zbV z.1)]) (fun b=>[(2,.mpt 0 0 0),(3,.mpt 1 0 0)]) (fun b=>[some (6,[[sA [],sA [],bA false,.lit (.slice none 0 0),.lit (.slice none 0 0),.lit (.slice none 0 0)]]),some (6,[[sA v2,sA v3,bA v1.Interface,.fr (.isl 1 (List.map zt v4)),.msl 2 0 (List.length v17),.msl 3 0 (List.length b)]]),some (3,List.map zA v17),some (10,List.map zbV b)]) (fun r env st=>zj8 Tryz.prog Tryz.f16 0 (.agg [sA r.1,sA r.2.1,bA v1.Interface,.fr (.isl 1 (List.map zt r.2.2.1)),.msl 0 0 (List.length r.2.2.2.1),.msl 1 0 (List.length r.2.2.2.2)]) [some (3,List.map zA r.2.2.2.1),some (10,List.map zbV r.2.2.2.2)] env st) ho ⟨[.old 0,.old 1,.old 2,.old 3,.fresh 10],cv rfl (.mpt rfl)<|cv rfl (.mpt rfl)<|cv rfl (.mpt rfl)<|ce rfl rfl<|cn,rfl,⟨⟨_,rfl,zaz (ciL rfl)⟩,⟨_,rfl,zaz (ciL rfl)⟩,⟨_,rfl,zaz ⟨ci rfl,ci rfl,ci rfl,ci rfl,.msl rfl,.nilown rfl,trivial⟩⟩,⟨_,rfl,zbs (fun _=>rfl)⟩,⟨rfl,rfl⟩,trivial⟩,rfl,Nat.le_of_ble_eq_true rfl⟩ ?_ ?_ ?_
  ·
   rintro ⟨v23,v24⟩ r h
   replace h:zfm v1 v23 v24=some r:=h
   unfold zfm at h
   refine zf ?_
   refine rg rfl<|u<|mv rfl<|u<|fa ti rfl rfl rfl<|u<|ld ti rfl rfl<|u<|lnI ti rfl rfl<|u<|lss ti rfl rfl<|u<|mv rfl<|zhw (j:=5) 2 rfl rfl rfl rfl rfl gpn (fun hb21=>g rfl hb21<|mv rfl<|g rfl hb21<|lss ti rfl rfl<|zn (egA [55,56] 2 hb21 rfl rfl rfl rfl)) zx9<|zn ?_
   refine zg3 rfl (fun hc22=>?_) (fun hc22=>?_)
   ·
    replace h:=bT hc22 h
    refine ze ?_
    refine zf ?_
    refine zj ?_
    obtain ⟨v25,q23,h⟩:=bs h
    obtain ⟨v26,q24,h⟩:=bs h
    obtain ⟨v27,q25,h⟩:=bs h
    refine rdL [(1,.mpt 0 0 0),(2,.mpt 1 0 0),(3,.mpt 2 0 0),(6,iA v24)] [some (6,[(zc v1)]),some (6,[[sA [],sA [],bA false,.lit (.slice none 0 0),.lit (.slice none 0 0),.lit (.slice none 0 0)]]),some (6,[[sA v2,sA v3,bA v1.Interface,.fr (.isl 1 (List.map zt v4)),.msl 3 0 (List.length v17),.msl 4 0 (List.length v27)]]),some (3,List.map zA v17),some (10,List.map zbV v27)] [8,9,11] [7,6,5,4,3,2,1,0] [(67,.agg (zbV v26)),(66,.agg (zd v25)),(65,.ipt 10 (List.map zd v1.Methods) (Int.toNat v24) 0),(64,iA v24),(63,.isl 10 (List.map zd v1.Methods)),(62,.mpt 0 0 5),(61,.msl 4 0 (List.length v23)),(60,.mpt 2 0 5)] 3 (by kernel_rfl) (by kernel_rfl) rfl (by kernel_rfl) (dtS ⟨(fun _=>pa rfl rfl rfl rfl (pc (zoC v25 q24) rfl rfl rfl<|⟨rfl,rfl⟩)),(fun _=>pa rfl rfl rfl rfl (ldI ti rfl (zm q23).2.2 rfl<|⟨rfl,rfl⟩)),(fun _=>pa rfl rfl rfl rfl (ixI ti rfl ti rfl rfl rfl q23<|⟨rfl,rfl⟩)),(fun _=>pa rfl rfl rfl rfl (mv rfl<|⟨rfl,rfl⟩)),(fun _=>pa rfl rfl rfl rfl (ld ti rfl rfl<|⟨rfl,rfl⟩)),(fun _=>pa rfl rfl rfl rfl (fa ti rfl rfl rfl<|⟨rfl,rfl⟩)),(fun _=>pa rfl rfl rfl rfl (ld ti rfl rfl<|⟨rfl,rfl⟩)),(fun _=>pa rfl rfl rfl rfl (fa ti rfl rfl rfl<|⟨rfl,rfl⟩)),trivial⟩ (by kernel_rfl) rfl ⟨(fun _ _=>⟨_,rfl,rfl,bl 5 ti rfl ti rfl (by decide) (by decide) rfl rfl rfl<|⟨(.msl 5 0 1),[],[(68,.msl 5 0 1)],rfl,rfl,by kernel_rfl,rfl,dtS ⟨(fun h=>by cases h),(fun _=>pa rfl rfl rfl rfl (ldI ti rfl (zm q23).2.2 rfl<|⟨rfl,rfl⟩)),(fun _=>pa rfl rfl rfl rfl (ixI ti rfl ti rfl rfl rfl q23<|⟨rfl,rfl⟩)),(fun _=>pa rfl rfl rfl rfl (mv rfl<|⟨rfl,rfl⟩)),(fun _=>pa rfl rfl rfl rfl (ld ti rfl rfl<|⟨rfl,rfl⟩)),(fun _=>pa rfl rfl rfl rfl (fa ti rfl rfl rfl<|⟨rfl,rfl⟩)),(fun _=>pa rfl rfl rfl rfl (ld ti rfl rfl<|⟨rfl,rfl⟩)),(fun _=>pa rfl rfl rfl rfl (fa ti rfl rfl rfl<|⟨rfl,rfl⟩)),trivial⟩ (by kernel_rfl) rfl ⟨(fun h=>by cases h),(fun _ _=>⟨_,rfl,rfl,apM 6 ti rfl ti rfl rfl (by decide) ti rfl rfl rfl rfl (roX (f:=zbV) (z:=[v26]) rfl rfl) (fun _=>rfl) rfl q25<|⟨(.msl 6 0 (List.length v27)),[10],[(70,.mpt 2 0 5),(69,.msl 6 0 (List.length v27))],rfl,rfl,by kernel_rfl,rfl,dtS ⟨(fun _=>pa rfl rfl rfl rfl (fa ti rfl rfl rfl<|⟨rfl,rfl⟩)),(fun h=>by cases h),(fun _=>pa rfl rfl rfl rfl (ldI ti rfl (zm q23).2.2 rfl<|⟨rfl,rfl⟩)),(fun _=>pa rfl rfl rfl rfl (ixI ti rfl ti rfl rfl rfl q23<|⟨rfl,rfl⟩)),(fun _=>pa rfl rfl rfl rfl (mv rfl<|⟨rfl,rfl⟩)),(fun _=>pa rfl rfl rfl rfl (ld ti rfl rfl<|⟨rfl,rfl⟩)),(fun _=>pa rfl rfl rfl rfl (fa ti rfl rfl rfl<|⟨rfl,rfl⟩)),(fun h=>by cases h),(fun _=>pa rfl rfl rfl rfl (fa ti rfl rfl rfl<|⟨rfl,rfl⟩)),trivial⟩ (by kernel_rfl) rfl ⟨(fun h=>by cases h),(fun h=>by cases h),(fun _ _=>⟨_,rfl,rfl,sto ti rfl rfl rfl<|⟨.any,[],[],rfl,rfl,by kernel_rfl,trivial,dt0 ⟨(fun h=>by cases h),(fun h=>by cases h),(fun h=>by cases h),(fun h=>by cases h),(fun h=>by cases h),(fun h=>by cases h),(fun h=>by cases h),(fun h=>by cases h),(fun h=>by cases h),trivial⟩ (by kernel_rfl) rfl ⟨[.old 0,.old 1,.old 2,.old 3,.old 6],cv rfl (.mpt rfl)<|cv rfl (.mpt rfl)<|cv rfl (.mpt rfl)<|ce rfl rfl<|cn,rfl,⟨⟨_,rfl,zaz (ciL rfl)⟩,⟨_,rfl,zaz (ciL rfl)⟩,⟨_,rfl,zaz ⟨ci rfl,ci rfl,ci rfl,ci rfl,.msl rfl,.msl rfl,trivial⟩⟩,⟨_,rfl,zbs (fun _=>rfl)⟩,⟨_,rfl,zbs (fun _=>rfl)⟩,trivial⟩,rfl,Nat.le_of_ble_eq_true rfl⟩⟩⟩),trivial⟩⟩⟩),(fun _ h=>by cases h),trivial⟩⟩⟩),(fun _ h=>by cases h),(fun _ h=>by cases h),trivial⟩) ?_
    refine rl rfl<|u<|mv rfl<|u<|add ti rfl rfl<|u<|asg rfl<|zn ?_
    obtain rfl:=sm h
    exact ⟨_,rfl,[.old 0,.old 1,.old 2,.old 3,.old 4],cv rfl (.mpt rfl)<|cv rfl (.mpt rfl)<|cv rfl (.mpt rfl)<|ce rfl rfl<|cn,rfl,⟨⟨_,rfl,zaz (ciL rfl)⟩,⟨_,rfl,zaz (ciL rfl)⟩,⟨_,rfl,zaz ⟨ci rfl,ci rfl,ci rfl,ci rfl,.msl rfl,.msl rfl,trivial⟩⟩,⟨_,rfl,zbs (fun _=>rfl)⟩,⟨_,rfl,zbs (fun _=>rfl)⟩,trivial⟩,rfl,Nat.le_of_ble_eq_true rfl⟩
   ·
    replace h:=bF hc22 h
    refine zy ?_
    obtain rfl:=sm h
    exact ⟨rfl,_,rfl,[.old 1,.old 2,.old 3,.old 4],cv rfl (.mpt rfl)<|cv rfl (.mpt rfl)<|cn,rfl,⟨⟨_,rfl,zaz (ciL rfl)⟩,⟨_,rfl,zaz ⟨ci rfl,ci rfl,ci rfl,ci rfl,.msl rfl,.msl rfl,trivial⟩⟩,⟨_,rfl,zbs (fun _=>rfl)⟩,⟨_,rfl,zbs (fun _=>rfl)⟩,trivial⟩,rfl,Nat.le_of_ble_eq_true rfl⟩
  ·
   rintro v28 rfl
   replace h:zlW v2 v3 v4 v17 v28=some r:=h
   unfold zlW at h
   refine zu ?_
   refine rg rfl<|u<|ld ti rfl rfl<|u<|sto ti rfl rfl rfl<|zn ?_
   refine zD ?_
   obtain rfl:=sm h
   exact ⟨_,rfl,[.old 2,.old 3],znT ⟨ci rfl,ci rfl,ci rfl,ci rfl,(.msl rfl),(.msl rfl),trivial⟩,rfl,⟨⟨_,rfl,zbs (fun _=>rfl)⟩,⟨_,rfl,zbs (fun _=>rfl)⟩,trivial⟩,rfl,Nat.le_of_ble_eq_true rfl⟩
  ·
   rintro r' rfl env st hp
   obtain rfl:=sm h
   exact hp
 ·
  rintro r' rfl env st hp
  obtain rfl:=sm h
  exact hp
theorem zry(v1:List za){r:(List za)}(h:zg9 v1=some r):SC Tryz.prog 26 [.isl 6 (List.map zc v1)] [] (.msl 0 0 (List.length r)) [.many 6 (List.map zgk r)]:=by
 refine ⟨⟨zgu (sz:=6) (fun _=>rfl),trivial⟩,zP Tryz.func26 rfl (by kernel_rfl) rfl ?_⟩
 unfold zg9 at h
 refine rg rfl<|u<|asg rfl<|zn ?_
 refine rg rfl<|u<|asg rfl<|zn ?_
 refine zf ?_
 refine rg rfl<|u<|asg rfl<|zn ?_
 obtain ⟨o,ho,h⟩:=bs h
 refine zmO (X:=(List za)×Int) (B:=(List za)) (R:=(List za)) (fun z=>[(0,.isl 6 (List.map zc v1)),(3,.msl 0 0 (List.length z.1)),(4,iA z.2)]) (fun z=>[some (6,List.map zgk z.1)]) (fun b=>[(3,.msl 0 0 (List.length b))]) (fun b=>[some (6,List.map zgk b)]) (fun r env st=>zj8 Tryz.prog Tryz.f26 0 (.msl 0 0 (List.length r)) [some (6,List.map zgk r)] env st) ho ⟨[.fresh 6],ce rfl rfl<|cv rfl (.nilown rfl)<|ce rfl rfl<|cn,rfl,⟨⟨rfl,rfl⟩,trivial⟩,rfl,Nat.le_of_ble_eq_true rfl⟩ ?_ ?_ ?_
 ·
  rintro ⟨v7,v8⟩ r h
  replace h:zfk v1 v7 v8=some r:=h
  unfold zfk at h
  refine zf ?_
  refine rg rfl<|u<|mv rfl<|u<|mv rfl<|u<|lnI ti rfl rfl<|u<|lss ti rfl rfl<|u<|mv rfl<|zhw (j:=4) 2 rfl rfl rfl rfl rfl gpn (fun hb6=>g rfl hb6<|mv rfl<|g rfl hb6<|lss ti rfl rfl<|zn (egA [10,11] 2 hb6 rfl rfl rfl rfl)) zx9<|zn ?_
  refine zg3 rfl (fun hc7=>?_) (fun hc7=>?_)
  ·
   replace h:=bT hc7 h
   refine ze ?_
   refine zf ?_
   refine zj ?_
   obtain ⟨v9,q8,h⟩:=bs h
   obtain ⟨v10,q9,h⟩:=bs h
   obtain ⟨v11,q10,h⟩:=bs h
   refine rl rfl<|u<|mv rfl<|u<|mv rfl<|u<|mv rfl<|u<|ixI ti rfl ti rfl rfl rfl q8<|u<|ldI ti rfl (zm q8).2.2 rfl<|u<|sc [] (zrz v9 q9) rfl rfl rfl rfl ⟨(rnI rfl),trivial⟩ trivial<|zv (env0:=[(0,.isl 6 (List.map zc v1)),(4,iA v8),(15,.msl 0 0 (List.length v7)),(20,.agg [sA v10.1,sA v10.2.1,bA v9.Interface,.fr (.isl 1 (List.map zt v10.2.2.1)),.msl 1 0 (List.length v10.2.2.2.1),.msl 2 0 (List.length v10.2.2.2.2)])]) (st0:=[some (6,List.map zgk v7),some (3,List.map zA v10.2.2.2.1),some (10,List.map zbV v10.2.2.2.2)]) ⟨[.old 0,.old 1,.old 2],ce rfl rfl<|ce rfl rfl<|cv rfl (.msl rfl)<|cv rfl (znT ⟨ci rfl,ci rfl,ci rfl,ci rfl,(.msl rfl),(.msl rfl),trivial⟩)<|cn,rfl,⟨⟨_,rfl,zbs (fun _=>rfl)⟩,⟨_,rfl,zbs (fun _=>rfl)⟩,⟨_,rfl,zbs (fun _=>rfl)⟩,trivial⟩,rfl,Nat.le_of_ble_eq_true rfl⟩<|u<|bl 3 ti rfl ti rfl (by decide) (by decide) rfl rfl rfl<|zv (env0:=[(0,.isl 6 (List.map zc v1)),(4,iA v8),(15,.msl 0 0 (List.length v7)),(21,.msl 1 0 (List.length [(za.mk v10.1 v10.2.1 v9.Interface v10.2.2.1 v10.2.2.2.1 v10.2.2.2.2)]))]) (st0:=[some (6,List.map zgk v7),some (6,List.map zgk [(za.mk v10.1 v10.2.1 v9.Interface v10.2.2.1 v10.2.2.2.1 v10.2.2.2.2)])]) ⟨[.old 0,.old 3],ce rfl rfl<|ce rfl rfl<|cv rfl (.msl rfl)<|cv rfl (.msl rfl)<|cn,rfl,⟨⟨_,rfl,zbs (fun _=>rfl)⟩,⟨_,rfl,zkO ⟨⟨(ci rfl),(ci rfl),(ci rfl),(ci rfl),(zAS zB9 rfl rfl),(zAS zA6 rfl rfl),trivial⟩,trivial⟩⟩,trivial⟩,rfl,Nat.le_of_ble_eq_true rfl⟩<|u<|apM 2 ti rfl ti rfl rfl (by decide) ti rfl rfl rfl rfl (roM rfl) (fun _=>rfl) rfl q10<|u<|asg rfl<|zn ?_
   refine rl rfl<|u<|mv rfl<|u<|add ti rfl rfl<|u<|asg rfl<|zn ?_
   obtain rfl:=sm h
   exact ⟨_,rfl,[.old 2],ce rfl rfl<|cv rfl (.msl rfl)<|ce rfl rfl<|cn,rfl,⟨⟨_,rfl,zbs (fun _=>rfl)⟩,trivial⟩,rfl,Nat.le_of_ble_eq_true rfl⟩
  ·
   replace h:=bF hc7 h
   refine zy ?_
   obtain rfl:=sm h
   exact ⟨rfl,_,rfl,[.old 0],cv rfl (.msl rfl)<|cn,rfl,⟨⟨_,rfl,zbs (fun _=>rfl)⟩,trivial⟩,rfl,Nat.le_of_ble_eq_true rfl⟩
 ·
  rintro v12 rfl
  replace h:zlV v12=some r:=h
  unfold zlV at h
  refine zu ?_
  refine rg rfl<|u<|mv rfl<|u<|asg rfl<|zn ?_
  refine zD ?_
  obtain rfl:=sm h
  exact ⟨_,rfl,[.old 0],.msl rfl,rfl,⟨⟨_,rfl,zbs (fun _=>rfl)⟩,trivial⟩,rfl,Nat.le_of_ble_eq_true rfl⟩
 ·
  rintro r' rfl env st hp
  obtain rfl:=sm h
  exact hp

end
end Go.Proofs.YthmnlfenkhmmhaaGreat
