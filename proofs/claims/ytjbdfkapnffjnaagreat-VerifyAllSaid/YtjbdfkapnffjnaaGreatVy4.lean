/- VerifyAll: for every input the law returns true, and each argument reads as it read before. No further condition. Part 4 of 8. -/
import Derived.Test.YtjbdfkapnffjnaaGreatVy3
namespace Go.Proofs.YtjbdfkapnffjnaaGreat
noncomputable section
open List (length map)
set_option linter.unusedSimpArgs false
set_option linter.unusedVariables false
set_option maxRecDepth 100000
set_option maxHeartbeats 4000000
set_option linter.unusedSectionVars false
structure zac where
  l:List zb
  at_:T2
def zeR(x:zac):List AV:=[.isl 6 (map zc x.l),.imp (map (rKV (fun x=>iA x)) x.at_)]
def zcQ(v1:T0)(v2:Int):Option (T0):=
  cond (decide (v2<(length v1:Int))) ((zj6 v1 0 v2).bind fun v3=>some v3) (some v1)
theorem zb6(v1:T0)(v2:Int){r:T0}(h:zcQ v1 v2=some r):zI Tryz.prog 47 [sA v1,iA v2] (sA r):=by
 refine zq Tryz.func47 y kz y y ?_
 unfold zcQ at h
 refine rg y<|u<|asg y<|za ?_
 refine zi ?_
 refine rg y<|u<|mv y<|u<|lnS ti y y<|u<|mv y<|u<|gtr ti y y<|za ?_
 refine ze y (fun hc1=>?_) (fun hc1=>?_)
 ·
  replace h:=bT hc1 h
  obtain ⟨v3,q2,h⟩:=bs h
  refine rg y<|u<|mv y<|u<|mv y<|u<|slS (a:=0) (b:=v2) ti y y y (zon y q2) q2<|u<|asg y<|za ?_
  refine zj ?_
  obtain rfl:=sm h
  exact ⟨_,y,zy []⟩
 ·
  replace h:=bF hc1 h
  refine zg ?_
  refine rg y<|u<|mv y<|u<|asg y<|za ?_
  refine zj ?_
  obtain rfl:=sm h
  exact ⟨_,y,zy []⟩
def zkB(v13:T1):Option (T1):=
  some v13
def zet(v1:T1)(v2:Int)(v8:T1)(v9:Int):Option (Sum (T1×Int) (Sum (T1) (T1))):=
  cond ((decide (v9<(length v1:Int)))&&(decide (v9<v2))) ((idx v1 v9).bind fun v10=>(zcQ v10 12).bind fun v11=>(zis 16 v8 [v11]).bind fun v12=>some (.inl (v12,(IntKind.i64.wrap (v9+1))))) (some (.inr (.inl v8)))
def zel(v1:T1)(v2:Int):Option (T1):=
  (zu (fun z=>zet v1 v2 z.1 z.2) ([],0)).bind fun o=>zU o (fun b=>zkB b) some
theorem zd1(v1:T1)(v2:Int){r:T1}(h:zel v1 v2=some r):zI Tryz.prog 114 [.isl 1 (map zf v1),iA v2] (.isl 1 (map zf r)):=by
 refine zq Tryz.func114 y kz y y ?_
 unfold zel at h
 refine rg y<|u<|asg y<|za ?_
 refine rg y<|u<|asg y<|za ?_
 refine zi ?_
 refine rg y<|u<|asg y<|za ?_
 obtain ⟨o,ho,h⟩:=bs h
 refine zX (X:=T1×Int) (B:=T1) (R:=T1) (fun z=>[(0,.isl 1 (map zf v1)),(1,iA v2),(5,.msl 0 0 (length z.1)),(6,iA z.2)]) (fun z=>[some (1,map zf z.1)]) (fun b=>[(5,.msl 0 0 (length b))]) (fun b=>[some (1,map zf b)]) (fun r env st=>zaN Tryz.prog Tryz.f114 0 (.isl 1 (map zf r)) [] env st) ho ⟨[.fresh 1],ce y y<|ce y y<|cv y (.nilown y)<|ce y y<|cn,y,⟨w,t⟩,y,k⟩ ?_ ?_ ?_
 ·
  rintro ⟨v8,v9⟩ r h
  replace h:zet v1 v2 v8 v9=some r:=h
  unfold zet at h
  refine zi ?_
  refine rg y<|u<|mv y<|u<|mv y<|u<|lnI ti y y<|u<|lss ti y y<|u<|mv y<|z7 (j:=4) 3 y y y y y gpn (fun hb6=>g y hb6<|mv y<|g y hb6<|mv y<|g y hb6<|lss ti y y<|za (egA [12,13,14] 3 hb6 y y y y)) ze2<|za ?_
  refine ze y (fun hc7=>?_) (fun hc7=>?_)
  ·
   replace h:=bT hc7 h
   refine zg ?_
   refine zi ?_
   refine zr ?_
   obtain ⟨v10,q8,h⟩:=bs h
   obtain ⟨v11,q9,h⟩:=bs h
   obtain ⟨v12,q10,h⟩:=bs h
   refine rl y<|u<|mv y<|u<|mv y<|u<|mv y<|u<|ixI ti y ti y y y q8<|u<|ldI ti y (zl q8).2.2 y<|u<|pc (zb6 v10 12 q9) y y y<|u<|bl 1 ti y ti y (by decide) (by decide) y y y<|u<|apM 2 ti y ti y y (by decide) ti y y y y (roX (f:=zf) (z:=[v11]) y y) (fun _=>y) y q10<|u<|asg y<|za ?_
   refine rl y<|u<|mv y<|u<|add ti y y<|u<|asg y<|za ?_
   obtain rfl:=sm h
   exact ⟨_,y,zo [.old 2]⟩
  ·
   replace h:=bF hc7 h
   refine zD ?_
   obtain rfl:=sm h
   exact ⟨y,_,y,zo [.old 0]⟩
 ·
  rintro v13 rfl
  replace h:zkB v13=some r:=h
  unfold zkB at h
  refine zw ?_
  refine rg y<|u<|mv y<|u<|asg y<|za ?_
  refine zj ?_
  obtain rfl:=sm h
  exact ⟨_,y,zy []⟩
 ·
  rintro r' rfl env st hp
  obtain rfl:=sm h
  exact hp
def znd(v1:zH):Option (zH):=
  (zcQ v1.C 14).bind fun v2=>(zcQ v1.M 12).bind fun v3=>some (zH.mk v1.Op v1.A v2 v3)
theorem zta(v1:zH){r:zH}(h:znd v1=some r):zI Tryz.prog 194 [.agg (zv v1)] (.agg (zv r)):=by
 refine zq Tryz.func194 y kz y y ?_
 unfold znd at h
 refine rg y<|u<|bx 0 4 y y y y<|u<|al 1 ti y<|za ?_
 obtain ⟨v2,q1,h⟩:=bs h
 obtain ⟨v3,q2,h⟩:=bs h
 refine rdA [(1,.mpt 0 0 0),(2,.mpt 1 0 0)] [some (4,[[iA v1.Op,iA v1.A,sA v2,sA v3]]),some (4,[[iA 0,iA 0,sA [],sA []]])] [7,9] [6,5,4,3,2,1,0] [(9,.mpt 0 0 2),(8,sA v3),(7,sA v1.M),(6,.mpt 0 0 3),(5,sA v2),(4,sA v1.C),(3,.mpt 0 0 2)] 2 (zem ⟨pe,(pb y (pc (zb6 v1.M 12 q2) y y y w)),pe,pe,(pb y (pc (zb6 v1.C 14 q1) y y y w)),pe,pe,t⟩ ⟨(fun _ _=>⟨_,y,y,sto ti y y y<|⟨.any,[8],[(10,.mpt 0 0 3)],y,y,kz,t,zma ⟨nv,(fun _ _=>⟨_,y,y,sto ti y y y<|⟨.any,[],[],y,y,kz,t,zhW (zo [.old 0,.old 1])⟩⟩),t⟩⟩⟩),nw,t⟩) ?_
 refine rg y<|u<|ld ti y y<|u<|sto ti y y y<|za ?_
 refine zj ?_
 obtain rfl:=sm h
 exact ⟨_,y,zy []⟩
def zjB(v1:zd)(v2:T0)(v3:T1)(v4:T0)(v15:List zH)(v32:List zas)(v43:List zbe):Option (zd):=
  some (zd.mk v2 v3 v4 v1.Static v1.Abstract v1.Locals v1.Stack v15 v32 v43)
def zd3(v1:zd)(v38:List zbe)(v39:Int):Option (Sum ((List zbe)×Int) (Sum ((List zbe)) (zd))):=
  cond ((decide (v39<(length v1.Traps:Int)))&&(decide (v39<8))) ((idx v1.Traps v39).bind fun v40=>(zcQ v40.C 10).bind fun v41=>(zis 40 v38 [(zbe.mk v40.From v40.To v40.At v41)]).bind fun v42=>some (.inl (v42,(IntKind.i64.wrap (v39+1))))) (some (.inr (.inl v38)))
def zgO(v1:zd)(v2:T0)(v3:T1)(v4:T0)(v15:List zH)(v32:List zas):Option (zd):=
  (zu (fun z=>zd3 v1 z.1 z.2) ([],0)).bind fun o=>zU o (fun b=>zjB v1 v2 v3 v4 v15 v32 b) some
def zd4(v1:zd)(v24:List zas)(v25:Int):Option (Sum ((List zas)×Int) (Sum ((List zas)) (zd))):=
  cond ((decide (v25<(length v1.Maps:Int)))&&(decide (v25<104))) ((idx v1.Maps v25).bind fun v26=>(idx v1.Maps v25).bind fun v27=>(zel v27.Locals 20).bind fun v28=>(idx v1.Maps v25).bind fun v29=>(zel v29.Stack 20).bind fun v30=>(zis 56 v24 [(zas.mk v26.At v28 v30)]).bind fun v31=>some (.inl (v31,(IntKind.i64.wrap (v25+1))))) (some (.inr (.inl v24)))
def zgQ(v1:zd)(v2:T0)(v3:T1)(v4:T0)(v15:List zH):Option (zd):=
  (zu (fun z=>zd4 v1 z.1 z.2) ([],0)).bind fun o=>zU o (fun b=>zgO v1 v2 v3 v4 v15 b) some
def zd6(v1:zd)(v10:List zH)(v11:Int):Option (Sum ((List zH)×Int) (Sum ((List zH)) (zd))):=
  cond ((decide (v11<(length v1.Code:Int)))&&(decide (v11<104))) ((idx v1.Code v11).bind fun v12=>(znd v12).bind fun v13=>(zis 48 v10 [v13]).bind fun v14=>some (.inl (v14,(IntKind.i64.wrap (v11+1))))) (some (.inr (.inl v10)))
def ziV(v1:zd):Option (zd):=
  (zcQ v1.Name 10).bind fun v2=>(zel v1.Params 8).bind fun v3=>(zcQ v1.Ret 12).bind fun v4=>(zu (fun z=>zd6 v1 z.1 z.2) ([],0)).bind fun o=>zU o (fun b=>zgQ v1 v2 v3 v4 b) some
theorem zp1(v1:zd){r:zd}(h:ziV v1=some r):zI Tryz.prog 115 [.agg (zh v1)] (.agg (zh r)):=by
 refine zq Tryz.func115 y kz y y ?_
 unfold ziV at h
 refine rg y<|u<|bx 0 10 y y y y<|u<|al 1 ti y<|za ?_
 obtain ⟨v2,q1,h⟩:=bs h
 obtain ⟨v3,q2,h⟩:=bs h
 obtain ⟨v4,q3,h⟩:=bs h
 refine rdA [(1,.mpt 0 0 0),(2,.mpt 1 0 0),(3,.mpt 2 0 0)] [some (10,[(zh v1)]),some (10,[[sA [],.lit (.slice none 0 0),sA [],bA false,bA false,iA 0,iA 0,.lit (.slice none 0 0),.lit (.slice none 0 0),.lit (.slice none 0 0)]]),some (10,[[sA v2,.isl 1 (map zf v3),sA v4,bA v1.Static,bA v1.Abstract,iA v1.Locals,iA v1.Stack,.lit (.slice none 0 0),.lit (.slice none 0 0),.lit (.slice none 0 0)]])] [18,19] [17,16,15,14,13,12,11,10,9,8,7,6,5,4,3,2,1,0] [(25,.agg [sA v2,.isl 1 (map zf v3),sA v4,bA v1.Static,bA v1.Abstract,iA v1.Locals,iA v1.Stack,.lit (.slice none 0 0),.lit (.slice none 0 0),.lit (.slice none 0 0)]),(24,iA v1.Stack),(23,.mpt 0 0 6),(22,iA v1.Locals),(21,.mpt 0 0 5),(20,bA v1.Abstract),(19,.mpt 0 0 4),(18,bA v1.Static),(17,.mpt 0 0 3),(16,sA v4),(15,sA v1.Ret),(14,.mpt 0 0 2),(13,.isl 1 (map zf v3)),(12,.isl 1 (map zf v1.Params)),(11,.mpt 0 0 1),(10,sA v2),(9,sA v1.Name),(8,.mpt 0 0 0)] 2 (zem ⟨(pb y (bd (parts:=[(0,sA v2),(1,.isl 1 (map zf v3)),(2,sA v4),(3,bA v1.Static),(4,bA v1.Abstract),(5,iA v1.Locals),(6,iA v1.Stack)]) (cs:=[sA v2,.isl 1 (map zf v3),sA v4,bA v1.Static,bA v1.Abstract,iA v1.Locals,iA v1.Stack,.lit (.slice none 0 0),.lit (.slice none 0 0),.lit (.slice none 0 0)]) ti y y kz w)),pe,pe,pe,pe,pe,pe,pe,pe,(pb y (pc (zb6 v1.Ret 12 q3) y y y w)),pe,pe,(pb y (pc (zd1 v1.Params 8 q2) y y y w)),pe,pe,(pb y (pc (zb6 v1.Name 10 q1) y y y w)),pe,pe,t⟩ ⟨(fun _ _=>⟨_,y,y,al 2 ti y<|⟨(.mpt 2 0 0),[],[(3,.mpt 2 0 0)],y,y,kz,y,zem ⟨(pb y (bd (parts:=[(0,sA v2),(1,.isl 1 (map zf v3)),(2,sA v4),(3,bA v1.Static),(4,bA v1.Abstract),(5,iA v1.Locals),(6,iA v1.Stack)]) (cs:=[sA v2,.isl 1 (map zf v3),sA v4,bA v1.Static,bA v1.Abstract,iA v1.Locals,iA v1.Stack,.lit (.slice none 0 0),.lit (.slice none 0 0),.lit (.slice none 0 0)]) ti y y kz w)),pe,pe,pe,pe,pe,pe,pe,pe,(pb y (pc (zb6 v1.Ret 12 q3) y y y w)),pe,pe,(pb y (pc (zd1 v1.Params 8 q2) y y y w)),pe,pe,(pb y (pc (zb6 v1.Name 10 q1) y y y w)),pe,pe,t⟩ ⟨nv,(fun _ _=>⟨_,y,y,sto ti y y y<|⟨.any,[],[],y,y,kz,t,zhW (zo [.old 0,.old 1,.old 2])⟩⟩),t⟩⟩⟩),nw,t⟩) ?_
 refine zi ?_
 refine rg y<|u<|asg y<|za ?_
 obtain ⟨o,ho,h⟩:=bs h
 refine zX (X:=(List zH)×Int) (B:=(List zH)) (R:=zd) (fun z=>[(1,.mpt 0 0 0),(2,.mpt 1 0 0),(3,.mpt 2 0 0),(4,iA z.2)]) (fun z=>[some (10,[(zh v1)]),some (10,[[sA [],.lit (.slice none 0 0),sA [],bA false,bA false,iA 0,iA 0,.lit (.slice none 0 0),.lit (.slice none 0 0),.lit (.slice none 0 0)]]),some (10,[[sA v2,.isl 1 (map zf v3),sA v4,bA v1.Static,bA v1.Abstract,iA v1.Locals,iA v1.Stack,.msl 3 0 (length z.1),.lit (.slice none 0 0),.lit (.slice none 0 0)]]),some (4,map zv z.1)]) (fun b=>[(1,.mpt 0 0 0),(2,.mpt 1 0 0),(3,.mpt 2 0 0)]) (fun b=>[some (10,[(zh v1)]),some (10,[[sA [],.lit (.slice none 0 0),sA [],bA false,bA false,iA 0,iA 0,.lit (.slice none 0 0),.lit (.slice none 0 0),.lit (.slice none 0 0)]]),some (10,[[sA v2,.isl 1 (map zf v3),sA v4,bA v1.Static,bA v1.Abstract,iA v1.Locals,iA v1.Stack,.msl 3 0 (length b),.lit (.slice none 0 0),.lit (.slice none 0 0)]]),some (4,map zv b)]) (fun r env st=>zaN Tryz.prog Tryz.f115 0 (.agg (zh r)) [] env st) ho ⟨[.old 0,.old 1,.old 2,.fresh 4],cv y (.mpt y)<|cv y (.mpt y)<|cv y (.mpt y)<|ce y y<|cn,y,⟨⟨_,y,ziB (ciL y)⟩,⟨_,y,ziB (ciL y)⟩,⟨_,y,ziB ⟨ci y,ci y,ci y,ci y,ci y,ci y,ci y,.nilown y,ci y,ci y,t⟩⟩,w,t⟩,y,k⟩ ?_ ?_ ?_
 ·
  rintro ⟨v10,v11⟩ r h
  replace h:zd6 v1 v10 v11=some r:=h
  unfold zd6 at h
  refine zi ?_
  refine rg y<|u<|mv y<|u<|fa ti y y y<|u<|ld ti y y<|u<|lnI ti y y<|u<|lss ti y y<|u<|mv y<|z7 (j:=5) 2 y y y y y gpn (fun hb9=>g y hb9<|mv y<|g y hb9<|lss ti y y<|za (egA [32,33] 2 hb9 y y y y)) ze2<|za ?_
  refine ze y (fun hc10=>?_) (fun hc10=>?_)
  ·
   replace h:=bT hc10 h
   refine zg ?_
   refine zi ?_
   refine zr ?_
   obtain ⟨v12,q11,h⟩:=bs h
   obtain ⟨v13,q12,h⟩:=bs h
   obtain ⟨v14,q13,h⟩:=bs h
   refine zjq [(1,.mpt 0 0 0),(2,.mpt 1 0 0),(3,.mpt 2 0 0),(4,iA v11)] [some (10,[(zh v1)]),some (10,[[sA [],.lit (.slice none 0 0),sA [],bA false,bA false,iA 0,iA 0,.lit (.slice none 0 0),.lit (.slice none 0 0),.lit (.slice none 0 0)]]),some (10,[[sA v2,.isl 1 (map zf v3),sA v4,bA v1.Static,bA v1.Abstract,iA v1.Locals,iA v1.Stack,.msl 3 0 (length v14),.lit (.slice none 0 0),.lit (.slice none 0 0)]]),some (4,map zv v14)] [8,9,11] [7,6,5,4,3,2,1,0] [(44,.agg (zv v13)),(43,.agg (zv v12)),(42,.ipt 4 (map zv v1.Code) (Int.toNat v11) 0),(41,iA v11),(40,.isl 4 (map zv v1.Code)),(39,.mpt 0 0 7),(38,.msl 3 0 (length v10)),(37,.mpt 2 0 7)] 3 (zem ⟨(pb y (pc (zta v12 q12) y y y w)),(pb y (ldI ti y (zl q11).2.2 y w)),(pb y (ixI ti y ti y y y q11 w)),pe,pe,pe,pe,pe,t⟩ ⟨(fun _ _=>⟨_,y,y,bl 4 ti y ti y (by decide) (by decide) y y y<|⟨(.msl 4 0 1),[],[(45,.msl 4 0 1)],y,y,kz,y,zem ⟨pe,(pb y (ldI ti y (zl q11).2.2 y w)),(pb y (ixI ti y ti y y y q11 w)),pe,pe,pe,pe,pe,t⟩ ⟨nv,(fun _ _=>⟨_,y,y,apM 5 ti y ti y y (by decide) ti y y y y (roX (f:=zv) (z:=[v13]) y y) (fun _=>y) y q13<|⟨(.msl 5 0 (length v14)),[10],[(47,.mpt 2 0 7),(46,.msl 5 0 (length v14))],y,y,kz,y,zem ⟨pe,pe,(pb y (ldI ti y (zl q11).2.2 y w)),(pb y (ixI ti y ti y y y q11 w)),pe,pe,pe,pe,pe,t⟩ ⟨nv,nv,(fun _ _=>⟨_,y,y,sto ti y y y<|⟨.any,[],[],y,y,kz,t,zhW (zo [.old 0,.old 1,.old 2,.old 5])⟩⟩),t⟩⟩⟩),nw,t⟩⟩⟩),nw,nw,t⟩) ?_
   refine rl y<|u<|mv y<|u<|add ti y y<|u<|asg y<|za ?_
   obtain rfl:=sm h
   exact ⟨_,y,zo [.old 0,.old 1,.old 2,.old 3]⟩
  ·
   replace h:=bF hc10 h
   refine zD ?_
   obtain rfl:=sm h
   exact ⟨y,_,y,zo [.old 0,.old 1,.old 2,.old 3]⟩
 ·
  rintro v15 rfl
  replace h:zgQ v1 v2 v3 v4 v15=some r:=h
  unfold zgQ at h
  refine zw ?_
  refine zi ?_
  refine rg y<|u<|asg y<|za ?_
  obtain ⟨o,ho,h⟩:=bs h
  refine zX (X:=(List zas)×Int) (B:=(List zas)) (R:=zd) (fun z=>[(1,.mpt 0 0 0),(2,.mpt 1 0 0),(3,.mpt 2 0 0),(5,iA z.2)]) (fun z=>[some (10,[(zh v1)]),some (10,[[sA [],.lit (.slice none 0 0),sA [],bA false,bA false,iA 0,iA 0,.lit (.slice none 0 0),.lit (.slice none 0 0),.lit (.slice none 0 0)]]),some (10,[[sA v2,.isl 1 (map zf v3),sA v4,bA v1.Static,bA v1.Abstract,iA v1.Locals,iA v1.Stack,.msl 3 0 (length v15),.msl 4 0 (length z.1),.lit (.slice none 0 0)]]),some (4,map zv v15),some (3,map zP z.1)]) (fun b=>[(1,.mpt 0 0 0),(2,.mpt 1 0 0),(3,.mpt 2 0 0)]) (fun b=>[some (10,[(zh v1)]),some (10,[[sA [],.lit (.slice none 0 0),sA [],bA false,bA false,iA 0,iA 0,.lit (.slice none 0 0),.lit (.slice none 0 0),.lit (.slice none 0 0)]]),some (10,[[sA v2,.isl 1 (map zf v3),sA v4,bA v1.Static,bA v1.Abstract,iA v1.Locals,iA v1.Stack,.msl 3 0 (length v15),.msl 4 0 (length b),.lit (.slice none 0 0)]]),some (4,map zv v15),some (3,map zP b)]) (fun r env st=>zaN Tryz.prog Tryz.f115 0 (.agg (zh r)) [] env st) ho ⟨[.old 0,.old 1,.old 2,.old 3,.fresh 3],cv y (.mpt y)<|cv y (.mpt y)<|cv y (.mpt y)<|ce y y<|cn,y,⟨⟨_,y,ziB (ciL y)⟩,⟨_,y,ziB (ciL y)⟩,⟨_,y,ziB ⟨ci y,ci y,ci y,ci y,ci y,ci y,ci y,.msl y,.nilown y,ci y,t⟩⟩,⟨_,y,zjN (fun _=>y)⟩,w,t⟩,y,k⟩ ?_ ?_ ?_
  ·
   rintro ⟨v24,v25⟩ r h
   replace h:zd4 v1 v24 v25=some r:=h
   unfold zd4 at h
   refine zi ?_
   refine rg y<|u<|mv y<|u<|fa ti y y y<|u<|ld ti y y<|u<|lnI ti y y<|u<|lss ti y y<|u<|mv y<|z7 (j:=5) 2 y y y y y gpn (fun hb22=>g y hb22<|mv y<|g y hb22<|lss ti y y<|za (egA [54,55] 2 hb22 y y y y)) ze2<|za ?_
   refine ze y (fun hc23=>?_) (fun hc23=>?_)
   ·
    replace h:=bT hc23 h
    refine zg ?_
    refine zi ?_
    refine zr ?_
    obtain ⟨v26,q24,h⟩:=bs h
    obtain ⟨v27,q25,h⟩:=bs h
    obtain ⟨v28,q26,h⟩:=bs h
    obtain ⟨v29,q27,h⟩:=bs h
    obtain ⟨v30,q28,h⟩:=bs h
    obtain ⟨v31,q29,h⟩:=bs h
    refine zjq [(1,.mpt 0 0 0),(2,.mpt 1 0 0),(3,.mpt 2 0 0),(5,iA v25)] [some (10,[(zh v1)]),some (10,[[sA [],.lit (.slice none 0 0),sA [],bA false,bA false,iA 0,iA 0,.lit (.slice none 0 0),.lit (.slice none 0 0),.lit (.slice none 0 0)]]),some (10,[[sA v2,.isl 1 (map zf v3),sA v4,bA v1.Static,bA v1.Abstract,iA v1.Locals,iA v1.Stack,.msl 3 0 (length v15),.msl 4 0 (length v31),.lit (.slice none 0 0)]]),some (4,map zv v15),some (3,map zP v31)] [23,24,26] [22,21,20,19,18,17,16,15,14,13,12,11,10,9,8,7,6,5,4,3,2,1,0] [(81,.agg [iA v26.At,.isl 1 (map zf v28),.isl 1 (map zf v30)]),(80,.isl 1 (map zf v30)),(79,.isl 1 (map zf v29.Stack)),(78,.ipt 3 (map zP v1.Maps) (Int.toNat v25) 2),(77,.ipt 3 (map zP v1.Maps) (Int.toNat v25) 0),(76,iA v25),(75,.isl 3 (map zP v1.Maps)),(74,.mpt 0 0 8),(73,.isl 1 (map zf v28)),(72,.isl 1 (map zf v27.Locals)),(71,.ipt 3 (map zP v1.Maps) (Int.toNat v25) 1),(70,.ipt 3 (map zP v1.Maps) (Int.toNat v25) 0),(69,iA v25),(68,.isl 3 (map zP v1.Maps)),(67,.mpt 0 0 8),(66,iA v26.At),(65,.ipt 3 (map zP v1.Maps) (Int.toNat v25) 0),(64,.ipt 3 (map zP v1.Maps) (Int.toNat v25) 0),(63,iA v25),(62,.isl 3 (map zP v1.Maps)),(61,.mpt 0 0 8),(60,.msl 4 0 (length v24)),(59,.mpt 2 0 8)] 3 (zem ⟨(pb y (bd ti y y y w)),(pb y (pc (zd1 v29.Stack 20 q28) y y y w)),(pb y (ldI ti y (zl q27).2.2 y w)),pe,(pb y (ixI ti y ti y y y q27 w)),pe,pe,pe,(pb y (pc (zd1 v27.Locals 20 q26) y y y w)),(pb y (ldI ti y (zl q25).2.2 y w)),pe,(pb y (ixI ti y ti y y y q25 w)),pe,pe,pe,(pb y (ldI ti y (zl q24).2.2 y w)),pe,(pb y (ixI ti y ti y y y q24 w)),pe,pe,pe,pe,pe,t⟩ ⟨(fun _ _=>⟨_,y,y,bl 5 ti y ti y (by decide) (by decide) y y y<|⟨(.msl 5 0 1),[],[(82,.msl 5 0 1)],y,y,kz,y,zem ⟨pe,(pb y (pc (zd1 v29.Stack 20 q28) y y y w)),(pb y (ldI ti y (zl q27).2.2 y w)),pe,(pb y (ixI ti y ti y y y q27 w)),pe,pe,pe,(pb y (pc (zd1 v27.Locals 20 q26) y y y w)),(pb y (ldI ti y (zl q25).2.2 y w)),pe,(pb y (ixI ti y ti y y y q25 w)),pe,pe,pe,(pb y (ldI ti y (zl q24).2.2 y w)),pe,(pb y (ixI ti y ti y y y q24 w)),pe,pe,pe,pe,pe,t⟩ ⟨nv,(fun _ _=>⟨_,y,y,apM 6 ti y ti y y (by decide) ti y y y y (roX (f:=zP) (z:=[(zas.mk v26.At v28 v30)]) y y) (fun _=>y) y q29<|⟨(.msl 6 0 (length v31)),[25],[(84,.mpt 2 0 8),(83,.msl 6 0 (length v31))],y,y,kz,y,zem ⟨pe,pe,pe,(pb y (ldI ti y (zl q27).2.2 y w)),pe,(pb y (ixI ti y ti y y y q27 w)),pe,pe,pe,(pb y (pc (zd1 v27.Locals 20 q26) y y y w)),(pb y (ldI ti y (zl q25).2.2 y w)),pe,(pb y (ixI ti y ti y y y q25 w)),pe,pe,pe,(pb y (ldI ti y (zl q24).2.2 y w)),pe,(pb y (ixI ti y ti y y y q24 w)),pe,pe,pe,pe,pe,t⟩ ⟨nv,nv,(fun _ _=>⟨_,y,y,sto ti y y y<|⟨.any,[],[],y,y,kz,t,zhW (zo [.old 0,.old 1,.old 2,.old 3,.old 6])⟩⟩),t⟩⟩⟩),nw,t⟩⟩⟩),nw,nw,t⟩) ?_
    refine rl y<|u<|mv y<|u<|add ti y y<|u<|asg y<|za ?_
    obtain rfl:=sm h
    exact ⟨_,y,zo [.old 0,.old 1,.old 2,.old 3,.old 4]⟩
   ·
    replace h:=bF hc23 h
    refine zD ?_
    obtain rfl:=sm h
    exact ⟨y,_,y,zo [.old 0,.old 1,.old 2,.old 3,.old 4]⟩
  ·
   rintro v32 rfl
   replace h:zgO v1 v2 v3 v4 v15 v32=some r:=h
   unfold zgO at h
   refine zw ?_
   refine zi ?_
   refine rg y<|u<|asg y<|za ?_
   obtain ⟨o,ho,h⟩:=bs h
   refine zX (X:=(List zbe)×Int) (B:=(List zbe)) (R:=zd) (fun z=>[(1,.mpt 0 0 0),(2,.mpt 1 0 0),(3,.mpt 2 0 0),(6,iA z.2)]) (fun z=>[some (10,[(zh v1)]),some (10,[[sA [],.lit (.slice none 0 0),sA [],bA false,bA false,iA 0,iA 0,.lit (.slice none 0 0),.lit (.slice none 0 0),.lit (.slice none 0 0)]]),some (10,[[sA v2,.isl 1 (map zf v3),sA v4,bA v1.Static,bA v1.Abstract,iA v1.Locals,iA v1.Stack,.msl 3 0 (length v15),.msl 4 0 (length v32),.msl 5 0 (length z.1)]]),some (4,map zv v15),some (3,map zP v32),some (4,map zbL z.1)]) (fun b=>[(2,.mpt 0 0 0),(3,.mpt 1 0 0)]) (fun b=>[some (10,[[sA [],.lit (.slice none 0 0),sA [],bA false,bA false,iA 0,iA 0,.lit (.slice none 0 0),.lit (.slice none 0 0),.lit (.slice none 0 0)]]),some (10,[[sA v2,.isl 1 (map zf v3),sA v4,bA v1.Static,bA v1.Abstract,iA v1.Locals,iA v1.Stack,.msl 2 0 (length v15),.msl 3 0 (length v32),.msl 4 0 (length b)]]),some (4,map zv v15),some (3,map zP v32),some (4,map zbL b)]) (fun r env st=>zaN Tryz.prog Tryz.f115 0 (.agg (zh r)) [] env st) ho ⟨[.old 0,.old 1,.old 2,.old 3,.old 4,.fresh 4],cv y (.mpt y)<|cv y (.mpt y)<|cv y (.mpt y)<|ce y y<|cn,y,⟨⟨_,y,ziB (ciL y)⟩,⟨_,y,ziB (ciL y)⟩,⟨_,y,ziB ⟨ci y,ci y,ci y,ci y,ci y,ci y,ci y,.msl y,.msl y,.nilown y,t⟩⟩,⟨_,y,zjN (fun _=>y)⟩,⟨_,y,zjN (fun _=>y)⟩,w,t⟩,y,k⟩ ?_ ?_ ?_
   ·
    rintro ⟨v38,v39⟩ r h
    replace h:zd3 v1 v38 v39=some r:=h
    unfold zd3 at h
    refine zi ?_
    refine rg y<|u<|mv y<|u<|fa ti y y y<|u<|ld ti y y<|u<|lnI ti y y<|u<|lss ti y y<|u<|mv y<|z7 (j:=5) 2 y y y y y gpn (fun hb35=>g y hb35<|mv y<|g y hb35<|lss ti y y<|za (egA [91,92] 2 hb35 y y y y)) ze2<|za ?_
    refine ze y (fun hc36=>?_) (fun hc36=>?_)
    ·
     replace h:=bT hc36 h
     refine zg ?_
     refine zi ?_
     refine zr ?_
     obtain ⟨v40,q37,h⟩:=bs h
     refine rg y<|u<|fa ti y y y<|u<|ld ti y y<|u<|mv y<|u<|ixI ti y ti y y y q37<|u<|ldI ti y (zl q37).2.2 y<|u<|al 6 ti y<|u<|sto ti y y y<|za ?_
     obtain ⟨v41,q38,h⟩:=bs h
     refine rg y<|u<|fa ti y y y<|u<|ld ti y y<|u<|pc (zb6 v40.C 10 q38) y y y<|u<|fa ti y y y<|u<|sto ti y y y<|za ?_
     obtain ⟨v42,q39,h⟩:=bs h
     refine rl y<|u<|fa ti y y y<|u<|ld ti y y<|u<|ld ti y y<|u<|bl 7 ti y ti y (by decide) (by decide) y y y<|u<|apM 8 ti y ti y y (by decide) ti y y y y (roX (f:=zbL) (z:=[(zbe.mk v40.From v40.To v40.At v41)]) y y) (fun _=>y) y q39<|u<|fa ti y y y<|u<|sto ti y y y<|za ?_
     refine rl y<|u<|mv y<|u<|add ti y y<|u<|asg y<|za ?_
     obtain rfl:=sm h
     exact ⟨_,y,zo [.old 0,.old 1,.old 2,.old 3,.old 4,.old 8]⟩
    ·
     replace h:=bF hc36 h
     refine zD ?_
     obtain rfl:=sm h
     exact ⟨y,_,y,zo [.old 1,.old 2,.old 3,.old 4,.old 5]⟩
   ·
    rintro v43 rfl
    replace h:zjB v1 v2 v3 v4 v15 v32 v43=some r:=h
    unfold zjB at h
    refine zw ?_
    refine rg y<|u<|ld ti y y<|u<|sto ti y y y<|za ?_
    refine zj ?_
    obtain rfl:=sm h
    exact ⟨_,y,zy []⟩
   ·
    rintro r' rfl env st hp
    obtain rfl:=sm h
    exact hp
  ·
   rintro r' rfl env st hp
   obtain rfl:=sm h
   exact hp
 ·
  rintro r' rfl env st hp
  obtain rfl:=sm h
  exact hp
def zmt(v2:T0)(v3:T0)(v4:T1)(v17:List zt)(v28:List zd):Option (T0×T0×T1×(List zt)×(List zd)):=
  some (v2,v3,v4,v17,v28)
def zf8(v1:zb)(v23:List zd)(v24:Int):Option (Sum ((List zd)×Int) (Sum ((List zd)) (T0×T0×T1×(List zt)×(List zd)))):=
  cond ((decide (v24<(length v1.Methods:Int)))&&(decide (v24<10))) ((idx v1.Methods v24).bind fun v25=>(ziV v25).bind fun v26=>(zis 152 v23 [v26]).bind fun v27=>some (.inl (v27,(IntKind.i64.wrap (v24+1))))) (some (.inr (.inl v23)))
def ziZ(v1:zb)(v2:T0)(v3:T0)(v4:T1)(v17:List zt):Option (T0×T0×T1×(List zt)×(List zd)):=
  (zu (fun z=>zf8 v1 z.1 z.2) ([],0)).bind fun o=>zU o (fun b=>zmt v2 v3 v4 v17 b) some
def zga(v1:zb)(v11:List zt)(v12:Int):Option (Sum ((List zt)×Int) (Sum ((List zt)) (T0×T0×T1×(List zt)×(List zd)))):=
  cond ((decide (v12<(length v1.Fields:Int)))&&(decide (v12<10))) ((idx v1.Fields v12).bind fun v13=>(zcQ v13.Name 10).bind fun v14=>(zcQ v13.Type_ 12).bind fun v15=>(zis 40 v11 [(zt.mk v14 v15 v13.Static)]).bind fun v16=>some (.inl (v16,(IntKind.i64.wrap (v12+1))))) (some (.inr (.inl v11)))
def zmS(v1:zb):Option (T0×T0×T1×(List zt)×(List zd)):=
  (zcQ v1.Name 10).bind fun v2=>(zcQ v1.Super 10).bind fun v3=>(zel v1.Impl 6).bind fun v4=>(zu (fun z=>zga v1 z.1 z.2) ([],0)).bind fun o=>zU o (fun b=>ziZ v1 v2 v3 v4 b) some
theorem zs8(v1:zb){r:T0×T0×T1×(List zt)×(List zd)}(h:zmS v1=some r):SC Tryz.prog 67 [.agg (zc v1)] [] (.agg [sA r.1,sA r.2.1,bA v1.Interface,.isl 1 (map zf r.2.2.1),.msl 0 0 (length r.2.2.2.1),.msl 1 0 (length r.2.2.2.2)]) [.many 3 (map zJ r.2.2.2.1),.many 10 (map zh r.2.2.2.2)]:=by
 refine ⟨⟨zhS (sz:=3) (fun _=>y),zhS (sz:=10) (fun _=>y),t⟩,zW Tryz.func67 y kz y ?_⟩
 unfold zmS at h
 refine rg y<|u<|bx 0 6 y y y y<|u<|al 1 ti y<|za ?_
 obtain ⟨v2,q1,h⟩:=bs h
 obtain ⟨v3,q2,h⟩:=bs h
 obtain ⟨v4,q3,h⟩:=bs h
 refine rdA [(1,.mpt 0 0 0),(2,.mpt 1 0 0),(3,.mpt 2 0 0)] [some (6,[(zc v1)]),some (6,[[sA [],sA [],bA false,.lit (.slice none 0 0),.lit (.slice none 0 0),.lit (.slice none 0 0)]]),some (6,[[sA v2,sA v3,bA v1.Interface,.isl 1 (map zf v4),.lit (.slice none 0 0),.lit (.slice none 0 0)]])] [12,13] [11,10,9,8,7,6,5,4,3,2,1,0] [(18,.agg [sA v2,sA v3,bA v1.Interface,.isl 1 (map zf v4),.lit (.slice none 0 0),.lit (.slice none 0 0)]),(17,.isl 1 (map zf v4)),(16,.isl 1 (map zf v1.Impl)),(15,.mpt 0 0 3),(14,bA v1.Interface),(13,.mpt 0 0 2),(12,sA v3),(11,sA v1.Super),(10,.mpt 0 0 1),(9,sA v2),(8,sA v1.Name),(7,.mpt 0 0 0)] 2 (zem ⟨(pb y (bd ti y y y w)),(pb y (pc (zd1 v1.Impl 6 q3) y y y w)),pe,pe,pe,pe,(pb y (pc (zb6 v1.Super 10 q2) y y y w)),pe,pe,(pb y (pc (zb6 v1.Name 10 q1) y y y w)),pe,pe,t⟩ ⟨(fun _ _=>⟨_,y,y,al 2 ti y<|⟨(.mpt 2 0 0),[],[(3,.mpt 2 0 0)],y,y,kz,y,zem ⟨(pb y (bd ti y y y w)),(pb y (pc (zd1 v1.Impl 6 q3) y y y w)),pe,pe,pe,pe,(pb y (pc (zb6 v1.Super 10 q2) y y y w)),pe,pe,(pb y (pc (zb6 v1.Name 10 q1) y y y w)),pe,pe,t⟩ ⟨nv,(fun _ _=>⟨_,y,y,sto ti y y y<|⟨.any,[],[],y,y,kz,t,zhW (zo [.old 0,.old 1,.old 2])⟩⟩),t⟩⟩⟩),nw,t⟩) ?_
 refine zi ?_
 refine rg y<|u<|asg y<|za ?_
 obtain ⟨o,ho,h⟩:=bs h
 refine zX (X:=(List zt)×Int) (B:=(List zt)) (R:=T0×T0×T1×(List zt)×(List zd)) (fun z=>[(1,.mpt 0 0 0),(2,.mpt 1 0 0),(3,.mpt 2 0 0),(4,iA z.2)]) (fun z=>[some (6,[(zc v1)]),some (6,[[sA [],sA [],bA false,.lit (.slice none 0 0),.lit (.slice none 0 0),.lit (.slice none 0 0)]]),some (6,[[sA v2,sA v3,bA v1.Interface,.isl 1 (map zf v4),.msl 3 0 (length z.1),.lit (.slice none 0 0)]]),some (3,map zJ z.1)]) (fun b=>[(1,.mpt 0 0 0),(2,.mpt 1 0 0),(3,.mpt 2 0 0)]) (fun b=>[some (6,[(zc v1)]),some (6,[[sA [],sA [],bA false,.lit (.slice none 0 0),.lit (.slice none 0 0),.lit (.slice none 0 0)]]),some (6,[[sA v2,sA v3,bA v1.Interface,.isl 1 (map zf v4),.msl 3 0 (length b),.lit (.slice none 0 0)]]),some (3,map zJ b)]) (fun r env st=>zaN Tryz.prog Tryz.f67 0 (.agg [sA r.1,sA r.2.1,bA v1.Interface,.isl 1 (map zf r.2.2.1),.msl 0 0 (length r.2.2.2.1),.msl 1 0 (length r.2.2.2.2)]) [some (3,map zJ r.2.2.2.1),some (10,map zh r.2.2.2.2)] env st) ho ⟨[.old 0,.old 1,.old 2,.fresh 3],cv y (.mpt y)<|cv y (.mpt y)<|cv y (.mpt y)<|ce y y<|cn,y,⟨⟨_,y,ziB (ciL y)⟩,⟨_,y,ziB (ciL y)⟩,⟨_,y,ziB ⟨ci y,ci y,ci y,ci y,.nilown y,ci y,t⟩⟩,w,t⟩,y,k⟩ ?_ ?_ ?_
 ·
  rintro ⟨v11,v12⟩ r h
  replace h:zga v1 v11 v12=some r:=h
  unfold zga at h
  refine zi ?_
  refine rg y<|u<|mv y<|u<|fa ti y y y<|u<|ld ti y y<|u<|lnI ti y y<|u<|lss ti y y<|u<|mv y<|z7 (j:=5) 2 y y y y y gpn (fun hb10=>g y hb10<|mv y<|g y hb10<|lss ti y y<|za (egA [25,26] 2 hb10 y y y y)) ze2<|za ?_
  refine ze y (fun hc11=>?_) (fun hc11=>?_)
  ·
   replace h:=bT hc11 h
   refine zg ?_
   refine zi ?_
   refine zr ?_
   obtain ⟨v13,q12,h⟩:=bs h
   refine rg y<|u<|fa ti y y y<|u<|ld ti y y<|u<|mv y<|u<|ixI ti y ti y y y q12<|u<|ldI ti y (zl q12).2.2 y<|u<|al 4 ti y<|u<|sto ti y y y<|za ?_
   obtain ⟨v14,q13,h⟩:=bs h
   obtain ⟨v15,q14,h⟩:=bs h
   obtain ⟨v16,q15,h⟩:=bs h
   refine zjq [(1,.mpt 0 0 0),(2,.mpt 1 0 0),(3,.mpt 2 0 0),(4,iA v12)] [some (6,[(zc v1)]),some (6,[[sA [],sA [],bA false,.lit (.slice none 0 0),.lit (.slice none 0 0),.lit (.slice none 0 0)]]),some (6,[[sA v2,sA v3,bA v1.Interface,.isl 1 (map zf v4),.msl 3 0 (length v16),.lit (.slice none 0 0)]]),some (3,map zJ v16)] [11,12,14] [10,9,8,7,6,5,4,3,2,1,0] [(45,.agg [sA v14,sA v15,bA v13.Static]),(44,bA v13.Static),(43,.mpt 4 0 2),(42,sA v15),(41,sA v13.Type_),(40,.mpt 4 0 1),(39,sA v14),(38,sA v13.Name),(37,.mpt 4 0 0),(36,.msl 3 0 (length v11)),(35,.mpt 2 0 4)] 3 (zem ⟨(pb y (bd ti y y y w)),pe,pe,(pb y (pc (zb6 v13.Type_ 12 q14) y y y w)),pe,pe,(pb y (pc (zb6 v13.Name 10 q13) y y y w)),pe,pe,pe,pe,t⟩ ⟨(fun _ _=>⟨_,y,y,bl 5 ti y ti y (by decide) (by decide) y y y<|⟨(.msl 5 0 1),[],[(46,.msl 5 0 1)],y,y,kz,y,zem ⟨pe,pe,pe,(pb y (pc (zb6 v13.Type_ 12 q14) y y y w)),pe,pe,(pb y (pc (zb6 v13.Name 10 q13) y y y w)),pe,pe,pe,pe,t⟩ ⟨nv,(fun _ _=>⟨_,y,y,apM 6 ti y ti y y (by decide) ti y y y y (roX (f:=zJ) (z:=[(zt.mk v14 v15 v13.Static)]) y y) (fun _=>y) y q15<|⟨(.msl 6 0 (length v16)),[13],[(48,.mpt 2 0 4),(47,.msl 6 0 (length v16))],y,y,kz,y,zem ⟨pe,pe,pe,pe,pe,pe,pe,(pb y (pc (zb6 v13.Name 10 q13) y y y w)),pe,pe,pe,pe,t⟩ ⟨nv,nv,(fun _ _=>⟨_,y,y,sto ti y y y<|⟨.any,[],[],y,y,kz,t,zhW (zo [.old 0,.old 1,.old 2,.old 6])⟩⟩),t⟩⟩⟩),nw,t⟩⟩⟩),nw,nw,t⟩) ?_
   refine rl y<|u<|mv y<|u<|add ti y y<|u<|asg y<|za ?_
   obtain rfl:=sm h
   exact ⟨_,y,zo [.old 0,.old 1,.old 2,.old 3]⟩
  ·
   replace h:=bF hc11 h
   refine zD ?_
   obtain rfl:=sm h
   exact ⟨y,_,y,zo [.old 0,.old 1,.old 2,.old 3]⟩
 ·
  rintro v17 rfl
  replace h:ziZ v1 v2 v3 v4 v17=some r:=h
  unfold ziZ at h
  refine zw ?_
  refine zi ?_
  refine rg y<|u<|asg y<|za ?_
  obtain ⟨o,ho,h⟩:=bs h
  refine zX (X:=(List zd)×Int) (B:=(List zd)) (R:=T0×T0×T1×(List zt)×(List zd)) (fun z=>[(1,.mpt 0 0 0),(2,.mpt 1 0 0),(3,.mpt 2 0 0),(6,iA z.2)]) (fun z=>[some (6,[(zc v1)]),some (6,[[sA [],sA [],bA false,.lit (.slice none 0 0),.lit (.slice none 0 0),.lit (.slice none 0 0)]]),some (6,[[sA v2,sA v3,bA v1.Interface,.isl 1 (map zf v4),.msl 3 0 (length v17),.msl 4 0 (length z.1)]]),some (3,map zJ v17),some (10,map zh z.1)]) (fun b=>[(2,.mpt 0 0 0),(3,.mpt 1 0 0)]) (fun b=>[some (6,[[sA [],sA [],bA false,.lit (.slice none 0 0),.lit (.slice none 0 0),.lit (.slice none 0 0)]]),some (6,[[sA v2,sA v3,bA v1.Interface,.isl 1 (map zf v4),.msl 2 0 (length v17),.msl 3 0 (length b)]]),some (3,map zJ v17),some (10,map zh b)]) (fun r env st=>zaN Tryz.prog Tryz.f67 0 (.agg [sA r.1,sA r.2.1,bA v1.Interface,.isl 1 (map zf r.2.2.1),.msl 0 0 (length r.2.2.2.1),.msl 1 0 (length r.2.2.2.2)]) [some (3,map zJ r.2.2.2.1),some (10,map zh r.2.2.2.2)] env st) ho ⟨[.old 0,.old 1,.old 2,.old 3,.fresh 10],cv y (.mpt y)<|cv y (.mpt y)<|cv y (.mpt y)<|ce y y<|cn,y,⟨⟨_,y,ziB (ciL y)⟩,⟨_,y,ziB (ciL y)⟩,⟨_,y,ziB ⟨ci y,ci y,ci y,ci y,.msl y,.nilown y,t⟩⟩,⟨_,y,zjN (fun _=>y)⟩,w,t⟩,y,k⟩ ?_ ?_ ?_
  ·
   rintro ⟨v23,v24⟩ r h
   replace h:zf8 v1 v23 v24=some r:=h
   unfold zf8 at h
   refine zi ?_
   refine rg y<|u<|mv y<|u<|fa ti y y y<|u<|ld ti y y<|u<|lnI ti y y<|u<|lss ti y y<|u<|mv y<|z7 (j:=5) 2 y y y y y gpn (fun hb21=>g y hb21<|mv y<|g y hb21<|lss ti y y<|za (egA [55,56] 2 hb21 y y y y)) ze2<|za ?_
   refine ze y (fun hc22=>?_) (fun hc22=>?_)
   ·
    replace h:=bT hc22 h
    refine zg ?_
    refine zi ?_
    refine zr ?_
    obtain ⟨v25,q23,h⟩:=bs h
    obtain ⟨v26,q24,h⟩:=bs h
    obtain ⟨v27,q25,h⟩:=bs h
    refine zjq [(1,.mpt 0 0 0),(2,.mpt 1 0 0),(3,.mpt 2 0 0),(6,iA v24)] [some (6,[(zc v1)]),some (6,[[sA [],sA [],bA false,.lit (.slice none 0 0),.lit (.slice none 0 0),.lit (.slice none 0 0)]]),some (6,[[sA v2,sA v3,bA v1.Interface,.isl 1 (map zf v4),.msl 3 0 (length v17),.msl 4 0 (length v27)]]),some (3,map zJ v17),some (10,map zh v27)] [8,9,11] [7,6,5,4,3,2,1,0] [(67,.agg (zh v26)),(66,.agg (zh v25)),(65,.ipt 10 (map zh v1.Methods) (Int.toNat v24) 0),(64,iA v24),(63,.isl 10 (map zh v1.Methods)),(62,.mpt 0 0 5),(61,.msl 4 0 (length v23)),(60,.mpt 2 0 5)] 3 (zem ⟨(pb y (pc (zp1 v25 q24) y y y w)),(pb y (ldI ti y (zl q23).2.2 y w)),(pb y (ixI ti y ti y y y q23 w)),pe,pe,pe,pe,pe,t⟩ ⟨(fun _ _=>⟨_,y,y,bl 5 ti y ti y (by decide) (by decide) y y y<|⟨(.msl 5 0 1),[],[(68,.msl 5 0 1)],y,y,kz,y,zem ⟨pe,(pb y (ldI ti y (zl q23).2.2 y w)),(pb y (ixI ti y ti y y y q23 w)),pe,pe,pe,pe,pe,t⟩ ⟨nv,(fun _ _=>⟨_,y,y,apM 6 ti y ti y y (by decide) ti y y y y (roX (f:=zh) (z:=[v26]) y y) (fun _=>y) y q25<|⟨(.msl 6 0 (length v27)),[10],[(70,.mpt 2 0 5),(69,.msl 6 0 (length v27))],y,y,kz,y,zem ⟨pe,pe,(pb y (ldI ti y (zl q23).2.2 y w)),(pb y (ixI ti y ti y y y q23 w)),pe,pe,pe,pe,pe,t⟩ ⟨nv,nv,(fun _ _=>⟨_,y,y,sto ti y y y<|⟨.any,[],[],y,y,kz,t,zhW (zo [.old 0,.old 1,.old 2,.old 3,.old 6])⟩⟩),t⟩⟩⟩),nw,t⟩⟩⟩),nw,nw,t⟩) ?_
    refine rl y<|u<|mv y<|u<|add ti y y<|u<|asg y<|za ?_
    obtain rfl:=sm h
    exact ⟨_,y,zo [.old 0,.old 1,.old 2,.old 3,.old 4]⟩
   ·
    replace h:=bF hc22 h
    refine zD ?_
    obtain rfl:=sm h
    exact ⟨y,_,y,zo [.old 1,.old 2,.old 3,.old 4]⟩
  ·
   rintro v28 rfl
   replace h:zmt v2 v3 v4 v17 v28=some r:=h
   unfold zmt at h
   refine zw ?_
   refine rg y<|u<|ld ti y y<|u<|sto ti y y y<|za ?_
   refine zj ?_
   obtain rfl:=sm h
   exact ⟨_,y,zy [.old 2,.old 3]⟩
  ·
   rintro r' rfl env st hp
   obtain rfl:=sm h
   exact hp
 ·
  rintro r' rfl env st hp
  obtain rfl:=sm h
  exact hp
def zmC(v12:List zb):Option ((List zb)):=
  some v12
def zfU(v1:List zb)(v7:List zb)(v8:Int):Option (Sum ((List zb)×Int) (Sum ((List zb)) ((List zb)))):=
  cond ((decide (v8<(length v1:Int)))&&(decide (v8<18))) ((idx v1 v8).bind fun v9=>(zmS v9).bind fun v10=>(zis 112 v7 [(zb.mk v10.1 v10.2.1 v9.Interface v10.2.2.1 v10.2.2.2.1 v10.2.2.2.2)]).bind fun v11=>some (.inl (v11,(IntKind.i64.wrap (v8+1))))) (some (.inr (.inl v7)))
def zmY(v1:List zb):Option ((List zb)):=
  (zu (fun z=>zfU v1 z.1 z.2) ([],0)).bind fun o=>zU o (fun b=>zmC b) some
theorem ztc(v1:List zb){r:(List zb)}(h:zmY v1=some r):SC Tryz.prog 27 [.isl 6 (map zc v1)] [] (.msl 0 0 (length r)) [.many 6 (map zc r)]:=by
 refine ⟨⟨zhS (sz:=6) (fun _=>y),t⟩,zW Tryz.func27 y kz y ?_⟩
 unfold zmY at h
 refine rg y<|u<|asg y<|za ?_
 refine rg y<|u<|asg y<|za ?_
 refine zi ?_
 refine rg y<|u<|asg y<|za ?_
 obtain ⟨o,ho,h⟩:=bs h
 refine zX (X:=(List zb)×Int) (B:=(List zb)) (R:=(List zb)) (fun z=>[(0,.isl 6 (map zc v1)),(3,.msl 0 0 (length z.1)),(4,iA z.2)]) (fun z=>[some (6,map zc z.1)]) (fun b=>[(3,.msl 0 0 (length b))]) (fun b=>[some (6,map zc b)]) (fun r env st=>zaN Tryz.prog Tryz.f27 0 (.msl 0 0 (length r)) [some (6,map zc r)] env st) ho ⟨[.fresh 6],ce y y<|cv y (.nilown y)<|ce y y<|cn,y,⟨w,t⟩,y,k⟩ ?_ ?_ ?_
 ·
  rintro ⟨v7,v8⟩ r h
  replace h:zfU v1 v7 v8=some r:=h
  unfold zfU at h
  refine zi ?_
  refine rg y<|u<|mv y<|u<|mv y<|u<|lnI ti y y<|u<|lss ti y y<|u<|mv y<|z7 (j:=4) 2 y y y y y gpn (fun hb6=>g y hb6<|mv y<|g y hb6<|lss ti y y<|za (egA [10,11] 2 hb6 y y y y)) ze2<|za ?_
  refine ze y (fun hc7=>?_) (fun hc7=>?_)
  ·
   replace h:=bT hc7 h
   refine zg ?_
   refine zi ?_
   refine zr ?_
   obtain ⟨v9,q8,h⟩:=bs h
   obtain ⟨v10,q9,h⟩:=bs h
   obtain ⟨v11,q10,h⟩:=bs h
   refine rl y<|u<|mv y<|u<|mv y<|u<|mv y<|u<|ixI ti y ti y y y q8<|u<|ldI ti y (zl q8).2.2 y<|u<|sx [] (zs8 v9 q9)<|zx (env0:=[(0,.isl 6 (map zc v1)),(4,iA v8),(15,.msl 0 0 (length v7)),(20,.agg [sA v10.1,sA v10.2.1,bA v9.Interface,.isl 1 (map zf v10.2.2.1),.msl 1 0 (length v10.2.2.2.1),.msl 2 0 (length v10.2.2.2.2)])]) (st0:=[some (6,map zc v7),some (3,map zJ v10.2.2.2.1),some (10,map zh v10.2.2.2.2)]) (zo [.old 0,.old 1,.old 2])<|u<|bl 3 ti y ti y (by decide) (by decide) y y y<|zx (env0:=[(0,.isl 6 (map zc v1)),(4,iA v8),(15,.msl 0 0 (length v7)),(21,.msl 1 0 (length [(zb.mk v10.1 v10.2.1 v9.Interface v10.2.2.1 v10.2.2.2.1 v10.2.2.2.2)]))]) (st0:=[some (6,map zc v7),some (6,map zc [(zb.mk v10.1 v10.2.1 v9.Interface v10.2.2.1 v10.2.2.2.1 v10.2.2.2.2)])]) (zo [.old 0,.old 3])<|u<|apM 2 ti y ti y y (by decide) ti y y y y (roM y) (fun _=>y) y q10<|u<|asg y<|za ?_
   refine rl y<|u<|mv y<|u<|add ti y y<|u<|asg y<|za ?_
   obtain rfl:=sm h
   exact ⟨_,y,zo [.old 2]⟩
  ·
   replace h:=bF hc7 h
   refine zD ?_
   obtain rfl:=sm h
   exact ⟨y,_,y,zo [.old 0]⟩
 ·
  rintro v12 rfl
  replace h:zmC v12=some r:=h
  unfold zmC at h
  refine zw ?_
  refine rg y<|u<|mv y<|u<|asg y<|za ?_
  refine zj ?_
  obtain rfl:=sm h
  exact ⟨_,y,zy [.old 0]⟩
 ·
  rintro r' rfl env st hp
  obtain rfl:=sm h
  exact hp
def zdM:T1:=
  ([[79,98,106,101,99,116],[84,104,114,111,119,110],[78,117,108,108,69,114,114],[82,97,110,103,101,69,114,114],[77,97,116,104,69,114,114],[67,97,115,116,69,114,114],[83,105,122,101,69,114,114],[83,116,111,114,101,69,114,114],[73,110,105,116,69,114,114],[67,108,97,115,115,69,114,114]])
theorem zq7{r:T1}(h:zdM=r):SC Tryz.prog 116 [] [] (.msl 0 0 (length r)) [.many 1 (map zf r)]:=by
 refine ⟨⟨zhS (sz:=1) (fun _=>y),t⟩,zW Tryz.func116 y kz y ?_⟩
 unfold zdM at h
 refine rg y<|u<|asg y<|za ?_
 refine rg y<|u<|bl 0 ti y ti y (by decide) (by decide) y y y<|u<|asg y<|za ?_
 refine zj ?_
 obtain rfl:=h
 exact ⟨_,y,zy [.old 0]⟩
def zcw:T1:=
  ([[79,98,106,101,99,116],[84,104,114,111,119,110],[78,117,108,108,69,114,114],[82,97,110,103,101,69,114,114],[77,97,116,104,69,114,114],[67,97,115,116,69,114,114],[83,105,122,101,69,114,114],[83,116,111,114,101,69,114,114],[73,110,105,116,69,114,114],[67,108,97,115,115,69,114,114]])
theorem zrD{r:T1}(h:zcw=r):SC Tryz.prog 62 [] [] (.msl 0 0 (length r)) [.many 1 (map zf r)]:=by
 refine ⟨⟨zhS (sz:=1) (fun _=>y),t⟩,zW Tryz.func62 y kz y ?_⟩
 unfold zcw at h
 refine rg y<|u<|asg y<|za ?_
 refine rg y<|u<|bl 0 ti y ti y (by decide) (by decide) y y y<|u<|asg y<|za ?_
 refine zj ?_
 obtain rfl:=h
 exact ⟨_,y,zy [.old 0]⟩
def zkh(v12:List zb):Option ((List zb)):=
  some v12
def zhP(v6:List zb)(v7:Int)(v8:T0)(v10:T0):Option (Sum ((List zb)×Int) (Sum ((List zb)) ((List zb)))):=
  (zis 112 v6 ([(zb.mk v8 v10 false [] [] [])])).bind fun v11=>some (.inl (v11,(IntKind.i64.wrap (v7+1))))
def zkk(v6:List zb)(v7:Int):Option (Sum ((List zb)×Int) (Sum ((List zb)) ((List zb)))):=
  cond (decide (v7<((length (zcw)):Int))) ((idx (zcw) v7).bind fun v8=>cond (decide (v7<2)) ((idx ([[],[79,98,106,101,99,116]]) v7).bind fun v9=>zhP v6 v7 v8 v9) (zhP v6 v7 v8 [84,104,114,111,119,110])) (some (.inr (.inl v6)))
def zlX:Option ((List zb)):=
  (zu (fun z=>zkk z.1 z.2) ([],0)).bind fun o=>zU o (fun b=>zkh b) some
theorem zrs{r:(List zb)}(h:zlX=some r):SC Tryz.prog 54 [] [] (.msl 0 0 (length r)) [.many 6 (map zc r)]:=by
 refine ⟨⟨zhS (sz:=6) (fun _=>y),t⟩,zW Tryz.func54 y kz y ?_⟩
 unfold zlX at h
 refine rg y<|u<|asg y<|za ?_
 refine rg y<|u<|asg y<|za ?_
 refine zi ?_
 refine rg y<|u<|sx [] (zrD y)<|zx (env0:=[(1,.lit (.slice none 0 0)),(5,.msl 0 0 (length (zcw)))]) (st0:=[some (1,map zf (zcw))]) (zo [.old 0])<|u<|lnM ti y y y<|u<|mv y<|za ?_
 obtain ⟨o,ho,h⟩:=bs h
 refine zX (X:=(List zb)×Int) (B:=(List zb)) (R:=(List zb)) (fun z=>[(1,.msl 0 0 (length z.1)),(5,.msl 1 0 (length (zcw))),(6,iA ((length (zcw)):Int)),(7,iA z.2)]) (fun z=>[some (6,map zc z.1),some (1,map zf (zcw))]) (fun b=>[(1,.msl 0 0 (length b))]) (fun b=>[some (6,map zc b)]) (fun r env st=>zaN Tryz.prog Tryz.f54 0 (.msl 0 0 (length r)) [some (6,map zc r)] env st) ho ⟨[.fresh 6,.old 0],cv y (.nilown y)<|cv y (.msl y)<|ce y y<|ce y y<|cn,y,⟨w,⟨_,y,zjN (fun _=>y)⟩,t⟩,y,k⟩ ?_ ?_ ?_
 ·
  rintro ⟨v6,v7⟩ r h
  replace h:zkk v6 v7=some r:=h
  unfold zkk at h
  refine rg y<|u<|lss ti y y<|za ?_
  refine zi ?_
  refine ze y (fun hc5=>?_) (fun hc5=>?_)
  ·
   replace h:=bT hc5 h
   refine zg ?_
   refine zi ?_
   refine zr ?_
   obtain ⟨v8,q6,h⟩:=bs h
   refine rg y<|u<|mv y<|u<|ixM ti y ti y y y y q6<|u<|ldM ti y y (zl q6).2.2 y<|u<|asg y<|u<|asg y<|za ?_
   refine rg y<|u<|mv y<|u<|bd ti y y y<|u<|al 2 ti y<|u<|sto ti y y y<|za ?_
   refine za6 (X:=T0) (fun z=>[(1,.msl 0 0 (length v6)),(4,.mpt 1 0 0),(5,.msl 2 0 (length (zcw))),(6,iA ((length (zcw)):Int)),(7,iA v7)]) (fun z=>[some (6,map zc v6),some (6,[[sA v8,sA z,bA false,.lit (.slice none 0 0),.lit (.slice none 0 0),.lit (.slice none 0 0)]]),some (1,map zf (zcw))]) (fun z=>zhP v6 v7 v8 z=some r) ?_ ?_
   ·
    refine rg y<|u<|mv y<|u<|lss ti y y<|za ?_
    refine ze y (fun hc7=>?_) (fun hc7=>?_)
    ·
     replace h:=bT hc7 h
     obtain ⟨v9,q8,h⟩:=bs h
     exact rl y<|u<|bl 3 ti y ti y (by decide) (by decide) y y y<|u<|mv y<|zx (env0:=[(1,.msl 0 0 (length v6)),(4,.mpt 1 0 0),(5,.msl 2 0 (length (zcw))),(6,iA ((length (zcw)):Int)),(7,iA v7),(16,.msl 3 0 (length ([[],[79,98,106,101,99,116]]))),(17,iA v7)]) (st0:=[some (6,map zc v6),some (6,[[sA v8,sA [84,104,114,111,119,110],bA false,.lit (.slice none 0 0),.lit (.slice none 0 0),.lit (.slice none 0 0)]]),some (1,map zf (zcw)),some (1,map zf ([[],[79,98,106,101,99,116]]))]) (zo [.old 0,.old 2,.old 1,.old 3])<|u<|ixM ti y ti y y y y q8<|u<|ldM ti y y (zl q8).2.2 y<|u<|fa ti y y y<|u<|sto ti y y y<|za (⟨v9,h,zo [.old 0,.old 1,.old 2]⟩)
    ·
     replace h:=bF hc7 h
     refine zg ?_
     exact ⟨[84,104,114,111,119,110],h,zo [.old 0,.old 2,.old 1]⟩
   ·
    rintro v10 h
    replace h:zhP v6 v7 v8 v10=some r:=h
    unfold zhP at h
    obtain ⟨v11,q9,h⟩:=bs h
    refine rl y<|u<|mv y<|u<|ld ti y y<|u<|bl 3 ti y ti y (by decide) (by decide) y y y<|zx (env0:=[(5,.msl 0 0 (length (zcw))),(6,iA ((length (zcw)):Int)),(7,iA v7),(21,.msl 1 0 (length v6)),(23,.msl 2 0 (length ([(zb.mk v8 v10 false [] [] [])])))]) (st0:=[some (1,map zf (zcw)),some (6,map zc v6),some (6,map zc ([(zb.mk v8 v10 false [] [] [])]))]) (zo [.old 2,.old 0,.old 3])<|u<|apM 3 ti y ti y y (by decide) ti y y y y (roM y) (fun _=>y) y q9<|u<|asg y<|za ?_
    refine rl y<|u<|add ti y y<|u<|mv y<|za ?_
    obtain rfl:=sm h
    exact ⟨_,y,zo [.old 3,.old 0]⟩
  ·
   replace h:=bF hc5 h
   refine zD ?_
   obtain rfl:=sm h
   exact ⟨y,_,y,zo [.old 0]⟩
 ·
  rintro v12 rfl
  replace h:zkh v12=some r:=h
  unfold zkh at h
  refine zw ?_
  refine rg y<|u<|mv y<|u<|asg y<|za ?_
  refine zj ?_
  obtain rfl:=sm h
  exact ⟨_,y,zy [.old 0]⟩
 ·
  rintro r' rfl env st hp
  obtain rfl:=sm h
  exact hp
def zh5(v1:zb):Option (T1):=
  (zis 16 [v1.Super] v1.Impl).bind fun v2=>some v2
theorem zkC(v1:zb){r:T1}(h:zh5 v1=some r):SC Tryz.prog 57 [.agg (zc v1)] [] (.msl 0 0 (length r)) [.many 1 (map zf r)]:=by
 refine ⟨⟨zhS (sz:=1) (fun _=>y),t⟩,zW Tryz.func57 y kz y ?_⟩
 unfold zh5 at h
 refine rg y<|u<|bx 0 6 y y y y<|u<|asg y<|za ?_
 obtain ⟨v2,q1,h⟩:=bs h
 refine rg y<|u<|fa ti y y y<|u<|ld ti y y<|u<|bl 1 ti y ti y (by decide) (by decide) y y y<|u<|fa ti y y y<|u<|ld ti y y<|u<|apM (l:=[v1.Super]) (f:=zf) 2 ti y ti y y (by decide) ti y y y y roI (fun _=>y) y q1<|u<|asg y<|za ?_
 refine zj ?_
 obtain rfl:=sm h
 exact ⟨_,y,zy [.old 2]⟩
def zbQ(v1:List zb)(v2:T2)(v3:T0):Bool:=
  (Option.isSome (zcC v3 v2))
theorem zfo(v1:List zb)(v2:T2)(v3:T0){r:Bool}(h:zbQ v1 v2 v3=r):zI Tryz.prog 59 [.ipt 2 [[.isl 6 (map zc v1),.imp (map (rKV (fun x=>iA x)) v2)]] 0 0,sA v3] (bA r):=by
 refine zq Tryz.func59 y kz y y ?_
 unfold zbQ at h
 refine rg y<|u<|asg y<|za ?_
 refine zi ?_
 refine rg y<|u<|mv y<|u<|eqp ti y y y y y y<|za ?_
 refine ze y (fun hx=>by cases hx) (fun _=>?_)
 refine zg ?_
 refine rg y<|u<|mv y<|u<|nc y y<|u<|fa ti y y y<|u<|ld ti y y<|u<|mv y<|u<|zCE (g:=(fun x=>iA x)) (z:=0) (l:=v2) y ti y y y y<|u<|mv y<|u<|ex y y<|u<|ex y y<|u<|asg y<|u<|asg y<|za ?_
 refine rg y<|u<|mv y<|u<|asg y<|za ?_
 refine zj ?_
 obtain rfl:=h
 exact ⟨_,y,zy []⟩
def zlY(v1:T0)(v2:List zb)(v3:T2):Bool:=
  (!(zbQ v2 v3 v1))
theorem zrw(v1:T0)(v2:List zb)(v3:T2){r:Bool}(h:zlY v1 v2 v3=r):zI Tryz.prog 58 [sA v1,.ipt 1 [[.ipt 2 [[.isl 6 (map zc v2),.imp (map (rKV (fun x=>iA x)) v3)]] 0 0]] 0 0] (bA r):=by
 refine zq Tryz.func58 y kz y y ?_
 unfold zlY at h
 refine rg y<|u<|asg y<|za ?_
 refine rg y<|u<|ld ti y y<|u<|mv y<|u<|pc (zfo v2 v3 v1 y) y y y<|u<|nt y<|u<|asg y<|za ?_
 refine zj ?_
 obtain rfl:=h
 exact ⟨_,y,zy []⟩
def zbk:Option (Int):=
  some (-1)
def zan(v1:T1)(v2:List zb)(v3:T2)(v6:Int):Option (Sum (Int) (Sum (Unit) (Int))):=
  cond (decide (v6<(length v1:Int))) ((idx v1 v6).bind fun v7=>cond (zlY v7 v2 v3) (some (.inr (.inr v6))) (some (.inl (IntKind.i64.wrap (v6+1))))) (some (.inr (.inl ())))
def zbZ(v1:T1)(v2:List zb)(v3:T2):Option (Int):=
  (zu (fun z=>zan v1 v2 v3 z) 0).bind fun o=>zU o (fun b=>zbk) some
theorem zgT(v1:T1)(v2:List zb)(v3:T2){r:Int}(h:zbZ v1 v2 v3=some r):zI Tryz.prog 110 [.isl 1 (map zf v1),.fn (.func 58) [] [.ipt 1 [[.ipt 2 [[.isl 6 (map zc v2),.imp (map (rKV (fun x=>iA x)) v3)]] 0 0]] 0 0]] (iA r):=by
 refine zq Tryz.func110 y kz y y ?_
 unfold zbZ at h
 refine rg y<|u<|asg y<|za ?_
 refine zi ?_
 refine rg y<|u<|mv y<|u<|lnI ti y y<|u<|mv y<|za ?_
 obtain ⟨o,ho,h⟩:=bs h
 refine zX (X:=Int) (B:=Unit) (R:=Int) (fun z=>[(0,.isl 1 (map zf v1)),(1,.fn (.func 58) [] [.ipt 1 [[.ipt 2 [[.isl 6 (map zc v2),.imp (map (rKV (fun x=>iA x)) v3)]] 0 0]] 0 0]),(7,iA (length v1:Int)),(8,iA z)]) (fun z=>[]) (fun b=>[]) (fun b=>[]) (fun r env st=>zaN Tryz.prog Tryz.f110 0 (iA r) [] env st) ho (zo []) ?_ ?_ ?_
 ·
  rintro v6 r h
  replace h:zan v1 v2 v3 v6=some r:=h
  unfold zan at h
  refine rg y<|u<|lss ti y y<|za ?_
  refine zi ?_
  refine ze y (fun hc4=>?_) (fun hc4=>?_)
  ·
   replace h:=bT hc4 h
   refine zg ?_
   refine zi ?_
   refine zr ?_
   refine rg y<|u<|mv y<|u<|asg y<|za ?_
   obtain ⟨v7,q5,h⟩:=bs h
   refine rg y<|u<|mv y<|u<|mv y<|u<|mv y<|u<|ixI ti y ti y y y q5<|u<|ldI ti y (zl q5).2.2 y<|u<|pc (zrw v7 v2 v3 y) y y y<|za ?_
   refine ze y (fun hc6=>?_) (fun hc6=>?_)
   ·
    replace h:=bT hc6 h
    refine rg y<|u<|mv y<|u<|asg y<|za ?_
    refine zj ?_
    obtain rfl:=sm h
    exact ⟨_,y,_,y,zy []⟩
   ·
    replace h:=bF hc6 h
    refine zg ?_
    refine rl y<|u<|add ti y y<|u<|mv y<|za ?_
    obtain rfl:=sm h
    exact ⟨_,y,zo []⟩
  ·
   replace h:=bF hc4 h
   refine zD ?_
   obtain rfl:=sm h
   exact ⟨y,_,y,zo []⟩
 ·
  rintro ⟨⟩ rfl
  replace h:zbk=some r:=h
  unfold zbk at h
  refine zw ?_
  refine rg y<|u<|asg y<|za ?_
  refine zj ?_
  obtain rfl:=sm h
  exact ⟨_,y,zy []⟩
 ·
  rintro r' rfl env st hp
  obtain rfl:=sm h
  exact hp
def zaI(v1:T1)(v2:List zb)(v3:T2):Option (Bool):=
  (zbZ v1 v2 v3).bind fun v4=>some (decide (0≤v4))
theorem zgf(v1:T1)(v2:List zb)(v3:T2){r:Bool}(h:zaI v1 v2 v3=some r):zI Tryz.prog 56 [.isl 1 (map zf v1),.fn (.func 58) [] [.ipt 1 [[.ipt 2 [[.isl 6 (map zc v2),.imp (map (rKV (fun x=>iA x)) v3)]] 0 0]] 0 0]] (bA r):=by
 refine zq Tryz.func56 y kz y y ?_
 unfold zaI at h
 refine rg y<|u<|asg y<|za ?_
 obtain ⟨v4,q1,h⟩:=bs h
 refine rg y<|u<|mv y<|u<|mv y<|u<|pc (zgT v1 v2 v3 q1) y y y<|u<|geq ti y y<|u<|asg y<|za ?_
 refine zj ?_
 obtain rfl:=sm h
 exact ⟨_,y,zy []⟩
def zc0(v1:List zb)(v2:T2)(v3:T0):Option (zb):=
  (idx v1 (Option.getD (zcC v3 v2) 0)).bind fun v4=>some v4
theorem zej(v1:List zb)(v2:T2)(v3:T0){r:zb}(h:zc0 v1 v2 v3=some r):zI Tryz.prog 111 [.ipt 2 [[.isl 6 (map zc v1),.imp (map (rKV (fun x=>iA x)) v2)]] 0 0,sA v3] (.agg (zc r)):=by
 refine zq Tryz.func111 y kz y y ?_
 unfold zc0 at h
 refine rg y<|u<|al 0 ti y<|za ?_
 obtain ⟨v4,q1,h⟩:=bs h
 refine rdA [(4,.mpt 0 0 0)] [some (6,[(zc v4)])] [12] [11,10,9,8,7,6,5,4,3,2,1,0] [(16,.agg (zc v4)),(15,.ipt 6 (map zc v1) (Int.toNat (Option.getD (zcC v3 v2) 0)) 0),(14,iA (Option.getD (zcC v3 v2) 0)),(13,sA v3),(12,.imp (map (rKV (fun x=>iA x)) v2)),(11,.ipt 2 [[.isl 6 (map zc v1),.imp (map (rKV (fun x=>iA x)) v2)]] 0 1),(10,.ipt 2 [[.isl 6 (map zc v1),.imp (map (rKV (fun x=>iA x)) v2)]] 0 0),(9,.ipt 2 [[.isl 6 (map zc v1),.imp (map (rKV (fun x=>iA x)) v2)]] 0 0),(8,.isl 6 (map zc v1)),(7,.ipt 2 [[.isl 6 (map zc v1),.imp (map (rKV (fun x=>iA x)) v2)]] 0 0),(6,.ipt 2 [[.isl 6 (map zc v1),.imp (map (rKV (fun x=>iA x)) v2)]] 0 0),(5,.ipt 2 [[.isl 6 (map zc v1),.imp (map (rKV (fun x=>iA x)) v2)]] 0 0)] 1 (zem ⟨(pb y (ldI ti y (zl q1).2.2 y w)),(pb y (ixI ti y ti y y y q1 w)),(pb y (zCQ (g:=(fun x=>iA x)) (z:=0) (l:=v2) y ti y y y y w)),pe,pe,pe,pe,pe,pe,pe,pe,pe,t⟩ ⟨(fun _ _=>⟨_,y,y,sto ti y y y<|⟨.any,[],[],y,y,kz,t,zhW (zo [.old 0])⟩⟩),t⟩) ?_
 refine zj ?_
 obtain rfl:=sm h
 exact ⟨_,y,zy []⟩
def zgZ(v1:T0)(v2:List zb)(v3:T2):Option (Bool):=
  (zc0 v2 v3 v1).bind fun v4=>some (!v4.Interface)
theorem zmu(v1:T0)(v2:List zb)(v3:T2){r:Bool}(h:zgZ v1 v2 v3=some r):zI Tryz.prog 112 [sA v1,.ipt 1 [[.ipt 2 [[.isl 6 (map zc v2),.imp (map (rKV (fun x=>iA x)) v3)]] 0 0]] 0 0] (bA r):=by
 refine zq Tryz.func112 y kz y y ?_
 unfold zgZ at h
 refine rg y<|u<|asg y<|za ?_
 obtain ⟨v4,q1,h⟩:=bs h
 refine rg y<|u<|ld ti y y<|u<|mv y<|u<|pc (zej v2 v3 v1 q1) y y y<|u<|fdV y y<|u<|nt y<|u<|asg y<|za ?_
 refine zj ?_
 obtain rfl:=sm h
 exact ⟨_,y,zy []⟩
def zbq:Option (Int):=
  some (-1)
def zal(v1:T1)(v2:List zb)(v3:T2)(v7:Int):Option (Sum (Int) (Sum (Unit) (Int))):=
  cond (decide (v7<(length v1:Int))) ((idx v1 v7).bind fun v8=>(zgZ v8 v2 v3).bind fun v9=>cond v9 (some (.inr (.inr v7))) (some (.inl (IntKind.i64.wrap (v7+1))))) (some (.inr (.inl ())))
def zbW(v1:T1)(v2:List zb)(v3:T2):Option (Int):=
  (zu (fun z=>zal v1 v2 v3 z) 0).bind fun o=>zU o (fun b=>zbq) some
theorem zgU(v1:T1)(v2:List zb)(v3:T2){r:Int}(h:zbW v1 v2 v3=some r):zI Tryz.prog 110 [.isl 1 (map zf v1),.fn (.func 112) [] [.ipt 1 [[.ipt 2 [[.isl 6 (map zc v2),.imp (map (rKV (fun x=>iA x)) v3)]] 0 0]] 0 0]] (iA r):=by
 refine zq Tryz.func110 y kz y y ?_
 unfold zbW at h
 refine rg y<|u<|asg y<|za ?_
 refine zi ?_
 refine rg y<|u<|mv y<|u<|lnI ti y y<|u<|mv y<|za ?_
 obtain ⟨o,ho,h⟩:=bs h
 refine zX (X:=Int) (B:=Unit) (R:=Int) (fun z=>[(0,.isl 1 (map zf v1)),(1,.fn (.func 112) [] [.ipt 1 [[.ipt 2 [[.isl 6 (map zc v2),.imp (map (rKV (fun x=>iA x)) v3)]] 0 0]] 0 0]),(7,iA (length v1:Int)),(8,iA z)]) (fun z=>[]) (fun b=>[]) (fun b=>[]) (fun r env st=>zaN Tryz.prog Tryz.f110 0 (iA r) [] env st) ho (zo []) ?_ ?_ ?_
 ·
  rintro v7 r h
  replace h:zal v1 v2 v3 v7=some r:=h
  unfold zal at h
  refine rg y<|u<|lss ti y y<|za ?_
  refine zi ?_
  refine ze y (fun hc5=>?_) (fun hc5=>?_)
  ·
   replace h:=bT hc5 h
   refine zg ?_
   refine zi ?_
   refine zr ?_
   refine rg y<|u<|mv y<|u<|asg y<|za ?_
   obtain ⟨v8,q6,h⟩:=bs h
   obtain ⟨v9,q7,h⟩:=bs h
   refine rg y<|u<|mv y<|u<|mv y<|u<|mv y<|u<|ixI ti y ti y y y q6<|u<|ldI ti y (zl q6).2.2 y<|u<|pc (zmu v8 v2 v3 q7) y y y<|za ?_
   refine ze y (fun hc8=>?_) (fun hc8=>?_)
   ·
    replace h:=bT hc8 h
    refine rg y<|u<|mv y<|u<|asg y<|za ?_
    refine zj ?_
    obtain rfl:=sm h
    exact ⟨_,y,_,y,zy []⟩
   ·
    replace h:=bF hc8 h
    refine zg ?_
    refine rl y<|u<|add ti y y<|u<|mv y<|za ?_
    obtain rfl:=sm h
    exact ⟨_,y,zo []⟩
  ·
   replace h:=bF hc5 h
   refine zD ?_
   obtain rfl:=sm h
   exact ⟨y,_,y,zo []⟩
 ·
  rintro ⟨⟩ rfl
  replace h:zbq=some r:=h
  unfold zbq at h
  refine zw ?_
  refine rg y<|u<|asg y<|za ?_
  refine zj ?_
  obtain rfl:=sm h
  exact ⟨_,y,zy []⟩
 ·
  rintro r' rfl env st hp
  obtain rfl:=sm h
  exact hp
def zaJ(v1:T1)(v2:List zb)(v3:T2):Option (Bool):=
  (zbW v1 v2 v3).bind fun v4=>some (decide (0≤v4))
theorem zf5(v1:T1)(v2:List zb)(v3:T2){r:Bool}(h:zaJ v1 v2 v3=some r):zI Tryz.prog 56 [.isl 1 (map zf v1),.fn (.func 112) [] [.ipt 1 [[.ipt 2 [[.isl 6 (map zc v2),.imp (map (rKV (fun x=>iA x)) v3)]] 0 0]] 0 0]] (bA r):=by
 refine zq Tryz.func56 y kz y y ?_
 unfold zaJ at h
 refine rg y<|u<|asg y<|za ?_
 obtain ⟨v4,q1,h⟩:=bs h
 refine rg y<|u<|mv y<|u<|mv y<|u<|pc (zgU v1 v2 v3 q1) y y y<|u<|geq ti y y<|u<|asg y<|za ?_
 refine zj ?_
 obtain rfl:=sm h
 exact ⟨_,y,zy []⟩
def zhJ:Option (Bool):=
  some true
def zgx(v30:Int)(v49:T1):Option (Sum (T1×Int) (Sum (Unit) (Bool))):=
  some (.inl (v49,(IntKind.i64.wrap (v30+1))))
def zd7(v43:Int)(v48:T1):Option (Sum (T1×Int) (Sum (T1) (Bool))):=
  some (.inl (v48,(IntKind.i64.wrap (v43+1))))
def zcL(v34:T1)(v42:T1)(v43:Int):Option (Sum (T1×Int) (Sum (T1) (Bool))):=
  cond (decide (v43<((length v34):Int))) ((idx v34 v43).bind fun v44=>(cond (!(v44 == [])) ((zK v42 v44).bind fun v45=>some (!v45)) (some false)).bind fun v46=>cond v46 ((zis 16 v42 [v44]).bind fun v47=>zd7 v43 v47) (zd7 v43 v42)) (some (.inr (.inl v42)))
def zcl(v1:List zb)(v2:T2)(v3:zb)(v29:T1)(v30:Int):Option (Sum (T1×Int) (Sum (Unit) (Bool))):=
  cond (decide (v30<((length v29):Int))) ((idx v29 v30).bind fun v31=>cond (v31 == v3.Name) (some (.inr (.inr false))) ((idx v29 v30).bind fun v32=>(zc0 v1 v2 v32).bind fun v33=>(zh5 v33).bind fun v34=>(zu (fun z=>zcL v34 z.1 z.2) (v29,0)).bind fun o=>zU o (fun b=>zgx v30 b) (fun r=>some (.inr (.inr r))))) (some (.inr (.inl ())))
def zfx(v1:List zb)(v2:T2)(v3:zb):Option (Bool):=
  (zc0 v1 v2 v3.Super).bind fun v4=>(cond v4.Interface (some true) ((zaJ v3.Impl v1 v2).bind fun v5=>some v5)).bind fun v6=>cond v6 (some false) ((zh5 v3).bind fun v7=>(zu (fun z=>zcl v1 v2 v3 z.1 z.2) (v7,0)).bind fun o=>zU o (fun b=>zhJ) some)
theorem znF(v1:List zb)(v2:T2)(v3:zb){r:Bool}(h:zfx v1 v2 v3=some r):zI Tryz.prog 60 [.ipt 2 [[.isl 6 (map zc v1),.imp (map (rKV (fun x=>iA x)) v2)]] 0 0,.agg (zc v3)] (bA r):=by
 refine zq Tryz.func60 y kz y y ?_
 unfold zfx at h
 refine rg y<|u<|bx 0 1 y y y y<|u<|bx 1 6 y y y y<|u<|asg y<|za ?_
 refine zi ?_
 obtain ⟨v4,q1,h⟩:=bs h
 obtain ⟨v6,q4,h⟩:=bs h
 refine rg y<|u<|ld ti y y<|u<|fa ti y y y<|u<|ld ti y y<|u<|pc (zej v1 v2 v3.Super q1) y y y<|u<|fdV y y<|u<|mv y<|zdj (x:=v6) (j:=5) 4 y y y y y gpn (fun hb2=>by replace q4:=bF hb2 q4;obtain ⟨v5,q3,q4⟩:=bs q4;obtain rfl:=sm q4;exact g y hb2<|fa ti y y y<|g y hb2<|ld ti y y<|g y hb2<|mf y y<|g y hb2<|pcs (zf5 v3.Impl v1 v2 q3) y y (.cons (si y) (.cons (zhX t ⟨(zcR y ⟨(si y),t⟩),t⟩) .nil)) zcD<|za (eg [15,16,17,18] 4 y y y y)) (fun hb=>(sm (bT hb q4)).symm)<|za ?_
 refine ze y (fun hc5=>?_) (fun hc5=>?_)
 ·
  replace h:=bT hc5 h
  refine rg y<|u<|asg y<|za ?_
  refine zj ?_
  obtain rfl:=sm h
  exact ⟨_,y,zy []⟩
 ·
  replace h:=bF hc5 h
  refine zg ?_
  obtain ⟨v7,q6,h⟩:=bs h
  refine rg y<|u<|ld ti y y<|u<|sx [] (zkC v3 q6)<|zx (env0:=[(2,.mpt 0 0 0),(3,.mpt 1 0 0),(21,.msl 2 0 (length v7))]) (st0:=[some (1,[[.ipt 2 [[.isl 6 (map zc v1),.imp (map (rKV (fun x=>iA x)) v2)]] 0 0]]),some (6,[(zc v3)]),some (1,map zf v7)]) (zo [.old 0,.old 1,.old 2])<|u<|asg y<|za ?_
  refine zi ?_
  refine rg y<|u<|asg y<|za ?_
  obtain ⟨o,ho,h⟩:=bs h
  refine zX (X:=T1×Int) (B:=Unit) (R:=Bool) (fun z=>[(2,.mpt 0 0 0),(3,.mpt 1 0 0),(5,.msl 2 0 (length z.1)),(6,iA z.2)]) (fun z=>[some (1,[[.ipt 2 [[.isl 6 (map zc v1),.imp (map (rKV (fun x=>iA x)) v2)]] 0 0]]),some (6,[(zc v3)]),some (1,map zf z.1)]) (fun b=>[]) (fun b=>[]) (fun r env st=>zaN Tryz.prog Tryz.f60 0 (bA r) [] env st) ho (zo [.old 0,.old 1,.old 2]) ?_ ?_ ?_
  ·
   rintro ⟨v29,v30⟩ r h
   replace h:zcl v1 v2 v3 v29 v30=some r:=h
   unfold zcl at h
   refine zi ?_
   refine rg y<|u<|mv y<|u<|mv y<|u<|lnM ti y y y<|u<|lss ti y y<|za ?_
   refine ze y (fun hc27=>?_) (fun hc27=>?_)
   ·
    replace h:=bT hc27 h
    refine zg ?_
    refine zi ?_
    refine zr ?_
    refine zi ?_
    obtain ⟨v31,q28,h⟩:=bs h
    refine rdA [(2,.mpt 0 0 0),(3,.mpt 1 0 0),(5,.msl 2 0 (length v29)),(6,iA v30),(34,bA (v31 == v3.Name))] [some (1,[[.ipt 2 [[.isl 6 (map zc v1),.imp (map (rKV (fun x=>iA x)) v2)]] 0 0]]),some (6,[(zc v3)]),some (1,map zf v29)] [] [6,5,4,3,2,1,0] [(34,bA (v31 == v3.Name)),(33,sA v3.Name),(32,.mpt 1 0 0),(31,sA v31),(30,.mpt 2 (Int.toNat v30) 0),(29,iA v30),(28,.msl 2 0 (length v29))] 0 (zht ⟨pe,pe,pe,(pb y (ldM ti y y (zl q28).2.2 y w)),(pb y (ixM ti y ti y y y y q28 w)),pe,pe,t⟩ (zo [.old 0,.old 1,.old 2])) ?_
    refine ze y (fun hc29=>?_) (fun hc29=>?_)
    ·
     replace h:=bT hc29 h
     refine rg y<|u<|asg y<|za ?_
     refine zj ?_
     obtain rfl:=sm h
     exact ⟨_,y,_,y,zy []⟩
    ·
     replace h:=bF hc29 h
     refine zg ?_
     obtain ⟨v32,q30,h⟩:=bs h
     obtain ⟨v33,q31,h⟩:=bs h
     obtain ⟨v34,q32,h⟩:=bs h
     refine rdA [(2,.mpt 0 0 0),(3,.mpt 1 0 0),(5,.msl 2 0 (length v29)),(6,iA v30),(41,.msl 3 0 (length v34)),(42,iA ((length v34):Int)),(43,iA 0)] [some (1,[[.ipt 2 [[.isl 6 (map zc v1),.imp (map (rKV (fun x=>iA x)) v2)]] 0 0]]),some (6,[(zc v3)]),some (1,map zf v29),some (1,map zf v34)] [6] [8,5,4,3,2,1,0] [(43,iA 0),(40,.agg (zc v33)),(39,sA v32),(38,.mpt 2 (Int.toNat v30) 0),(37,iA v30),(36,.msl 2 0 (length v29)),(35,.ipt 2 [[.isl 6 (map zc v1),.imp (map (rKV (fun x=>iA x)) v2)]] 0 0)] 1 (zem ⟨pe,(pb y (pc (zej v1 v2 v32 q31) y y y w)),(pb y (ldM ti y y (zl q30).2.2 y w)),(pb y (ixM ti y ti y y y y q30 w)),pe,pe,pe,t⟩ ⟨(fun _ _=>⟨_,y,y,sx [] (zkC v33 q32)<|⟨(.msl 3 0 (length v34)),[7],[(42,iA ((length v34):Int)),(41,.msl 3 0 (length v34))],y,y,kz,y,zht ⟨(pb y (lnM ti y y y w)),pe,pe,(pb y (ldM ti y y (zl q30).2.2 y w)),(pb y (ixM ti y ti y y y y q30 w)),pe,pe,pe,t⟩ (zo [.old 0,.old 1,.old 2,.old 3])⟩⟩),t⟩) ?_
     obtain ⟨o,ho,h⟩:=bs h
     refine zX (X:=T1×Int) (B:=T1) (R:=Bool) (fun z=>[(2,.mpt 0 0 0),(3,.mpt 1 0 0),(5,.msl 2 0 (length z.1)),(6,iA v30),(41,.msl 3 0 (length v34)),(42,iA ((length v34):Int)),(43,iA z.2)]) (fun z=>[some (1,[[.ipt 2 [[.isl 6 (map zc v1),.imp (map (rKV (fun x=>iA x)) v2)]] 0 0]]),some (6,[(zc v3)]),some (1,map zf z.1),some (1,map zf v34)]) (fun b=>[(2,.mpt 0 0 0),(3,.mpt 1 0 0),(5,.msl 2 0 (length b)),(6,iA v30)]) (fun b=>[some (1,[[.ipt 2 [[.isl 6 (map zc v1),.imp (map (rKV (fun x=>iA x)) v2)]] 0 0]]),some (6,[(zc v3)]),some (1,map zf b)]) (fun r env st=>zaN Tryz.prog Tryz.f60 0 (bA r) [] env st) ho (zo [.old 0,.old 1,.old 2,.old 3]) ?_ ?_ ?_
     ·
      rintro ⟨v42,v43⟩ r h
      replace h:zcL v34 v42 v43=some r:=h
      unfold zcL at h
      refine rg y<|u<|lss ti y y<|za ?_
      refine zi ?_
      refine ze y (fun hc40=>?_) (fun hc40=>?_)
      ·
       replace h:=bT hc40 h
       refine zg ?_
       refine za6 (X:=T1) (fun z=>[(2,.mpt 0 0 0),(3,.mpt 1 0 0),(5,.msl 2 0 (length z)),(6,iA v30),(41,.msl 3 0 (length v34)),(42,iA ((length v34):Int)),(43,iA v43)]) (fun z=>[some (1,[[.ipt 2 [[.isl 6 (map zc v1),.imp (map (rKV (fun x=>iA x)) v2)]] 0 0]]),some (6,[(zc v3)]),some (1,map zf z),some (1,map zf v34)]) (fun z=>zd7 v43 z=some r) ?_ ?_
       ·
        refine zr ?_
        obtain ⟨v44,q41,h⟩:=bs h
        refine rg y<|u<|ixM ti y ti y y y y q41<|u<|ldM ti y y (zl q41).2.2 y<|u<|asg y<|za ?_
        obtain ⟨v46,q44,h⟩:=bs h
        refine rg y<|u<|mv y<|u<|sne ti y y<|u<|mv y<|z7 (x:=v46) (j:=2) 4 y y y y y gpn (fun hb42=>by replace q44:=bT hb42 q44;obtain ⟨v45,q43,q44⟩:=bs q44;obtain rfl:=sm q44;exact g y hb42<|mv y<|g y hb42<|mv y<|g y hb42<|pcs (zaH v42 v44 q43) y y (.cons (zhU y (fun _=>y)) (.cons (si y) .nil)) zcD<|g y hb42<|nt y<|za (eg [50,51,52,53] 4 y y y y)) (fun hb=>(sm (bF hb q44)).symm)<|za ?_
        refine ze y (fun hc45=>?_) (fun hc45=>?_)
        ·
         replace h:=bT hc45 h
         obtain ⟨v47,q46,h⟩:=bs h
         exact rl y<|u<|mv y<|u<|mv y<|u<|bl 4 ti y ti y (by decide) (by decide) y y y<|u<|apM 5 ti y ti y y (by decide) ti y y y y (roX (f:=zf) (z:=[v44]) y y) (fun _=>y) y q46<|u<|asg y<|za (⟨v47,h,zo [.old 0,.old 1,.old 5,.old 3]⟩)
        ·
         replace h:=bF hc45 h
         refine zg ?_
         exact ⟨v42,h,zo [.old 0,.old 1,.old 2,.old 3]⟩
       ·
        rintro v48 h
        replace h:zd7 v43 v48=some r:=h
        unfold zd7 at h
        refine rl y<|u<|add ti y y<|u<|mv y<|za ?_
        obtain rfl:=sm h
        exact ⟨_,y,zo [.old 0,.old 1,.old 2,.old 3]⟩
      ·
       replace h:=bF hc40 h
       refine zD ?_
       obtain rfl:=sm h
       exact ⟨y,_,y,zo [.old 0,.old 1,.old 2]⟩
     ·
      rintro v49 rfl
      replace h:zgx v30 v49=some r:=h
      unfold zgx at h
      refine zw ?_
      refine rl y<|u<|mv y<|u<|add ti y y<|u<|asg y<|za ?_
      obtain rfl:=sm h
      exact ⟨_,y,zo [.old 0,.old 1,.old 2]⟩
     ·
      rintro r' rfl env st hp
      obtain rfl:=sm h
      exact ⟨_,y,hp⟩
   ·
    replace h:=bF hc27 h
    refine zD ?_
    obtain rfl:=sm h
    exact ⟨y,_,y,zo []⟩
  ·
   rintro ⟨⟩ rfl
   replace h:zhJ=some r:=h
   unfold zhJ at h
   refine zw ?_
   refine rg y<|u<|asg y<|za ?_
   refine zj ?_
   obtain rfl:=sm h
   exact ⟨_,y,zy []⟩
  ·
   rintro r' rfl env st hp
   obtain rfl:=sm h
   exact hp
def zmz(v24:List zb)(v25:T2):Option ((Option zac)×Int):=
  some ((some (zac.mk v24 v25)),0)
def zfZ(v1:List zb)(v24:List zb)(v25:T2)(v37:Int):Option (Sum (Int) (Sum (Unit) ((Option zac)×Int))):=
  cond (decide (v37<(length v1:Int))) ((idx v1 v37).bind fun v38=>(zfx v24 v25 v38).bind fun v39=>cond (!v39) (some (.inr (.inr (none,1)))) (some (.inl (IntKind.i64.wrap (v37+1))))) (some (.inr (.inl ())))
def zks(v1:List zb)(v24:List zb)(v25:T2):Option ((Option zac)×Int):=
  (zu (fun z=>zfZ v1 v24 v25 z) 0).bind fun o=>zU o (fun b=>zmz v24 v25) some
def zf4(v1:List zb)(v24:List zb)(v25:T2)(v30:Int):Option (Sum (Int) (Sum (Unit) ((Option zac)×Int))):=
  cond (decide (v30<(length v1:Int))) ((idx v1 v30).bind fun v31=>(zh5 v31).bind fun v32=>(zaI v32 v24 v25).bind fun v33=>cond v33 (some (.inr (.inr (none,4)))) (some (.inl (IntKind.i64.wrap (v30+1))))) (some (.inr (.inl ())))
def zkF(v1:List zb)(v24:List zb)(v25:T2):Option ((Option zac)×Int):=
  (zu (fun z=>zf4 v1 v24 v25 z) 0).bind fun o=>zU o (fun b=>zks v1 v24 v25) some
def zdp(v1:List zb)(v17:List zb)(v18:T2)(v19:Int):Option (Sum ((List zb)×T2×Int) (Sum ((List zb)×T2) ((Option zac)×Int))):=
  cond (decide (v19<(length v1:Int))) ((idx v1 v19).bind fun v20=>(cond (Option.isSome (zcC v20.Name v18)) (some true) ((zlc v20).bind fun v21=>some (!v21))).bind fun v22=>cond v22 (some (.inr (.inr (none,1)))) ((zis 112 v17 [v20]).bind fun v23=>some (.inl (v23,(zgG v20.Name ((length v17):Int) v18),(IntKind.i64.wrap (v19+1)))))) (some (.inr (.inl (v17,v18))))
def zkb(v1:List zb)(v2:(List zb))(v9:T2):Option ((Option zac)×Int):=
  (zu (fun z=>zdp v1 z.1 z.2.1 z.2.2) (v2,v9,0)).bind fun o=>zU o (fun b=>zkF v1 b.1 b.2) some
def zky(v2:(List zb))(v6:T2)(v7:Int):Option (Sum (T2×Int) (Sum (T2) ((Option zac)×Int))):=
  cond (decide (v7<((length v2):Int))) ((idx v2 v7).bind fun v8=>some (.inl ((zgG v8.Name v7 v6),(IntKind.i64.wrap (v7+1))))) (some (.inr (.inl v6)))
def zkg(v1:List zb):Option ((Option zac)×Int):=
  cond (decide (16<(length v1:Int))) (some (none,3)) ((zlX).bind fun v2=>(zu (fun z=>zky v2 z.1 z.2) ([],0)).bind fun o=>zU o (fun b=>zkb v1 v2 b) some)
theorem zmw(v1:List zb){r:(Option zac)×Int}(h:zkg v1=some r):zI Tryz.prog 23 [.isl 6 (map zc v1)] (.tup [zk4 2 zeR r.1,iA r.2]):=by
 refine zq Tryz.func23 y kz y (zzV (zyg (zuA (fun _=>y)) (y))) ?_
 unfold zkg at h
 refine rg y<|u<|asg y<|u<|asg y<|za ?_
 refine zi ?_
 refine rg y<|u<|mv y<|u<|lnI ti y y<|u<|gtr ti y y<|za ?_
 refine ze y (fun hc1=>?_) (fun hc1=>?_)
 ·
  replace h:=bT hc1 h
  refine rg y<|u<|asg y<|u<|asg y<|za ?_
  refine zj ?_
  obtain rfl:=sm h
  exact ⟨_,y,zy []⟩
 ·
  replace h:=bF hc1 h
  refine zg ?_
  obtain ⟨v2,q2,h⟩:=bs h
  refine rg y<|u<|sx [] (zrs q2)<|zx (env0:=[(0,.isl 6 (map zc v1)),(18,.msl 0 0 (length v2))]) (st0:=[some (6,map zc v2)]) (zo [.old 0])<|u<|mmk (e:=3) 1 y y<|u<|bd ti y y y<|u<|bx 2 2 y y y y<|u<|al 3 ti y<|u<|sto ti y y y<|za ?_
  refine zi ?_
  refine rg y<|u<|ld ti y y<|u<|nc y y<|u<|fa ti y y y<|u<|ld ti y y<|u<|lnM ti y y y<|u<|mv y<|za ?_
  obtain ⟨o,ho,h⟩:=bs h
  refine zX (X:=T2×Int) (B:=T2) (R:=(Option zac)×Int) (fun z=>[(0,.isl 6 (map zc v1)),(4,.mpt 0 0 0),(25,.msl 2 0 (length v2)),(26,iA ((length v2):Int)),(27,iA z.2)]) (fun z=>[some (1,[[.mpt 1 0 0]]),some (2,[[.msl 2 0 (length v2),.mmp 3]]),some (6,map zc v2),some (2,map (rKV (fun x=>iA x)) z.1)]) (fun b=>[(0,.isl 6 (map zc v1)),(4,.mpt 0 0 0)]) (fun b=>[some (1,[[.mpt 1 0 0]]),some (2,[[.msl 2 0 (length v2),.mmp 3]]),some (6,map zc v2),some (2,map (rKV (fun x=>iA x)) b)]) (fun r env st=>zaN Tryz.prog Tryz.f23 0 (.tup [zk4 2 zeR r.1,iA r.2]) [] env st) ho (zo [.old 3,.old 2,.old 0,.old 1]) ?_ ?_ ?_
  ·
   rintro ⟨v6,v7⟩ r h
   replace h:zky v2 v6 v7=some r:=h
   unfold zky at h
   refine rg y<|u<|lss ti y y<|za ?_
   refine zi ?_
   refine ze y (fun hc5=>?_) (fun hc5=>?_)
   ·
    replace h:=bT hc5 h
    refine zg ?_
    refine zi ?_
    refine zr ?_
    obtain ⟨v8,q6,h⟩:=bs h
    refine rg y<|u<|mv y<|u<|ixM ti y ti y y y y q6<|u<|ldM ti y y (zl q6).2.2 y<|u<|al 4 ti y<|u<|asg y<|u<|sto ti y y y<|za ?_
    refine zjq [(0,.isl 6 (map zc v1)),(4,.mpt 0 0 0),(25,.msl 2 0 (length v2)),(26,iA ((length v2):Int)),(27,iA v7)] [some (1,[[.mpt 1 0 0]]),some (2,[[.msl 2 0 (length v2),.mmp 3]]),some (6,map zc v2),some (2,map (rKV (fun x=>iA x)) (zgG v8.Name v7 v6))] [7] [6,5,4,3,2,1,0] [(38,iA v7),(37,sA v8.Name),(36,.mpt 4 0 0),(35,.mmp 3),(34,.mpt 1 0 1),(33,.mpt 1 0 0),(32,.mpt 1 0 0)] 1 (zma ⟨(fun _ _=>⟨_,y,y,mup (v:=v7) (g:=(fun x=>iA x)) (l:=v6) (s:=v8.Name) y y y y y y<|⟨.any,[],[],y,y,kz,t,zhW (zo [.old 0,.old 1,.old 2,.old 3])⟩⟩),t⟩) ?_
    refine rl y<|u<|add ti y y<|u<|mv y<|za ?_
    obtain rfl:=sm h
    exact ⟨_,y,zo [.old 0,.old 1,.old 2,.old 3]⟩
   ·
    replace h:=bF hc5 h
    refine zD ?_
    obtain rfl:=sm h
    exact ⟨y,_,y,zo [.old 0,.old 1,.old 2,.old 3]⟩
  ·
   rintro v9 rfl
   replace h:zkb v1 v2 v9=some r:=h
   unfold zkb at h
   refine zw ?_
   refine zi ?_
   refine rg y<|u<|mv y<|u<|lnI ti y y<|u<|mv y<|za ?_
   obtain ⟨o,ho,h⟩:=bs h
   refine zX (X:=(List zb)×T2×Int) (B:=(List zb)×T2) (R:=(Option zac)×Int) (fun z=>[(0,.isl 6 (map zc v1)),(4,.mpt 0 0 0),(40,.isl 6 (map zc v1)),(41,iA (length v1:Int)),(42,iA z.2.2)]) (fun z=>[some (1,[[.mpt 1 0 0]]),some (2,[[.msl 2 0 (length z.1),.mmp 3]]),some (6,map zc z.1),some (2,map (rKV (fun x=>iA x)) z.2.1)]) (fun b=>[(0,.isl 6 (map zc v1)),(4,.mpt 0 0 0)]) (fun b=>[some (1,[[.mpt 1 0 0]]),some (2,[[.msl 2 0 (length b.1),.mmp 3]]),some (6,map zc b.1),some (2,map (rKV (fun x=>iA x)) b.2)]) (fun r env st=>zaN Tryz.prog Tryz.f23 0 (.tup [zk4 2 zeR r.1,iA r.2]) [] env st) ho (zo [.old 0,.old 1,.old 2,.old 3]) ?_ ?_ ?_
   ·
    rintro ⟨v17,v18,v19⟩ r h
    replace h:zdp v1 v17 v18 v19=some r:=h
    unfold zdp at h
    refine rg y<|u<|lss ti y y<|za ?_
    refine zi ?_
    refine ze y (fun hc14=>?_) (fun hc14=>?_)
    ·
     replace h:=bT hc14 h
     refine zg ?_
     refine zi ?_
     refine zr ?_
     obtain ⟨v20,q15,h⟩:=bs h
     refine rg y<|u<|ixI ti y ti y y y q15<|u<|ldI ti y (zl q15).2.2 y<|u<|al 4 ti y<|u<|sto ti y y y<|za ?_
     refine zi ?_
     refine rdA [(0,.isl 6 (map zc v1)),(4,.mpt 0 0 0),(8,.mpt 4 0 0),(10,bA (Option.isSome (zcC v20.Name v18))),(40,.isl 6 (map zc v1)),(41,iA (length v1:Int)),(42,iA v19)] [some (1,[[.mpt 1 0 0]]),some (2,[[.msl 2 0 (length v17),.mmp 3]]),some (6,map zc v17),some (2,map (rKV (fun x=>iA x)) v18),some (6,[(zc v20)])] [] [11,10,9,8,7,6,5,4,3,2,1,0] [(10,bA (Option.isSome (zcC v20.Name v18))),(9,iA (Option.getD (zcC v20.Name v18) 0)),(55,bA (Option.isSome (zcC v20.Name v18))),(54,iA (Option.getD (zcC v20.Name v18) 0)),(46,.tup [iA (Option.getD (zcC v20.Name v18) 0),bA (Option.isSome (zcC v20.Name v18))]),(53,.tup [iA (Option.getD (zcC v20.Name v18) 0),bA (Option.isSome (zcC v20.Name v18))]),(52,sA v20.Name),(51,.mpt 4 0 0),(50,.mmp 3),(49,.mpt 1 0 1),(48,.mpt 1 0 0),(47,.mpt 1 0 0)] 0 (zht ⟨pe,pe,pe,pe,pe,(pb y (zCE (g:=(fun x=>iA x)) (z:=0) (l:=v18) y ti y y y y w)),pe,pe,pe,pe,pe,pe,t⟩ (zo [.old 0,.old 1,.old 2,.old 3,.old 4])) ?_
     obtain ⟨v22,q18,h⟩:=bs h
     refine rg y<|u<|mv y<|u<|mv y<|zdj (x:=v22) (j:=1) 3 y y y y y gpn (fun hb16=>by replace q18:=bF hb16 q18;obtain ⟨v21,q17,q18⟩:=bs q18;obtain rfl:=sm q18;exact g y hb16<|ld ti y y<|g y hb16<|pc (zrI v20 q17) y y y<|g y hb16<|nt y<|za (eg [58,59,60] 3 y y y y)) (fun hb=>(sm (bT hb q18)).symm)<|za ?_
     refine ze y (fun hc19=>?_) (fun hc19=>?_)
     ·
      replace h:=bT hc19 h
      refine rg y<|u<|asg y<|u<|asg y<|za ?_
      refine zj ?_
      obtain rfl:=sm h
      exact ⟨_,y,_,y,zy []⟩
     ·
      replace h:=bF hc19 h
      refine zg ?_
      refine rdA [(0,.isl 6 (map zc v1)),(4,.mpt 0 0 0),(8,.mpt 4 0 0),(40,.isl 6 (map zc v1)),(41,iA (length v1:Int)),(42,iA v19)] [some (1,[[.mpt 1 0 0]]),some (2,[[.msl 2 0 (length v17),.mmp 3]]),some (6,map zc v17),some (2,map (rKV (fun x=>iA x)) (zgG v20.Name ((length v17):Int) v18)),some (6,[(zc v20)])] [11] [10,9,8,7,6,5,4,3,2,1,0] [(72,iA ((length v17):Int)),(71,.msl 2 0 (length v17)),(70,.mpt 1 0 0),(69,.mpt 1 0 0),(68,.mpt 1 0 0),(67,sA v20.Name),(66,.mpt 4 0 0),(65,.mmp 3),(64,.mpt 1 0 1),(63,.mpt 1 0 0),(62,.mpt 1 0 0)] 1 (zem ⟨(pb y (lnM ti y y y w)),pe,pe,pe,pe,pe,pe,pe,pe,pe,pe,t⟩ ⟨(fun _ _=>⟨_,y,y,mup (v:=((length v17):Int)) (g:=(fun x=>iA x)) (l:=v18) (s:=v20.Name) y y y y y y<|⟨.any,[],[],y,y,kz,t,zhW (zo [.old 0,.old 1,.old 2,.old 3,.old 4])⟩⟩),t⟩) ?_
      obtain ⟨v23,q20,h⟩:=bs h
      refine zjq [(0,.isl 6 (map zc v1)),(4,.mpt 0 0 0),(40,.isl 6 (map zc v1)),(41,iA (length v1:Int)),(42,iA v19)] [some (1,[[.mpt 1 0 0]]),some (2,[[.msl 2 0 (length v23),.mmp 3]]),some (6,map zc v23),some (2,map (rKV (fun x=>iA x)) (zgG v20.Name ((length v17):Int) v18))] [6,7,10] [5,4,3,2,1,0] [(78,.agg (zc v20)),(77,.msl 2 0 (length v17)),(76,.mpt 1 0 0),(75,.mpt 1 0 0),(74,.mpt 1 0 0),(73,.mpt 1 0 0)] 3 (zma ⟨(fun _ _=>⟨_,y,y,bl 5 ti y ti y (by decide) (by decide) y y y<|⟨(.msl 5 0 1),[],[(79,.msl 5 0 1)],y,y,kz,y,zma ⟨nv,(fun _ _=>⟨_,y,y,apM 6 ti y ti y y (by decide) ti y y y y (roX (f:=zc) (z:=[v20]) y y) (fun _=>y) y q20<|⟨(.msl 6 0 (length v23)),[9,8],[(82,.mpt 1 0 0),(81,.mpt 1 0 0),(80,.msl 6 0 (length v23))],y,y,kz,y,zma ⟨nv,nv,(fun _ _=>⟨_,y,y,sto ti y y y<|⟨.any,[],[],y,y,kz,t,zhW (zo [.old 0,.old 1,.old 6,.old 3])⟩⟩),t⟩⟩⟩),nw,t⟩⟩⟩),nw,nw,t⟩) ?_
      refine rl y<|u<|add ti y y<|u<|mv y<|za ?_
      obtain rfl:=sm h
      exact ⟨_,y,zo [.old 0,.old 1,.old 2,.old 3]⟩
    ·
     replace h:=bF hc14 h
     refine zD ?_
     obtain rfl:=sm h
     exact ⟨y,_,y,zo [.old 0,.old 1,.old 2,.old 3]⟩
   ·
    rintro ⟨v24,v25⟩ rfl
    replace h:zkF v1 v24 v25=some r:=h
    unfold zkF at h
    refine zw ?_
    refine zi ?_
    refine rg y<|u<|mv y<|u<|lnI ti y y<|u<|mv y<|za ?_
    obtain ⟨o,ho,h⟩:=bs h
    refine zX (X:=Int) (B:=Unit) (R:=(Option zac)×Int) (fun z=>[(0,.isl 6 (map zc v1)),(4,.mpt 0 0 0),(84,.isl 6 (map zc v1)),(85,iA (length v1:Int)),(86,iA z)]) (fun z=>[some (1,[[.mpt 1 0 0]]),some (2,[[.msl 2 0 (length v24),.mmp 3]]),some (6,map zc v24),some (2,map (rKV (fun x=>iA x)) v25)]) (fun b=>[(0,.isl 6 (map zc v1)),(4,.mpt 0 0 0)]) (fun b=>[some (1,[[.mpt 1 0 0]]),some (2,[[.msl 2 0 (length v24),.mmp 3]]),some (6,map zc v24),some (2,map (rKV (fun x=>iA x)) v25)]) (fun r env st=>zaN Tryz.prog Tryz.f23 0 (.tup [zk4 2 zeR r.1,iA r.2]) [] env st) ho (zo [.old 0,.old 1,.old 2,.old 3]) ?_ ?_ ?_
    ·
     rintro v30 r h
     replace h:zf4 v1 v24 v25 v30=some r:=h
     unfold zf4 at h
     refine rg y<|u<|lss ti y y<|za ?_
     refine zi ?_
     refine ze y (fun hc26=>?_) (fun hc26=>?_)
     ·
      replace h:=bT hc26 h
      refine zg ?_
      refine zi ?_
      refine zr ?_
      obtain ⟨v31,q27,h⟩:=bs h
      refine rg y<|u<|ixI ti y ti y y y q27<|u<|ldI ti y (zl q27).2.2 y<|u<|al 4 ti y<|u<|sto ti y y y<|za ?_
      obtain ⟨v32,q28,h⟩:=bs h
      obtain ⟨v33,q29,h⟩:=bs h
      refine rg y<|u<|ld ti y y<|u<|sx [] (zkC v31 q28)<|zx (env0:=[(0,.isl 6 (map zc v1)),(4,.mpt 0 0 0),(84,.isl 6 (map zc v1)),(85,iA (length v1:Int)),(86,iA v30),(91,.msl 4 0 (length v32))]) (st0:=[some (1,[[.mpt 1 0 0]]),some (2,[[.msl 2 0 (length v24),.mmp 3]]),some (6,map zc v24),some (2,map (rKV (fun x=>iA x)) v25),some (1,map zf v32)]) (zo [.old 0,.old 1,.old 2,.old 3,.old 5])<|u<|mf y y<|u<|pcs (zgf v32 v24 v25 q29) y y (.cons (zhU y (fun _=>y)) (.cons (zhX t ⟨(zcR y ⟨(zcR y ⟨(zhU y (fun _=>y)),(zwu y (fun _=>y)),t⟩),t⟩),t⟩) .nil)) zcD<|za ?_
      refine ze y (fun hc30=>?_) (fun hc30=>?_)
      ·
       replace h:=bT hc30 h
       refine rg y<|u<|asg y<|u<|asg y<|za ?_
       refine zj ?_
       obtain rfl:=sm h
       exact ⟨_,y,_,y,zy []⟩
      ·
       replace h:=bF hc30 h
       refine zg ?_
       refine rl y<|u<|add ti y y<|u<|mv y<|za ?_
       obtain rfl:=sm h
       exact ⟨_,y,zo [.old 0,.old 1,.old 2,.old 3]⟩
     ·
      replace h:=bF hc26 h
      refine zD ?_
      obtain rfl:=sm h
      exact ⟨y,_,y,zo [.old 0,.old 1,.old 2,.old 3]⟩
    ·
     rintro ⟨⟩ rfl
     replace h:zks v1 v24 v25=some r:=h
     unfold zks at h
     refine zw ?_
     refine zi ?_
     refine rg y<|u<|mv y<|u<|lnI ti y y<|u<|mv y<|za ?_
     obtain ⟨o,ho,h⟩:=bs h
     refine zX (X:=Int) (B:=Unit) (R:=(Option zac)×Int) (fun z=>[(4,.mpt 0 0 0),(95,.isl 6 (map zc v1)),(96,iA (length v1:Int)),(97,iA z)]) (fun z=>[some (1,[[.mpt 1 0 0]]),some (2,[[.msl 2 0 (length v24),.mmp 3]]),some (6,map zc v24),some (2,map (rKV (fun x=>iA x)) v25)]) (fun b=>[(4,.mpt 0 0 0)]) (fun b=>[some (1,[[.mpt 1 0 0]]),some (2,[[.msl 2 0 (length v24),.mmp 3]]),some (6,map zc v24),some (2,map (rKV (fun x=>iA x)) v25)]) (fun r env st=>zaN Tryz.prog Tryz.f23 0 (.tup [zk4 2 zeR r.1,iA r.2]) [] env st) ho (zo [.old 0,.old 1,.old 2,.old 3]) ?_ ?_ ?_
     ·
      rintro v37 r h
      replace h:zfZ v1 v24 v25 v37=some r:=h
      unfold zfZ at h
      refine rg y<|u<|lss ti y y<|za ?_
      refine zi ?_
      refine ze y (fun hc35=>?_) (fun hc35=>?_)
      ·
       replace h:=bT hc35 h
       refine zg ?_
       refine zi ?_
       refine zr ?_
       obtain ⟨v38,q36,h⟩:=bs h
       refine rg y<|u<|ixI ti y ti y y y q36<|u<|ldI ti y (zl q36).2.2 y<|u<|al 4 ti y<|u<|sto ti y y y<|za ?_
       obtain ⟨v39,q37,h⟩:=bs h
       refine rg y<|u<|ld ti y y<|u<|ld ti y y<|u<|pcs (znF v24 v25 v38 q37) y y (.cons (zcR y ⟨(zhU y (fun _=>y)),(zwu y (fun _=>y)),t⟩) (.cons (si y) .nil)) zcD<|u<|nt y<|za ?_
       refine ze y (fun hc38=>?_) (fun hc38=>?_)
       ·
        replace h:=bT hc38 h
        refine rg y<|u<|asg y<|u<|asg y<|za ?_
        refine zj ?_
        obtain rfl:=sm h
        exact ⟨_,y,_,y,zy []⟩
       ·
        replace h:=bF hc38 h
        refine zg ?_
        refine rl y<|u<|add ti y y<|u<|mv y<|za ?_
        obtain rfl:=sm h
        exact ⟨_,y,zo [.old 0,.old 1,.old 2,.old 3]⟩
      ·
       replace h:=bF hc35 h
       refine zD ?_
       obtain rfl:=sm h
       exact ⟨y,_,y,zo [.old 0,.old 1,.old 2,.old 3]⟩
     ·
      rintro ⟨⟩ rfl
      replace h:zmz v24 v25=some r:=h
      unfold zmz at h
      refine zw ?_
      refine rg y<|u<|ld ti y y<|u<|asg y<|u<|asg y<|za ?_
      refine zj ?_
      obtain rfl:=sm h
      exact ⟨_,y,[],ztG ⟨(rsP y y ⟨(zn9 y y (fun _=>y)),(zwg y y (fun _=>y)),t⟩ y),(ci y),t⟩,y,t,y,k⟩
     ·
      rintro r' rfl env st hp
      obtain rfl:=sm h
      exact hp
    ·
     rintro r' rfl env st hp
     obtain rfl:=sm h
     exact hp
   ·
    rintro r' rfl env st hp
    obtain rfl:=sm h
    exact hp
  ·
   rintro r' rfl env st hp
   obtain rfl:=sm h
   exact hp
structure zR where
  L:List zb
def zfq(x:zR):List AV:=[.isl 6 (map zc x.L)]
def zki(v13:List zb):Option ((List zb)):=
  some v13
def zhB(v7:List zb)(v8:Int)(v9:T0)(v11:T0):Option (Sum ((List zb)×Int) (Sum ((List zb)) ((List zb)))):=
  (zis 112 v7 ([(zb.mk v9 v11 false [] [] [])])).bind fun v12=>some (.inl (v12,(IntKind.i64.wrap (v8+1))))
def zhK(v7:List zb)(v8:Int)(v9:T0)(v10:T0):Option (Sum ((List zb)×Int) (Sum ((List zb)) ((List zb)))):=
  cond (v8 == (1:Int)) (zhB v7 v8 v9 [79,98,106,101,99,116]) (zhB v7 v8 v9 v10)
def zkw(v7:List zb)(v8:Int):Option (Sum ((List zb)×Int) (Sum ((List zb)) ((List zb)))):=
  cond (decide (v8<((length (zdM)):Int))) ((idx (zdM) v8).bind fun v9=>cond (v8 == (0:Int)) (zhK v7 v8 v9 []) (zhK v7 v8 v9 [84,104,114,111,119,110])) (some (.inr (.inl v7)))
def zlT:Option ((List zb)):=
  (zu (fun z=>zkw z.1 z.2) ([],0)).bind fun o=>zU o (fun b=>zki b) some
theorem zrh{r:(List zb)}(h:zlT=some r):SC Tryz.prog 68 [] [] (.msl 0 0 (length r)) [.many 6 (map zc r)]:=by
 refine ⟨⟨zhS (sz:=6) (fun _=>y),t⟩,zW Tryz.func68 y kz y ?_⟩
 unfold zlT at h
 refine rg y<|u<|asg y<|za ?_
 refine rg y<|u<|sx [] (zq7 y)<|zx (env0:=[(5,.msl 0 0 (length (zdM)))]) (st0:=[some (1,map zf (zdM))]) (zo [.old 0])<|u<|asg y<|za ?_
 refine rg y<|u<|asg y<|za ?_
 refine zi ?_
 refine rg y<|u<|asg y<|za ?_
 obtain ⟨o,ho,h⟩:=bs h
 refine zX (X:=(List zb)×Int) (B:=(List zb)) (R:=(List zb)) (fun z=>[(1,.msl 0 0 (length (zdM))),(2,.msl 1 0 (length z.1)),(3,iA z.2)]) (fun z=>[some (1,map zf (zdM)),some (6,map zc z.1)]) (fun b=>[(2,.msl 0 0 (length b))]) (fun b=>[some (6,map zc b)]) (fun r env st=>zaN Tryz.prog Tryz.f68 0 (.msl 0 0 (length r)) [some (6,map zc r)] env st) ho ⟨[.old 0,.fresh 6],cv y (.msl y)<|cv y (.nilown y)<|ce y y<|cn,y,⟨⟨_,y,zjN (fun _=>y)⟩,w,t⟩,y,k⟩ ?_ ?_ ?_
 ·
  rintro ⟨v7,v8⟩ r h
  replace h:zkw v7 v8=some r:=h
  unfold zkw at h
  refine zi ?_
  refine rg y<|u<|mv y<|u<|mv y<|u<|lnM ti y y y<|u<|lss ti y y<|za ?_
  refine ze y (fun hc6=>?_) (fun hc6=>?_)
  ·
   replace h:=bT hc6 h
   refine zg ?_
   refine zi ?_
   refine zr ?_
   obtain ⟨v9,q7,h⟩:=bs h
   refine rg y<|u<|mv y<|u<|mv y<|u<|ixM ti y ti y y y y q7<|u<|ldM ti y y (zl q7).2.2 y<|u<|bd ti y y y<|u<|al 2 ti y<|u<|sto ti y y y<|za ?_
   refine za6 (X:=T0) (fun z=>[(1,.msl 0 0 (length (zdM))),(2,.msl 1 0 (length v7)),(3,iA v8),(4,.mpt 2 0 0)]) (fun z=>[some (1,map zf (zdM)),some (6,map zc v7),some (6,[[sA v9,sA z,bA false,.lit (.slice none 0 0),.lit (.slice none 0 0),.lit (.slice none 0 0)]])]) (fun z=>zhK v7 v8 v9 z=some r) ?_ ?_
   ·
    refine rg y<|u<|mv y<|u<|eql ti y y<|za ?_
    refine ze y (fun hc8=>?_) (fun hc8=>?_)
    ·
     replace h:=bT hc8 h
     exact rl y<|u<|fa ti y y y<|u<|sto ti y y y<|za (⟨[],h,zo [.old 0,.old 1,.old 2]⟩)
    ·
     replace h:=bF hc8 h
     refine zg ?_
     exact ⟨[84,104,114,111,119,110],h,zo [.old 0,.old 1,.old 2]⟩
   ·
    rintro v10 h
    replace h:zhK v7 v8 v9 v10=some r:=h
    unfold zhK at h
    refine za6 (X:=T0) (fun z=>[(1,.msl 0 0 (length (zdM))),(2,.msl 1 0 (length v7)),(3,iA v8),(4,.mpt 2 0 0)]) (fun z=>[some (1,map zf (zdM)),some (6,map zc v7),some (6,[[sA v9,sA z,bA false,.lit (.slice none 0 0),.lit (.slice none 0 0),.lit (.slice none 0 0)]])]) (fun z=>zhB v7 v8 v9 z=some r) ?_ ?_
    ·
     refine rg y<|u<|mv y<|u<|eql ti y y<|za ?_
     refine ze y (fun hc9=>?_) (fun hc9=>?_)
     ·
      replace h:=bT hc9 h
      exact rl y<|u<|fa ti y y y<|u<|sto ti y y y<|za (⟨[79,98,106,101,99,116],h,zo [.old 0,.old 1,.old 2]⟩)
     ·
      replace h:=bF hc9 h
      refine zg ?_
      exact ⟨v10,h,zo [.old 0,.old 1,.old 2]⟩
    ·
     rintro v11 h
     replace h:zhB v7 v8 v9 v11=some r:=h
     unfold zhB at h
     obtain ⟨v12,q10,h⟩:=bs h
     refine rl y<|u<|mv y<|u<|ld ti y y<|u<|bl 3 ti y ti y (by decide) (by decide) y y y<|zx (env0:=[(1,.msl 0 0 (length (zdM))),(3,iA v8),(23,.msl 1 0 (length v7)),(25,.msl 2 0 (length ([(zb.mk v9 v11 false [] [] [])])))]) (st0:=[some (1,map zf (zdM)),some (6,map zc v7),some (6,map zc ([(zb.mk v9 v11 false [] [] [])]))]) (zo [.old 0,.old 1,.old 3])<|u<|apM 3 ti y ti y y (by decide) ti y y y y (roM y) (fun _=>y) y q10<|u<|asg y<|za ?_
     refine rl y<|u<|mv y<|u<|add ti y y<|u<|asg y<|za ?_
     obtain rfl:=sm h
     exact ⟨_,y,zo [.old 0,.old 3]⟩
  ·
   replace h:=bF hc6 h
   refine zD ?_
   obtain rfl:=sm h
   exact ⟨y,_,y,zo [.old 1]⟩
 ·
  rintro v13 rfl
  replace h:zki v13=some r:=h
  unfold zki at h
  refine zw ?_
  refine rg y<|u<|mv y<|u<|asg y<|za ?_
  refine zj ?_
  obtain rfl:=sm h
  exact ⟨_,y,zy [.old 0]⟩
 ·
  rintro r' rfl env st hp
  obtain rfl:=sm h
  exact hp
def zhC:Option (Int):=
  some (-1)
def zeL(v1:List zb)(v2:T0)(v5:Int):Option (Sum (Int) (Sum (Unit) (Int))):=
  cond (decide (v5<(length v1:Int))) ((idx v1 v5).bind fun v6=>cond (v6.Name == v2) (some (.inr (.inr v5))) (some (.inl (IntKind.i64.wrap (v5+1))))) (some (.inr (.inl ())))
def zaD(v1:List zb)(v2:T0):Option (Int):=
  (zu (fun z=>zeL v1 v2 z) 0).bind fun o=>zU o (fun b=>zhC) some
theorem zV(v1:List zb)(v2:T0){r:Int}(h:zaD v1 v2=some r):zI Tryz.prog 70 [.ipt 1 [[.isl 6 (map zc v1)]] 0 0,sA v2] (iA r):=by
 refine zq Tryz.func70 y kz y y ?_
 unfold zaD at h
 refine rg y<|u<|asg y<|za ?_
 refine zi ?_
 refine rg y<|u<|asg y<|za ?_
 obtain ⟨o,ho,h⟩:=bs h
 refine zX (X:=Int) (B:=Unit) (R:=Int) (fun z=>[(0,.ipt 1 [[.isl 6 (map zc v1)]] 0 0),(1,sA v2),(5,iA z)]) (fun z=>[]) (fun b=>[]) (fun b=>[]) (fun r env st=>zaN Tryz.prog Tryz.f70 0 (iA r) [] env st) ho (zo []) ?_ ?_ ?_
 ·
  rintro v5 r h
  replace h:zeL v1 v2 v5=some r:=h
  unfold zeL at h
  refine zi ?_
  refine rg y<|u<|mv y<|u<|mv y<|u<|nc y y<|u<|fa ti y y y<|u<|ld ti y y<|u<|lnI ti y y<|u<|lss ti y y<|za ?_
  refine ze y (fun hc4=>?_) (fun hc4=>?_)
  ·
   replace h:=bT hc4 h
   refine zg ?_
   refine zi ?_
   refine zr ?_
   obtain ⟨v6,q5,h⟩:=bs h
   refine rg y<|u<|mv y<|u<|nc y y<|u<|fa ti y y y<|u<|ld ti y y<|u<|mv y<|u<|ixI ti y ti y y y q5<|u<|fa ti y y y<|u<|ldI ti y (zl q5).2.2 y<|u<|mv y<|u<|seq ti y y<|za ?_
   refine ze y (fun hc6=>?_) (fun hc6=>?_)
   ·
    replace h:=bT hc6 h
    refine rg y<|u<|mv y<|u<|asg y<|za ?_
    refine zj ?_
    obtain rfl:=sm h
    exact ⟨_,y,_,y,zy []⟩
   ·
    replace h:=bF hc6 h
    refine zg ?_
    refine rl y<|u<|mv y<|u<|add ti y y<|u<|asg y<|za ?_
    obtain rfl:=sm h
    exact ⟨_,y,zo []⟩
  ·
   replace h:=bF hc4 h
   refine zD ?_
   obtain rfl:=sm h
   exact ⟨y,_,y,zo []⟩
 ·
  rintro ⟨⟩ rfl
  replace h:zhC=some r:=h
  unfold zhC at h
  refine zw ?_
  refine rg y<|u<|asg y<|za ?_
  refine zj ?_
  obtain rfl:=sm h
  exact ⟨_,y,zy []⟩
 ·
  rintro r' rfl env st hp
  obtain rfl:=sm h
  exact hp
def zhh(v2:Int)(v138:List Bool):Option (Bool):=
  (idx v138 v2).bind fun v139=>some v139
def zfd(v136:List Bool)(v137:Bool):Option (Sum ((List Bool)×Bool×Bool) (Sum ((List Bool)) (Bool))):=
  some (.inl (v136,v137,false))
def zdo(v107:Int)(v134:List Bool)(v135:Bool):Option (Sum ((List Bool)×Bool×Int) (Sum ((List Bool)×Bool) (Bool))):=
  some (.inl (v134,v135,(IntKind.i64.wrap (v107+1))))
def ze9(v107:Int)(v132:List Bool)(v133:Bool):Option (Sum ((List Bool)×Bool×Int) (Sum ((List Bool)×Bool) (Bool))):=
  zdo v107 v132 v133
def zdu(v124:Int)(v130:List Bool)(v131:Bool):Option (Sum ((List Bool)×Bool×Int) (Sum ((List Bool)×Bool) (Bool))):=
  some (.inl (v130,v131,(IntKind.i64.wrap (v124+1))))
def zcd(v1:List zb)(v111:T1)(v122:List Bool)(v123:Bool)(v124:Int):Option (Sum ((List Bool)×Bool×Int) (Sum ((List Bool)×Bool) (Bool))):=
  cond (decide (v124<((length v111):Int))) ((idx v111 v124).bind fun v125=>(zaD v1 v125).bind fun v126=>(cond (decide (0≤v126)) ((idx v122 v126).bind fun v127=>some (!v127)) (some false)).bind fun v128=>cond v128 ((idx v122 v126).bind fun v129=>zdu v124 (List.set v122 (Int.toNat v126) true) true) (zdu v124 v122 v123)) (some (.inr (.inl (v122,v123))))
def zbD(v1:List zb)(v2:Int)(v73:Bool)(v105:List Bool)(v106:Bool)(v107:Int):Option (Sum ((List Bool)×Bool×Int) (Sum ((List Bool)×Bool) (Bool))):=
  cond (decide (v107<(length v1:Int))) ((idx v105 v107).bind fun v108=>cond ((!v108)&&(!(v73&&(v107 == v2)))) (zdo v107 v105 v106) ((idx v1 v107).bind fun v109=>(idx v1 v107).bind fun v110=>(zis 16 [v109.Super] v110.Impl).bind fun v111=>(zu (fun z=>zcd v1 v111 z.1 z.2.1 z.2.2) (v105,v106,0)).bind fun o=>zU o (fun b=>ze9 v107 b.1 b.2) (fun r=>some (.inr (.inr r))))) (some (.inr (.inl (v105,v106))))
def zbG(v1:List zb)(v2:Int)(v71:List Bool)(v72:Bool)(v73:Bool):Option (Sum ((List Bool)×Bool×Bool) (Sum ((List Bool)) (Bool))):=
  cond v72 ((zu (fun z=>zbD v1 v2 v73 z.1 z.2.1 z.2.2) (v71,false,0)).bind fun o=>zU o (fun b=>zfd b.1 b.2) (fun r=>some (.inr (.inr r)))) (some (.inr (.inl v71)))
def zfQ(v1:List zb)(v2:Int):Option (Bool):=
  (mkP 1 (length v1:Int)).bind fun v3=>(zu (fun z=>zbG v1 v2 z.1 z.2.1 z.2.2) ((List.replicate v3 false),true,true)).bind fun o=>zU o (fun b=>zhh v2 b) some
theorem znb(v1:List zb)(v2:Int){r:Bool}(h:zfQ v1 v2=some r):zI Tryz.prog 71 [.ipt 1 [[.isl 6 (map zc v1)]] 0 0,iA v2] (bA r):=by
 refine zq Tryz.func71 y kz y y ?_
 unfold zfQ at h
 refine rg y<|u<|asg y<|za ?_
 obtain ⟨v3,q1,h⟩:=bs h
 refine rg y<|u<|mv y<|u<|nc y y<|u<|fa ti y y y<|u<|ld ti y y<|u<|lnI ti y y<|u<|mks (f:=rB) (z:=false) 0 ti y ti y y y y y y q1<|u<|asg y<|za ?_
 refine zi ?_
 refine rg y<|u<|asg y<|u<|asg y<|za ?_
 obtain ⟨o,ho,h⟩:=bs h
 refine zX (X:=(List Bool)×Bool×Bool) (B:=(List Bool)) (R:=Bool) (fun z=>[(0,.ipt 1 [[.isl 6 (map zc v1)]] 0 0),(1,iA v2),(5,.msl 0 0 (length z.1)),(6,bA z.2.1),(7,bA z.2.2)]) (fun z=>[some (1,map rB z.1)]) (fun b=>[(1,iA v2),(5,.msl 0 0 (length b))]) (fun b=>[some (1,map rB b)]) (fun r env st=>zaN Tryz.prog Tryz.f71 0 (bA r) [] env st) ho (zo [.old 0]) ?_ ?_ ?_
 ·
  rintro ⟨v71,v72,v73⟩ r h
  replace h:zbG v1 v2 v71 v72 v73=some r:=h
  unfold zbG at h
  refine zi ?_
  refine rg y<|u<|mv y<|za ?_
  refine ze y (fun hc48=>?_) (fun hc48=>?_)
  ·
   replace h:=bT hc48 h
   refine zg ?_
   refine zi ?_
   refine zr ?_
   refine rg y<|u<|asg y<|za ?_
   refine rg y<|u<|asg y<|za ?_
   obtain ⟨o,ho,h⟩:=bs h
   refine zX (X:=(List Bool)×Bool×Int) (B:=(List Bool)×Bool) (R:=Bool) (fun z=>[(0,.ipt 1 [[.isl 6 (map zc v1)]] 0 0),(1,iA v2),(5,.msl 0 0 (length z.1)),(6,bA z.2.1),(7,bA v73),(8,iA z.2.2)]) (fun z=>[some (1,map rB z.1)]) (fun b=>[(0,.ipt 1 [[.isl 6 (map zc v1)]] 0 0),(1,iA v2),(5,.msl 0 0 (length b.1)),(6,bA b.2)]) (fun b=>[some (1,map rB b.1)]) (fun r env st=>zaN Tryz.prog Tryz.f71 0 (bA r) [] env st) ho (zo [.old 0]) ?_ ?_ ?_
   ·
    rintro ⟨v105,v106,v107⟩ r h
    replace h:zbD v1 v2 v73 v105 v106 v107=some r:=h
    unfold zbD at h
    refine zi ?_
    refine rg y<|u<|mv y<|u<|mv y<|u<|nc y y<|u<|fa ti y y y<|u<|ld ti y y<|u<|lnI ti y y<|u<|lss ti y y<|za ?_
    refine ze y (fun hc73=>?_) (fun hc73=>?_)
    ·
     replace h:=bT hc73 h
     refine zg ?_
     refine za6 (X:=(List Bool)×Bool) (fun z=>[(0,.ipt 1 [[.isl 6 (map zc v1)]] 0 0),(1,iA v2),(5,.msl 0 0 (length z.1)),(6,bA z.2),(7,bA v73),(8,iA v107)]) (fun z=>[some (1,map rB z.1)]) (fun z=>zdo v107 z.1 z.2=some r) ?_ ?_
     ·
      refine zr ?_
      refine zi ?_
      obtain ⟨v108,q74,h⟩:=bs h
      refine rg y<|u<|mv y<|u<|mv y<|u<|ixM ti y ti y y y y q74<|u<|ldM ti y y (zl q74).2.2 y<|u<|nt y<|u<|mv y<|z7 (j:=5) 7 y y y y y gpn (fun hb75=>g y hb75<|mv y<|g y hb75<|mv y<|z7 (j:=7) 3 y y y y y (gps y y hb75) (fun hb76=>g y hb76<|mv y<|g y hb76<|mv y<|g y hb76<|eql ti y y<|za (egA [36,37,38] 3 hb76 y y y y)) ze2<|g y hb75<|nt y<|za (egA [34,35,36,37,38,39,40] 4 hb75 y y y y)) ze2<|za ?_
      refine ze y (fun hc77=>?_) (fun hc77=>?_)
      ·
       replace h:=bT hc77 h
       refine zD ?_
       exact ⟨⟨v105,v106⟩,h,zo [.old 0]⟩
      ·
       replace h:=bF hc77 h
       refine zg ?_
       obtain ⟨v109,q78,h⟩:=bs h
       obtain ⟨v110,q79,h⟩:=bs h
       obtain ⟨v111,q80,h⟩:=bs h
       refine rdA [(0,.ipt 1 [[.isl 6 (map zc v1)]] 0 0),(1,iA v2),(5,.msl 0 0 (length v105)),(6,bA v106),(7,bA v73),(8,iA v107),(9,.msl 1 0 (length v111))] [some (1,map rB v105),some (1,map zf v111)] [8,17] [16,15,14,13,12,11,10,9,7,6,5,4,3,2,1,0] [(58,.isl 1 (map zf v110.Impl)),(57,.ipt 6 (map zc v1) (Int.toNat v107) 3),(56,.ipt 6 (map zc v1) (Int.toNat v107) 0),(55,iA v107),(54,.isl 6 (map zc v1)),(53,.ipt 1 [[.isl 6 (map zc v1)]] 0 0),(52,.ipt 1 [[.isl 6 (map zc v1)]] 0 0),(51,.ipt 1 [[.isl 6 (map zc v1)]] 0 0),(49,sA v109.Super),(48,.ipt 6 (map zc v1) (Int.toNat v107) 1),(47,.ipt 6 (map zc v1) (Int.toNat v107) 0),(46,iA v107),(45,.isl 6 (map zc v1)),(44,.ipt 1 [[.isl 6 (map zc v1)]] 0 0),(43,.ipt 1 [[.isl 6 (map zc v1)]] 0 0),(42,.ipt 1 [[.isl 6 (map zc v1)]] 0 0)] 2 (zem ⟨(pb y (ldI ti y (zl q79).2.2 y w)),pe,(pb y (ixI ti y ti y y y q79 w)),pe,pe,pe,pe,pe,(pb y (ldI ti y (zl q78).2.2 y w)),pe,(pb y (ixI ti y ti y y y q78 w)),pe,pe,pe,pe,pe,t⟩ ⟨(fun _ _=>⟨_,y,y,bl 1 ti y ti y (by decide) (by decide) y y y<|⟨(.msl 1 0 1),[],[(50,.msl 1 0 1)],y,y,kz,y,zem ⟨(pb y (ldI ti y (zl q79).2.2 y w)),pe,(pb y (ixI ti y ti y y y q79 w)),pe,pe,pe,pe,pe,pe,pe,(pb y (ixI ti y ti y y y q78 w)),pe,pe,pe,pe,pe,t⟩ ⟨nv,(fun _ _=>⟨_,y,y,apM (l:=[v109.Super]) (f:=zf) 2 ti y ti y y (by decide) ti y y y y roI (fun _=>y) y q80<|⟨(.msl 2 0 (length v111)),[18],[(9,.msl 2 0 (length v111)),(59,.msl 2 0 (length v111))],y,y,kz,y,zht ⟨pe,pe,pe,(pb y (ixI ti y ti y y y q79 w)),pe,pe,pe,pe,pe,pe,pe,(pb y (ixI ti y ti y y y q78 w)),pe,pe,pe,pe,pe,t⟩ (zo [.old 0,.old 2])⟩⟩),t⟩⟩⟩),nw,t⟩) ?_
       refine rg y<|u<|asg y<|za ?_
       obtain ⟨o,ho,h⟩:=bs h
       refine zX (X:=(List Bool)×Bool×Int) (B:=(List Bool)×Bool) (R:=Bool) (fun z=>[(0,.ipt 1 [[.isl 6 (map zc v1)]] 0 0),(1,iA v2),(5,.msl 0 0 (length z.1)),(6,bA z.2.1),(7,bA v73),(8,iA v107),(9,.msl 1 0 (length v111)),(10,iA z.2.2)]) (fun z=>[some (1,map rB z.1),some (1,map zf v111)]) (fun b=>[(0,.ipt 1 [[.isl 6 (map zc v1)]] 0 0),(1,iA v2),(5,.msl 0 0 (length b.1)),(6,bA b.2),(7,bA v73),(8,iA v107)]) (fun b=>[some (1,map rB b.1)]) (fun r env st=>zaN Tryz.prog Tryz.f71 0 (bA r) [] env st) ho (zo [.old 0,.old 1]) ?_ ?_ ?_
       ·
        rintro ⟨v122,v123,v124⟩ r h
        replace h:zcd v1 v111 v122 v123 v124=some r:=h
        unfold zcd at h
        refine zi ?_
        refine rg y<|u<|mv y<|u<|mv y<|u<|lnM ti y y y<|u<|lss ti y y<|za ?_
        refine ze y (fun hc89=>?_) (fun hc89=>?_)
        ·
         replace h:=bT hc89 h
         refine zg ?_
         refine za6 (X:=(List Bool)×Bool) (fun z=>[(0,.ipt 1 [[.isl 6 (map zc v1)]] 0 0),(1,iA v2),(5,.msl 0 0 (length z.1)),(6,bA z.2),(7,bA v73),(8,iA v107),(9,.msl 1 0 (length v111)),(10,iA v124)]) (fun z=>[some (1,map rB z.1),some (1,map zf v111)]) (fun z=>zdu v124 z.1 z.2=some r) ?_ ?_
         ·
          refine zr ?_
          obtain ⟨v125,q90,h⟩:=bs h
          obtain ⟨v126,q91,h⟩:=bs h
          refine rg y<|u<|mv y<|u<|mv y<|u<|mv y<|u<|ixM ti y ti y y y y q90<|u<|ldM ti y y (zl q90).2.2 y<|u<|pc (zV v1 v125 q91) y y y<|u<|asg y<|za ?_
          obtain ⟨v128,q94,h⟩:=bs h
          refine rg y<|u<|mv y<|u<|geq ti y y<|u<|mv y<|z7 (x:=v128) (j:=2) 5 y y y y y gpn (fun hb92=>by replace q94:=bT hb92 q94;obtain ⟨v127,q93,q94⟩:=bs q94;obtain rfl:=sm q94;exact g y hb92<|mv y<|g y hb92<|mv y<|g y hb92<|ixM ti y ti y y y y q93<|g y hb92<|ldM ti y y (zl q93).2.2 y<|g y hb92<|nt y<|za (eg [75,76,77,78,79] 5 y y y y)) (fun hb=>(sm (bF hb q94)).symm)<|za ?_
          refine ze y (fun hc95=>?_) (fun hc95=>?_)
          ·
           replace h:=bT hc95 h
           obtain ⟨v129,q96,h⟩:=bs h
           exact rl y<|u<|mv y<|u<|mv y<|u<|ixM ti y ti y y y y q96<|u<|zBR (c':=true) ti y y (zl q96).2.2 y y y y y<|u<|asg y<|za (⟨⟨(List.set v122 (Int.toNat v126) true),true⟩,h,[.old 0,.old 1],ce y y<|ce y y<|cv y (zBK (by simp) y)<|ce y y<|ce y y<|ce y y<|cv y (.msl y)<|ce y y<|cn,y,⟨⟨_,y,zjN (fun _=>y)⟩,⟨_,y,zjN (fun _=>y)⟩,t⟩,y,k⟩)
          ·
           replace h:=bF hc95 h
           refine zg ?_
           exact ⟨⟨v122,v123⟩,h,zo [.old 0,.old 1]⟩
         ·
          rintro ⟨v130,v131⟩ h
          replace h:zdu v124 v130 v131=some r:=h
          unfold zdu at h
          refine rl y<|u<|mv y<|u<|add ti y y<|u<|asg y<|za ?_
          obtain rfl:=sm h
          exact ⟨_,y,zo [.old 0,.old 1]⟩
        ·
         replace h:=bF hc89 h
         refine zD ?_
         obtain rfl:=sm h
         exact ⟨y,_,y,zo [.old 0]⟩
       ·
        rintro ⟨v132,v133⟩ rfl
        replace h:ze9 v107 v132 v133=some r:=h
        unfold ze9 at h
        refine zw ?_
        exact ⟨⟨v132,v133⟩,h,zo [.old 0]⟩
       ·
        rintro r' rfl env st hp
        obtain rfl:=sm h
        exact ⟨_,y,hp⟩
     ·
      rintro ⟨v134,v135⟩ h
      replace h:zdo v107 v134 v135=some r:=h
      unfold zdo at h
      refine rl y<|u<|mv y<|u<|add ti y y<|u<|asg y<|za ?_
      obtain rfl:=sm h
      exact ⟨_,y,zo [.old 0]⟩
    ·
     replace h:=bF hc73 h
     refine zD ?_
     obtain rfl:=sm h
     exact ⟨y,_,y,zo [.old 0]⟩
   ·
    rintro ⟨v136,v137⟩ rfl
    replace h:zfd v136 v137=some r:=h
    unfold zfd at h
    refine zw ?_
    refine rl y<|u<|asg y<|za ?_
    obtain rfl:=sm h
    exact ⟨_,y,zo [.old 0]⟩
   ·
    rintro r' rfl env st hp
    obtain rfl:=sm h
    exact ⟨_,y,hp⟩
  ·
   replace h:=bF hc48 h
   refine zD ?_
   obtain rfl:=sm h
   exact ⟨y,_,y,zo [.old 0]⟩
 ·
  rintro v138 rfl
  replace h:zhh v2 v138=some r:=h
  unfold zhh at h
  refine zw ?_
  obtain ⟨v139,q97,h⟩:=bs h
  refine rg y<|u<|mv y<|u<|mv y<|u<|ixM ti y ti y y y y q97<|u<|ldM ti y y (zl q97).2.2 y<|u<|asg y<|za ?_
  refine zj ?_
  obtain rfl:=sm h
  exact ⟨_,y,zy []⟩
 ·
  rintro r' rfl env st hp
  obtain rfl:=sm h
  exact hp
def zlC(v21:List zb):Option ((Option zR)×Int):=
  some ((some (zR.mk v21)),0)
def zjh(v57:Int)(v73:Bool):Option (Sum (Int) (Sum (Unit) ((Option zR)×Int))):=
  cond v73 (some (.inr (.inr (none,1)))) (some (.inl (IntKind.i64.wrap (v57+1))))
def zdC(v21:List zb)(v58:zb)(v68:Bool)(v69:Int):Option (Sum (Bool×Int) (Sum (Bool) ((Option zR)×Int))):=
  cond (decide (v69<(length v58.Impl:Int))) (cond v68 (some (.inl (true,(IntKind.i64.wrap (v69+1))))) ((idx v58.Impl v69).bind fun v70=>(zaD v21 v70).bind fun v71=>(idx v21 v71).bind fun v72=>some (.inl ((!v72.Interface),(IntKind.i64.wrap (v69+1)))))) (some (.inr (.inl v68)))
def zhq(v21:List zb)(v57:Int)(v58:zb)(v62:Bool):Option (Sum (Int) (Sum (Unit) ((Option zR)×Int))):=
  (zu (fun z=>zdC v21 v58 z.1 z.2) (v62,0)).bind fun o=>zU o (fun b=>zjh v57 b) (fun r=>some (.inr (.inr r)))
def ze5(v21:List zb)(v57:Int):Option (Sum (Int) (Sum (Unit) ((Option zR)×Int))):=
  cond (decide (v57<((length v21):Int))) ((idx v21 v57).bind fun v58=>(zaD v21 v58.Super).bind fun v59=>(idx v21 v59).bind fun v60=>cond v60.Interface (zhq v21 v57 v58 true) ((zfQ v21 v57).bind fun v61=>zhq v21 v57 v58 v61)) (some (.inr (.inl ())))
def zkE(v21:List zb):Option ((Option zR)×Int):=
  (zu (fun z=>ze5 v21 z) 1).bind fun o=>zU o (fun b=>zlC v21) some
def zkM(v31:Int):Option (Sum (Int) (Sum (Unit) ((Option zR)×Int))):=
  some (.inl (IntKind.i64.wrap (v31+1)))
def zf7(v21:List zb)(v32:zb)(v37:Int):Option (Sum (Int) (Sum (Unit) ((Option zR)×Int))):=
  cond (decide (v37<(length v32.Impl:Int))) ((idx v32.Impl v37).bind fun v38=>(zaD v21 v38).bind fun v39=>cond (decide (v39<0)) (some (.inr (.inr (none,4)))) (some (.inl (IntKind.i64.wrap (v37+1))))) (some (.inr (.inl ())))
def zfS(v21:List zb)(v31:Int):Option (Sum (Int) (Sum (Unit) ((Option zR)×Int))):=
  cond (decide (v31<((length v21):Int))) ((idx v21 v31).bind fun v32=>(zaD v21 v32.Super).bind fun v33=>cond (decide (v33<0)) (some (.inr (.inr (none,4)))) ((zu (fun z=>zf7 v21 v32 z) 0).bind fun o=>zU o (fun b=>zkM v31) (fun r=>some (.inr (.inr r))))) (some (.inr (.inl ())))
def zkJ(v21:List zb):Option ((Option zR)×Int):=
  (zu (fun z=>zfS v21 z) 1).bind fun o=>zU o (fun b=>zkE v21) some
def zeb(v1:List zb)(v12:List zb)(v13:Int):Option (Sum ((List zb)×Int) (Sum ((List zb)) ((Option zR)×Int))):=
  cond (decide (v13<(length v1:Int))) ((idx v1 v13).bind fun v14=>(zhx v14).bind fun v15=>(cond (!v15) (some true) ((idx v1 v13).bind fun v16=>(zaD v12 v16.Name).bind fun v17=>some (decide (0≤v17)))).bind fun v18=>cond v18 (some (.inr (.inr (none,1)))) ((idx v1 v13).bind fun v19=>(zis 112 v12 [v19]).bind fun v20=>some (.inl (v20,(IntKind.i64.wrap (v13+1)))))) (some (.inr (.inl v12)))
def znu(v1:List zb):Option ((Option zR)×Int):=
  cond (decide (16<(length v1:Int))) (some (none,3)) ((zlT).bind fun v2=>(zu (fun z=>zeb v1 z.1 z.2) (v2,0)).bind fun o=>zU o (fun b=>zkJ b) some)
theorem ztH(v1:List zb){r:(Option zR)×Int}(h:znu v1=some r):zI Tryz.prog 28 [.isl 6 (map zc v1)] (.tup [zk4 1 zfq r.1,iA r.2]):=by
 refine zq Tryz.func28 y kz y (zzV (zyg (zuA (fun _=>y)) (y))) ?_
 unfold znu at h
 refine rg y<|u<|asg y<|u<|asg y<|za ?_
 refine zi ?_
 refine rg y<|u<|mv y<|u<|lnI ti y y<|u<|gtr ti y y<|za ?_
 refine ze y (fun hc1=>?_) (fun hc1=>?_)
 ·
  replace h:=bT hc1 h
  refine rg y<|u<|asg y<|u<|asg y<|za ?_
  refine zj ?_
  obtain rfl:=sm h
  exact ⟨_,y,zy []⟩
 ·
  replace h:=bF hc1 h
  refine zg ?_
  obtain ⟨v2,q2,h⟩:=bs h
  refine rg y<|u<|sx [] (zrh q2)<|zx (env0:=[(0,.isl 6 (map zc v1)),(16,.msl 0 0 (length v2))]) (st0:=[some (6,map zc v2)]) (zo [.old 0])<|u<|bd ti y y y<|u<|bx 1 1 y y y y<|u<|asg y<|za ?_
  refine zi ?_
  refine rg y<|u<|asg y<|za ?_
  obtain ⟨o,ho,h⟩:=bs h
  refine zX (X:=(List zb)×Int) (B:=(List zb)) (R:=(Option zR)×Int) (fun z=>[(0,.isl 6 (map zc v1)),(4,.mpt 0 0 0),(5,iA z.2)]) (fun z=>[some (1,[[.msl 1 0 (length z.1)]]),some (6,map zc z.1)]) (fun b=>[(4,.mpt 0 0 0)]) (fun b=>[some (1,[[.msl 1 0 (length b)]]),some (6,map zc b)]) (fun r env st=>zaN Tryz.prog Tryz.f28 0 (.tup [zk4 1 zfq r.1,iA r.2]) [] env st) ho (zo [.old 1,.old 0]) ?_ ?_ ?_
  ·
   rintro ⟨v12,v13⟩ r h
   replace h:zeb v1 v12 v13=some r:=h
   unfold zeb at h
   refine zi ?_
   refine rg y<|u<|mv y<|u<|mv y<|u<|lnI ti y y<|u<|lss ti y y<|za ?_
   refine ze y (fun hc13=>?_) (fun hc13=>?_)
   ·
    replace h:=bT hc13 h
    refine zg ?_
    refine zi ?_
    refine zr ?_
    refine zi ?_
    obtain ⟨v14,q14,h⟩:=bs h
    obtain ⟨v15,q15,h⟩:=bs h
    obtain ⟨v18,q19,h⟩:=bs h
    refine rg y<|u<|mv y<|u<|mv y<|u<|ixI ti y ti y y y q14<|u<|ldI ti y (zl q14).2.2 y<|u<|pc (zox v14 q15) y y y<|u<|nt y<|u<|mv y<|zdj (x:=v18) (j:=6) 8 y y y y y gpn (fun hb16=>by replace q19:=bF hb16 q19;obtain ⟨v16,q17,q19⟩:=bs q19;obtain ⟨v17,q18,q19⟩:=bs q19;obtain rfl:=sm q19;exact g y hb16<|mv y<|g y hb16<|mv y<|g y hb16<|mv y<|g y hb16<|ixI ti y ti y y y q17<|g y hb16<|fa ti y y y<|g y hb16<|ldI ti y (zl q17).2.2 y<|g y hb16<|pcs (zV v12 v16.Name q18) y y (.cons (zcR y ⟨(zhU y (fun _=>y)),t⟩) (.cons (si y) .nil)) zcD<|g y hb16<|geq ti y y<|za (eg [32,33,34,35,36,37,38,39] 8 y y y y)) (fun hb=>(sm (bT hb q19)).symm)<|za ?_
    refine ze y (fun hc20=>?_) (fun hc20=>?_)
    ·
     replace h:=bT hc20 h
     refine rg y<|u<|asg y<|u<|asg y<|za ?_
     refine zj ?_
     obtain rfl:=sm h
     exact ⟨_,y,_,y,zy []⟩
    ·
     replace h:=bF hc20 h
     refine zg ?_
     obtain ⟨v19,q21,h⟩:=bs h
     obtain ⟨v20,q22,h⟩:=bs h
     refine zjq [(0,.isl 6 (map zc v1)),(4,.mpt 0 0 0),(5,iA v13)] [some (1,[[.msl 1 0 (length v20)]]),some (6,map zc v20)] [9,10,13] [8,7,6,5,4,3,2,1,0] [(49,.agg (zc v19)),(48,.ipt 6 (map zc v1) (Int.toNat v13) 0),(47,iA v13),(46,.isl 6 (map zc v1)),(45,.msl 1 0 (length v12)),(44,.mpt 0 0 0),(43,.mpt 0 0 0),(42,.mpt 0 0 0),(41,.mpt 0 0 0)] 3 (zem ⟨(pb y (ldI ti y (zl q21).2.2 y w)),(pb y (ixI ti y ti y y y q21 w)),pe,pe,pe,pe,pe,pe,pe,t⟩ ⟨(fun _ _=>⟨_,y,y,bl 2 ti y ti y (by decide) (by decide) y y y<|⟨(.msl 2 0 1),[],[(50,.msl 2 0 1)],y,y,kz,y,zem ⟨pe,(pb y (ixI ti y ti y y y q21 w)),pe,pe,pe,pe,pe,pe,pe,t⟩ ⟨nv,(fun _ _=>⟨_,y,y,apM 3 ti y ti y y (by decide) ti y y y y (roX (f:=zc) (z:=[v19]) y y) (fun _=>y) y q22<|⟨(.msl 3 0 (length v20)),[12,11],[(53,.mpt 0 0 0),(52,.mpt 0 0 0),(51,.msl 3 0 (length v20))],y,y,kz,y,zem ⟨pe,pe,pe,(pb y (ixI ti y ti y y y q21 w)),pe,pe,pe,pe,pe,pe,pe,t⟩ ⟨nv,nv,(fun _ _=>⟨_,y,y,sto ti y y y<|⟨.any,[],[],y,y,kz,t,zhW (zo [.old 0,.old 3])⟩⟩),t⟩⟩⟩),nw,t⟩⟩⟩),nw,nw,t⟩) ?_
     refine rl y<|u<|mv y<|u<|add ti y y<|u<|asg y<|za ?_
     obtain rfl:=sm h
     exact ⟨_,y,zo [.old 0,.old 1]⟩
   ·
    replace h:=bF hc13 h
    refine zD ?_
    obtain rfl:=sm h
    exact ⟨y,_,y,zo [.old 0,.old 1]⟩
  ·
   rintro v21 rfl
   replace h:zkJ v21=some r:=h
   unfold zkJ at h
   refine zw ?_
   refine zi ?_
   refine rg y<|u<|asg y<|za ?_
   obtain ⟨o,ho,h⟩:=bs h
   refine zX (X:=Int) (B:=Unit) (R:=(Option zR)×Int) (fun z=>[(4,.mpt 0 0 0),(6,iA z)]) (fun z=>[some (1,[[.msl 1 0 (length v21)]]),some (6,map zc v21)]) (fun b=>[(4,.mpt 0 0 0)]) (fun b=>[some (1,[[.msl 1 0 (length v21)]]),some (6,map zc v21)]) (fun r env st=>zaN Tryz.prog Tryz.f28 0 (.tup [zk4 1 zfq r.1,iA r.2]) [] env st) ho (zo [.old 0,.old 1]) ?_ ?_ ?_
   ·
    rintro v31 r h
    replace h:zfS v21 v31=some r:=h
    unfold zfS at h
    refine zi ?_
    refine rg y<|u<|mv y<|u<|mv y<|u<|nc y y<|u<|fa ti y y y<|u<|ld ti y y<|u<|lnM ti y y y<|u<|lss ti y y<|za ?_
    refine ze y (fun hc35=>?_) (fun hc35=>?_)
    ·
     replace h:=bT hc35 h
     refine zg ?_
     refine zi ?_
     refine zr ?_
     obtain ⟨v32,q36,h⟩:=bs h
     refine rg y<|u<|mv y<|u<|nc y y<|u<|fa ti y y y<|u<|ld ti y y<|u<|mv y<|u<|ixM ti y ti y y y y q36<|u<|ldM ti y y (zl q36).2.2 y<|u<|al 2 ti y<|u<|sto ti y y y<|za ?_
     refine zi ?_
     obtain ⟨v33,q37,h⟩:=bs h
     refine rg y<|u<|mv y<|u<|fa ti y y y<|u<|ld ti y y<|u<|pcs (zV v21 v32.Super q37) y y (.cons (zcR y ⟨(zhU y (fun _=>y)),t⟩) (.cons (si y) .nil)) zcD<|u<|lss ti y y<|za ?_
     refine ze y (fun hc38=>?_) (fun hc38=>?_)
     ·
      replace h:=bT hc38 h
      refine rg y<|u<|asg y<|u<|asg y<|za ?_
      refine zj ?_
      obtain rfl:=sm h
      exact ⟨_,y,_,y,zy []⟩
     ·
      replace h:=bF hc38 h
      refine zg ?_
      refine rg y<|u<|asg y<|za ?_
      obtain ⟨o,ho,h⟩:=bs h
      refine zX (X:=Int) (B:=Unit) (R:=(Option zR)×Int) (fun z=>[(4,.mpt 0 0 0),(6,iA v31),(7,.mpt 2 0 0),(8,iA z)]) (fun z=>[some (1,[[.msl 1 0 (length v21)]]),some (6,map zc v21),some (6,[(zc v32)])]) (fun b=>[(4,.mpt 0 0 0),(6,iA v31)]) (fun b=>[some (1,[[.msl 1 0 (length v21)]]),some (6,map zc v21)]) (fun r env st=>zaN Tryz.prog Tryz.f28 0 (.tup [zk4 1 zfq r.1,iA r.2]) [] env st) ho (zo [.old 0,.old 1,.old 2]) ?_ ?_ ?_
      ·
       rintro v37 r h
       replace h:zf7 v21 v32 v37=some r:=h
       unfold zf7 at h
       refine zi ?_
       refine rg y<|u<|mv y<|u<|fa ti y y y<|u<|ld ti y y<|u<|lnI ti y y<|u<|lss ti y y<|za ?_
       refine ze y (fun hc43=>?_) (fun hc43=>?_)
       ·
        replace h:=bT hc43 h
        refine zg ?_
        refine zi ?_
        refine zr ?_
        obtain ⟨v38,q44,h⟩:=bs h
        obtain ⟨v39,q45,h⟩:=bs h
        refine rg y<|u<|mv y<|u<|fa ti y y y<|u<|ld ti y y<|u<|mv y<|u<|ixI ti y ti y y y q44<|u<|ldI ti y (zl q44).2.2 y<|u<|pcs (zV v21 v38 q45) y y (.cons (zcR y ⟨(zhU y (fun _=>y)),t⟩) (.cons (si y) .nil)) zcD<|u<|lss ti y y<|za ?_
        refine ze y (fun hc46=>?_) (fun hc46=>?_)
        ·
         replace h:=bT hc46 h
         refine rg y<|u<|asg y<|u<|asg y<|za ?_
         refine zj ?_
         obtain rfl:=sm h
         exact ⟨_,y,_,y,zy []⟩
        ·
         replace h:=bF hc46 h
         refine zg ?_
         refine rl y<|u<|mv y<|u<|add ti y y<|u<|asg y<|za ?_
         obtain rfl:=sm h
         exact ⟨_,y,zo [.old 0,.old 1,.old 2]⟩
       ·
        replace h:=bF hc43 h
        refine zD ?_
        obtain rfl:=sm h
        exact ⟨y,_,y,zo [.old 0,.old 1]⟩
      ·
       rintro ⟨⟩ rfl
       replace h:zkM v31=some r:=h
       unfold zkM at h
       refine zw ?_
       refine rl y<|u<|mv y<|u<|add ti y y<|u<|asg y<|za ?_
       obtain rfl:=sm h
       exact ⟨_,y,zo [.old 0,.old 1]⟩
      ·
       rintro r' rfl env st hp
       obtain rfl:=sm h
       exact ⟨_,y,hp⟩
    ·
     replace h:=bF hc35 h
     refine zD ?_
     obtain rfl:=sm h
     exact ⟨y,_,y,zo [.old 0,.old 1]⟩
   ·
    rintro ⟨⟩ rfl
    replace h:zkE v21=some r:=h
    unfold zkE at h
    refine zw ?_
    refine zi ?_
    refine rg y<|u<|asg y<|za ?_
    obtain ⟨o,ho,h⟩:=bs h
    refine zX (X:=Int) (B:=Unit) (R:=(Option zR)×Int) (fun z=>[(4,.mpt 0 0 0),(9,iA z)]) (fun z=>[some (1,[[.msl 1 0 (length v21)]]),some (6,map zc v21)]) (fun b=>[(4,.mpt 0 0 0)]) (fun b=>[some (1,[[.msl 1 0 (length v21)]]),some (6,map zc v21)]) (fun r env st=>zaN Tryz.prog Tryz.f28 0 (.tup [zk4 1 zfq r.1,iA r.2]) [] env st) ho (zo [.old 0,.old 1]) ?_ ?_ ?_
    ·
     rintro v57 r h
     replace h:ze5 v21 v57=some r:=h
     unfold ze5 at h
     refine zi ?_
     refine rg y<|u<|mv y<|u<|mv y<|u<|nc y y<|u<|fa ti y y y<|u<|ld ti y y<|u<|lnM ti y y y<|u<|lss ti y y<|za ?_
     refine ze y (fun hc64=>?_) (fun hc64=>?_)
     ·
      replace h:=bT hc64 h
      refine zg ?_
      refine zi ?_
      refine zr ?_
      obtain ⟨v58,q65,h⟩:=bs h
      refine rg y<|u<|mv y<|u<|nc y y<|u<|fa ti y y y<|u<|ld ti y y<|u<|mv y<|u<|ixM ti y ti y y y y q65<|u<|ldM ti y y (zl q65).2.2 y<|u<|al 2 ti y<|u<|sto ti y y y<|za ?_
      refine za6 (X:=Bool) (fun z=>[(4,.mpt 0 0 0),(9,iA v57),(10,.mpt 2 0 0),(11,bA z)]) (fun z=>[some (1,[[.msl 1 0 (length v21)]]),some (6,map zc v21),some (6,[(zc v58)])]) (fun z=>zhq v21 v57 v58 z=some r) ?_ ?_
      ·
       obtain ⟨v59,q66,h⟩:=bs h
       obtain ⟨v60,q67,h⟩:=bs h
       rcases bb v60.Interface with hb68 |hb68
       ·
        replace h:=bT hb68 h
        exact zae [] [16,15,14,13,12,11,10,9,8,7,6,5,4,3,2,1,0] [(11,bA true),(121,bA true),(120,.lit undef),(119,.lit undef),(118,.lit undef),(117,bA v60.Interface),(116,bA v60.Interface),(115,.mpt 1 (Int.toNat v59) 2),(114,.mpt 1 (Int.toNat v59) 0),(113,iA v59),(112,sA v58.Super),(111,.mpt 2 0 1),(110,.mpt 0 0 0),(109,.msl 1 0 (length v21)),(108,.mpt 0 0 0),(107,.mpt 0 0 0),(106,.mpt 0 0 0)] 0 kz kz y kz (zht ⟨pe,pe,pe,pe,pe,pe,(pb y (ldM ti y y (zl q67).2.2 y w)),pe,(pb y (ixM ti y ti y y y y q67 w)),(pb y (pcs (zV v21 v58.Super q66) y y (.cons (zcR y ⟨(zhU y (fun _=>y)),t⟩) (.cons (si y) .nil)) zcD w)),pe,pe,pe,pe,pe,pe,pe,t⟩ ⟨true,h,zo [.old 0,.old 1,.old 2]⟩)
       ·
        replace h:=bF hb68 h
        obtain ⟨v61,q69,h⟩:=bs h
        exact zae [] [16,15,14,13,12,11,10,9,8,7,6,5,4,3,2,1,0] [(11,bA v61),(121,bA v61),(120,bA v61),(119,iA v57),(118,.mpt 0 0 0),(117,bA v60.Interface),(116,bA v60.Interface),(115,.mpt 1 (Int.toNat v59) 2),(114,.mpt 1 (Int.toNat v59) 0),(113,iA v59),(112,sA v58.Super),(111,.mpt 2 0 1),(110,.mpt 0 0 0),(109,.msl 1 0 (length v21)),(108,.mpt 0 0 0),(107,.mpt 0 0 0),(106,.mpt 0 0 0)] 0 kz kz y kz (zht ⟨pe,pe,(fun _=>pag (b:=v60.Interface) y y y y hb68 y (pcs (znb v21 v57 q69) y y (.cons (zcR y ⟨(zhU y (fun _=>y)),t⟩) (.cons (si y) .nil)) zcD<|w)),pe,pe,pe,(pb y (ldM ti y y (zl q67).2.2 y w)),pe,(pb y (ixM ti y ti y y y y q67 w)),(pb y (pcs (zV v21 v58.Super q66) y y (.cons (zcR y ⟨(zhU y (fun _=>y)),t⟩) (.cons (si y) .nil)) zcD w)),pe,pe,pe,pe,pe,pe,pe,t⟩ ⟨v61,h,zo [.old 0,.old 1,.old 2]⟩)
      ·
       rintro v62 h
       replace h:zhq v21 v57 v58 v62=some r:=h
       unfold zhq at h
       refine zi ?_
       refine rg y<|u<|asg y<|za ?_
       obtain ⟨o,ho,h⟩:=bs h
       refine zX (X:=Bool×Int) (B:=Bool) (R:=(Option zR)×Int) (fun z=>[(4,.mpt 0 0 0),(9,iA v57),(10,.mpt 2 0 0),(11,bA z.1),(12,iA z.2)]) (fun z=>[some (1,[[.msl 1 0 (length v21)]]),some (6,map zc v21),some (6,[(zc v58)])]) (fun b=>[(4,.mpt 0 0 0),(9,iA v57),(11,bA b)]) (fun b=>[some (1,[[.msl 1 0 (length v21)]]),some (6,map zc v21)]) (fun r env st=>zaN Tryz.prog Tryz.f28 0 (.tup [zk4 1 zfq r.1,iA r.2]) [] env st) ho (zo [.old 0,.old 1,.old 2]) ?_ ?_ ?_
       ·
        rintro ⟨v68,v69⟩ r h
        replace h:zdC v21 v58 v68 v69=some r:=h
        unfold zdC at h
        refine zi ?_
        refine rg y<|u<|mv y<|u<|fa ti y y y<|u<|ld ti y y<|u<|lnI ti y y<|u<|lss ti y y<|za ?_
        refine ze y (fun hc75=>?_) (fun hc75=>?_)
        ·
         replace h:=bT hc75 h
         refine zg ?_
         refine zi ?_
         refine zr ?_
         rcases bb v68 with hb76 |hb76
         ·
          replace h:=bT hb76 h
          refine zjq [(4,.mpt 0 0 0),(9,iA v57),(10,.mpt 2 0 0),(11,bA true),(12,iA v69)] [some (1,[[.msl 1 0 (length v21)]]),some (6,map zc v21),some (6,[(zc v58)])] [] [18,17,16,15,14,13,12,11,10,9,8,7,6,5,4,3,2,1,0] [(11,bA true),(146,bA true),(145,.lit undef),(144,.lit undef),(143,.lit undef),(142,.lit undef),(141,.lit undef),(140,.lit undef),(139,.lit undef),(138,.lit undef),(137,.lit undef),(136,.lit undef),(135,.lit undef),(134,.lit undef),(133,.lit undef),(132,.lit undef),(131,.lit undef),(130,bA v68),(129,bA v68)] 0 (zhW (zo [.old 0,.old 1,.old 2])) ?_
          refine rl y<|u<|mv y<|u<|add ti y y<|u<|asg y<|za ?_
          obtain rfl:=sm h
          exact ⟨_,y,zo [.old 0,.old 1,.old 2]⟩
         ·
          replace h:=bF hb76 h
          obtain ⟨v70,q77,h⟩:=bs h
          obtain ⟨v71,q78,h⟩:=bs h
          obtain ⟨v72,q79,h⟩:=bs h
          refine zjq [(4,.mpt 0 0 0),(9,iA v57),(10,.mpt 2 0 0),(11,bA (!v72.Interface)),(12,iA v69)] [some (1,[[.msl 1 0 (length v21)]]),some (6,map zc v21),some (6,[(zc v58)])] [] [18,17,16,15,14,13,12,11,10,9,8,7,6,5,4,3,2,1,0] [(11,bA (!v72.Interface)),(146,bA (!v72.Interface)),(145,bA (!v72.Interface)),(144,bA v72.Interface),(143,.mpt 1 (Int.toNat v71) 2),(142,.mpt 1 (Int.toNat v71) 0),(141,iA v71),(140,sA v70),(139,.ipt 1 (map zf v58.Impl) (Int.toNat v69) 0),(138,iA v69),(137,.isl 1 (map zf v58.Impl)),(136,.mpt 2 0 3),(135,.mpt 0 0 0),(134,.msl 1 0 (length v21)),(133,.mpt 0 0 0),(132,.mpt 0 0 0),(131,.mpt 0 0 0),(130,bA v68),(129,bA v68)] 0 (zht ⟨pe,pe,pe,(fun _=>pag (b:=v68) y y y y hb76 y (ldM ti y y (zl q79).2.2 y<|w)),pe,(fun _=>pag (b:=v68) y y y y hb76 y (ixM ti y ti y y y y q79<|w)),(fun _=>pag (b:=v68) y y y y hb76 y (pcs (zV v21 v70 q78) y y (.cons (zcR y ⟨(zhU y (fun _=>y)),t⟩) (.cons (si y) .nil)) zcD<|w)),(fun _=>pag (b:=v68) y y y y hb76 y (ldI ti y (zl q77).2.2 y<|w)),(fun _=>pag (b:=v68) y y y y hb76 y (ixI ti y ti y y y q77<|w)),pe,pe,pe,pe,pe,pe,pe,pe,pe,pe,t⟩ (zo [.old 0,.old 1,.old 2])) ?_
          refine rl y<|u<|mv y<|u<|add ti y y<|u<|asg y<|za ?_
          obtain rfl:=sm h
          exact ⟨_,y,zo [.old 0,.old 1,.old 2]⟩
        ·
         replace h:=bF hc75 h
         refine zD ?_
         obtain rfl:=sm h
         exact ⟨y,_,y,zo [.old 0,.old 1]⟩
       ·
        rintro v73 rfl
        replace h:zjh v57 v73=some r:=h
        unfold zjh at h
        refine zw ?_
        refine rg y<|u<|mv y<|za ?_
        refine ze y (fun hc80=>?_) (fun hc80=>?_)
        ·
         replace h:=bT hc80 h
         refine rg y<|u<|asg y<|u<|asg y<|za ?_
         refine zj ?_
         obtain rfl:=sm h
         exact ⟨_,y,_,y,zy []⟩
        ·
         replace h:=bF hc80 h
         refine zg ?_
         refine rl y<|u<|mv y<|u<|add ti y y<|u<|asg y<|za ?_
         obtain rfl:=sm h
         exact ⟨_,y,zo [.old 0,.old 1]⟩
       ·
        rintro r' rfl env st hp
        obtain rfl:=sm h
        exact ⟨_,y,hp⟩
     ·
      replace h:=bF hc64 h
      refine zD ?_
      obtain rfl:=sm h
      exact ⟨y,_,y,zo [.old 0,.old 1]⟩
    ·
     rintro ⟨⟩ rfl
     replace h:zlC v21=some r:=h
     unfold zlC at h
     refine zw ?_
     refine rg y<|u<|mv y<|u<|asg y<|u<|asg y<|za ?_
     refine zj ?_
     obtain rfl:=sm h
     exact ⟨_,y,[],ztG ⟨(rsP y y ⟨(zn9 y y (fun _=>y)),t⟩ y),(ci y),t⟩,y,t,y,k⟩
    ·
     rintro r' rfl env st hp
     obtain rfl:=sm h
     exact hp
   ·
    rintro r' rfl env st hp
    obtain rfl:=sm h
    exact hp
  ·
   rintro r' rfl env st hp
   obtain rfl:=sm h
   exact hp
def zr2(x:zt):Prop:=(wS) x.Name∧(wS) x.Type_∧(wT) x.Static
theorem zvP{n:Nat}{avs:List AV}(h:zod Tryz.prog (n+2) 52 avs):∃x:zt,avs=zJ x∧zr2 x:=by
 obtain ⟨parts,rfl,hl,hg⟩:=gdF Tryz.underlying52 h
 match parts,hl with
 | [p0,p1,p2],_ =>
  obtain ⟨x0,rfl,w0⟩:=gdS Tryz.underlying9 (hg 0 _ p0 rfl rfl)
  obtain ⟨x1,rfl,w1⟩:=gdS Tryz.underlying9 (hg 1 _ p1 rfl rfl)
  obtain ⟨x2,rfl,w2⟩:=gdB Tryz.underlying4 (hg 2 _ p2 rfl rfl)
  exact ⟨⟨x0,x1,x2⟩,rfl,w0,w1,w2⟩
def zxg(x:zH):Prop:=(wI .i64) x.Op∧(wI .i64) x.A∧(wS) x.C∧(wS) x.M
theorem zym{n:Nat}{avs:List AV}(h:zod Tryz.prog (n+2) 69 avs):∃x:zH,avs=zv x∧zxg x:=by
 obtain ⟨parts,rfl,hl,hg⟩:=gdF Tryz.underlying69 h
 match parts,hl with
 | [p0,p1,p2,p3],_ =>
  obtain ⟨x0,rfl,w0⟩:=gdI Tryz.underlying3 (hg 0 _ p0 rfl rfl)
  obtain ⟨x1,rfl,w1⟩:=gdI Tryz.underlying3 (hg 1 _ p1 rfl rfl)
  obtain ⟨x2,rfl,w2⟩:=gdS Tryz.underlying9 (hg 2 _ p2 rfl rfl)
  obtain ⟨x3,rfl,w3⟩:=gdS Tryz.underlying9 (hg 3 _ p3 rfl rfl)
  exact ⟨⟨x0,x1,x2,x3⟩,rfl,w0,w1,w2,w3⟩
def zx5(x:zas):Prop:=(wI .i64) x.At∧(wL (wS)) x.Locals∧(wL (wS)) x.Stack
theorem zyI{n:Nat}{avs:List AV}(h:zod Tryz.prog (n+3) 78 avs):∃x:zas,avs=zP x∧zx5 x:=by
 obtain ⟨parts,rfl,hl,hg⟩:=gdF Tryz.underlying78 h
 match parts,hl with
 | [p0,p1,p2],_ =>
  obtain ⟨x0,rfl,w0⟩:=gdI Tryz.underlying3 (hg 0 _ p0 rfl rfl)
  obtain ⟨x1,rfl,w1⟩:=gdL (k:=1) Tryz.underlying25 (by kernel_rfl) (fun h=>gdS Tryz.underlying9 h) (hg 1 _ p1 rfl rfl)
  obtain ⟨x2,rfl,w2⟩:=gdL (k:=1) Tryz.underlying25 (by kernel_rfl) (fun h=>gdS Tryz.underlying9 h) (hg 2 _ p2 rfl rfl)
  exact ⟨⟨x0,x1,x2⟩,rfl,w0,w1,w2⟩
def zuq(x:zbe):Prop:=(wI .i64) x.From∧(wI .i64) x.To∧(wI .i64) x.At∧(wS) x.C
theorem zww{n:Nat}{avs:List AV}(h:zod Tryz.prog (n+2) 85 avs):∃x:zbe,avs=zbL x∧zuq x:=by
 obtain ⟨parts,rfl,hl,hg⟩:=gdF Tryz.underlying85 h
 match parts,hl with
 | [p0,p1,p2,p3],_ =>
  obtain ⟨x0,rfl,w0⟩:=gdI Tryz.underlying3 (hg 0 _ p0 rfl rfl)
  obtain ⟨x1,rfl,w1⟩:=gdI Tryz.underlying3 (hg 1 _ p1 rfl rfl)
  obtain ⟨x2,rfl,w2⟩:=gdI Tryz.underlying3 (hg 2 _ p2 rfl rfl)
  obtain ⟨x3,rfl,w3⟩:=gdS Tryz.underlying9 (hg 3 _ p3 rfl rfl)
  exact ⟨⟨x0,x1,x2,x3⟩,rfl,w0,w1,w2,w3⟩
def znP(x:zd):Prop:=(wS) x.Name∧(wL (wS)) x.Params∧(wS) x.Ret∧(wT) x.Static∧(wT) x.Abstract∧(wI .i64) x.Locals∧(wI .i64) x.Stack∧(wL (zxg)) x.Code∧(wL (zx5)) x.Maps∧(wL (zuq)) x.Traps
theorem ztz{n:Nat}{avs:List AV}(h:zod Tryz.prog (n+5) 76 avs):∃x:zd,avs=zh x∧znP x:=by
 obtain ⟨parts,rfl,hl,hg⟩:=gdF Tryz.underlying76 h
 match parts,hl with
 | [p0,p1,p2,p3,p4,p5,p6,p7,p8,p9],_ =>
  obtain ⟨x0,rfl,w0⟩:=gdS Tryz.underlying9 (hg 0 _ p0 rfl rfl)
  obtain ⟨x1,rfl,w1⟩:=gdL (k:=1) Tryz.underlying25 (by kernel_rfl) (fun h=>gdS Tryz.underlying9 h) (hg 1 _ p1 rfl rfl)
  obtain ⟨x2,rfl,w2⟩:=gdS Tryz.underlying9 (hg 2 _ p2 rfl rfl)
  obtain ⟨x3,rfl,w3⟩:=gdB Tryz.underlying4 (hg 3 _ p3 rfl rfl)
  obtain ⟨x4,rfl,w4⟩:=gdB Tryz.underlying4 (hg 4 _ p4 rfl rfl)
  obtain ⟨x5,rfl,w5⟩:=gdI Tryz.underlying3 (hg 5 _ p5 rfl rfl)
  obtain ⟨x6,rfl,w6⟩:=gdI Tryz.underlying3 (hg 6 _ p6 rfl rfl)
  obtain ⟨x7,rfl,w7⟩:=gdL (k:=4) Tryz.underlying72 (by kernel_rfl) (fun h=>zym h) (hg 7 _ p7 rfl rfl)
  obtain ⟨x8,rfl,w8⟩:=gdL (k:=3) Tryz.underlying73 (by kernel_rfl) (fun h=>zyI h) (hg 8 _ p8 rfl rfl)
  obtain ⟨x9,rfl,w9⟩:=gdL (k:=4) Tryz.underlying74 (by kernel_rfl) (fun h=>zww h) (hg 9 _ p9 rfl rfl)
  exact ⟨⟨x0,x1,x2,x3,x4,x5,x6,x7,x8,x9⟩,rfl,w0,w1,w2,w3,w4,w5,w6,w7,w8,w9⟩
def zjZ(x:zb):Prop:=(wS) x.Name∧(wS) x.Super∧(wT) x.Interface∧(wL (wS)) x.Impl∧(wL (zr2)) x.Fields∧(wL (znP)) x.Methods
theorem zvA{n:Nat}{avs:List AV}(h:zod Tryz.prog (n+7) 29 avs):∃x:zb,avs=zc x∧zjZ x:=by
 obtain ⟨parts,rfl,hl,hg⟩:=gdF Tryz.underlying29 h
 match parts,hl with
 | [p0,p1,p2,p3,p4,p5],_ =>
  obtain ⟨x0,rfl,w0⟩:=gdS Tryz.underlying9 (hg 0 _ p0 rfl rfl)
  obtain ⟨x1,rfl,w1⟩:=gdS Tryz.underlying9 (hg 1 _ p1 rfl rfl)
  obtain ⟨x2,rfl,w2⟩:=gdB Tryz.underlying4 (hg 2 _ p2 rfl rfl)
  obtain ⟨x3,rfl,w3⟩:=gdL (k:=1) Tryz.underlying25 (by kernel_rfl) (fun h=>gdS Tryz.underlying9 h) (hg 3 _ p3 rfl rfl)
  obtain ⟨x4,rfl,w4⟩:=gdL (k:=3) Tryz.underlying26 (by kernel_rfl) (fun h=>zvP h) (hg 4 _ p4 rfl rfl)
  obtain ⟨x5,rfl,w5⟩:=gdL (k:=10) Tryz.underlying27 (by kernel_rfl) (fun h=>ztz h) (hg 5 _ p5 rfl rfl)
  exact ⟨⟨x0,x1,x2,x3,x4,x5⟩,rfl,w0,w1,w2,w3,w4,w5⟩
theorem R.trunc{A:Nat→Prop}{m:BM}{w:World}{st:St}(hR:R A m w st){l k:Nat}{els:List (List AV)}(he:st[l]?=some (some (k,els)))(q:Nat)(hk:Nat.beq k 2=false):
  R A m w (st.set l (some (k,els.take q))):=by
 have hl:l<st.length:=(List.getElem?_eq_some_iff.1 he).1
 have hk2:k≠2:=fun e=>by subst e;cases hk
 refine ⟨hR.aLow,hR.aOwn,hR.inj,fun x b hb=>?_,fun x k' els' hx=>?_⟩
 ·by_cases e:l=x
  ·subst e
   exact ⟨els.take q,by rw [List.getElem?_set_self hl,(hR.at hb he).1]⟩
  ·obtain ⟨els1,h1⟩:=hR.live x b hb
   exact ⟨els1,by rw [List.getElem?_set_ne e];exact h1⟩
 ·rw [List.length_set]
  by_cases e:l=x
  ·subst e
   rw [List.getElem?_set_self hl] at hx
   cases hx
   obtain ⟨b,h1,h2,h3,h4⟩:=hR.blk l k els he
   refine ⟨b,h1,h2,fun hh=>?_,fun hh=>by rw [h4 hh];simp⟩
   have ho:=h3 hh
   refine ⟨ho.low,ho.there,ho.free,fun hq=>?_,fun i hi=>?_,fun hq i hi j hj=>?_,fun hq=>?_⟩
   ·refine Nat.le_trans (Nat.add_le_add_left (Nat.mul_le_mul_right _ ?_) _) (ho.fit hq)
    simp;omega
   ·simp only [List.getElem_take];exact ho.wide _ _
   ·simp only [List.getElem_take] at hj ⊢
    exact ho.val hq i (by simp at hi;omega) j hj
   ·exact absurd (h2.symm.trans (ho.mval hq).1) hk2
  ·rw [List.getElem?_set_ne e] at hx
   exact hR.blk x k' els' hx
theorem zwL{α:Type}{l r:List α}{c:Int}(h:zj6 l 0 c=some r):r=l.take c.toNat:=by
 unfold zj6 at h
 split at h
 ·cases h;simp
 ·cases h
section
variable {P : Program} {n nb0 : Nat} {all l1 l2 : List Oper} {K : Ev → St → Prop} {env : Ev} {st : St} {d : Nat} {ty : TypeId} {pos : String} {aft : Array Edge} {gu : Option (Nat × Bool)}
theorem zCl{α:Type}{cd:Code}{Q:Exit→Ev→St→Prop}{b sz:Nat}{l r:List α}{f:α→List AV}{c:Int}(hb:st[b]?=some (some (sz,l.map f)))(hk:Nat.beq sz 2=false)(h:zj6 l 0 c=some r)
  (k:SW P n nb0 cd Q env (st.set b (some (sz,r.map f)))):SW P n nb0 cd Q env st:=by
 intro A m w a h0 hR hE
 have e:r.map f=(l.map f).take c.toNat:=by rw [zwL h,List.map_take]
 rw [e] at k
 have hlen:(st.set b (some (sz,(l.map f).take c.toNat))).length=st.length:=by simp
 exact k A m w a (by rw [hlen];exact h0) (hR.trunc hb c.toNat hk) (by rw [hlen];exact hE)
theorem slM{α:Type}{t e:TypeId}{x:Operand}{hi:Option Operand}{ti te:TI}{sz b:Nat}{l r:List α}{f:α→List AV}{c:Int}(ht:zcM P t=some ti)(hk:ti.k=.slc e)(he:zcM P e=some te)(hs:te.size=sz)(hx:ev env x=some (.msl b 0 l.length))
  (hb:st[b]?=some (some (sz,l.map f))) (hhi:zk8 env l.length hi=some c.toNat) (h:zj6 l 0 c=some r) (k:K ((d,.msl b 0 r.length)::env) st):SOp P ⟨some d,.slice t x none hi none,ty,pos,aft,gu⟩ env st K:=zfR rfl (by
   unfold zj6 at h
   split at h
   ·rename_i h1
    cases h
    have e':zsW (.msl b 0 l.length)=some l.length:=rfl
    have e0:zk8 env 0 none=some 0:=rfl
    simp only [aop,ht,hk,hx,e',he,hhi,e0,zzO,hb]
    rw [if_pos ⟨hs.symm,by omega,by omega⟩]
    have:((l.drop (0:Int).toNat).take (c.toNat-(0:Int).toNat)).length=c.toNat-0:=by simp;omega
    rw [this];rfl
   ·cases h) k
theorem zCL{α:Type}{sz:Nat}{l:List α}{f:α→List AV}{i:Int}{c:α}(h:idx l i=some c)(k:SR P n nb0 all l1 l2 K ((d,.ipt sz [f c] 0 0)::env) st):SR P n nb0 all l1 l2 K ((d,.ipt sz (l.map f) i.toNat 0)::env) st:=by
 intro ops q ho hd hn A m w a h0 hR hE Q hQ
 obtain ⟨_,hi,hc⟩:=zl h
 refine k ops q ho hd hn A m w a h0 hR ⟨hE.size,fun t v hl=>?_,hE.defers⟩ Q hQ
 simp only [zbu] at hl
 split at hl
 ·rename_i e
  cases hl
  obtain ⟨h1,h2⟩:=hE.val t (.ipt sz (l.map f) i.toNat 0) (by simp [zbu,e])
  refine ⟨h1,.imm ?_⟩
  have h3:=h2.ipt_inv
  generalize a.tmps.getD t undef=v at h3
  have hg:(l.map f)[i.toNat]'(by simpa using hi)=f c:=by
   have:=(List.getElem?_eq_some_iff.1 hc).2
   simp [this]
  cases h3 with
  |ipt _ _ _ _ B o vs hA hk hcell hval =>
   have:=VI.ipt (A:=A) (w:=w) sz [f c] 0 0 B (o+i.toNat*sz) (fun _ j=>vs i.toNat j) hA
    (fun i' hi'=>by
     have:i'=0:=by simpa using hi'
     subst this
     show (f c).length=sz
     rw [←hg];exact hk _ _)
    (fun i' j hi' hj=>by
     have:i'=0:=by simpa using hi'
     subst this
     rw [←hcell i.toNat j (by simpa using hi) hj]
     congr 2;omega)
    (fun i' hi' j hj=>by
     have:i'=0:=by simpa using hi'
     subst this
     have hj':j<((l.map f)[i.toNat]'(by simpa using hi)).length:=by rw [hg];exact hj
     have h5:=hval i.toNat (by simpa using hi) j hj'
     have e5:((l.map f)[i.toNat]'(by simpa using hi))[j]=(f c)[j]'hj:=by simp only [hg]
     rw [e5] at h5
     exact h5)
   simpa using this
 ·rename_i e
  exact hE.val t v (by simp [zbu,e,hl])
theorem zCs{α:Type}{t u' e:TypeId}{x y:Operand}{ti:TI}{sz:Nat}{l:List α}{f:α→List AV}(ht:zcM P t=some ti)(hk:ti.k=.slc e)(hx:ev env x=some (.isl sz (l.map f)))(hy:ev env y=some (.lit (.slice none 0 0)))
  (hh:(l=[]→SR P n nb0 all l1 l2 K ((d,.lit (.bool true))::env) st)∧SR P n nb0 all l1 l2 K ((d,.lit (.bool false))::env) st):SR P n nb0 all (⟨some d,.binOp .eql t x y u',ty,pos,aft,none⟩::l1) l2 K env st:=by
 obtain ⟨h1,h2⟩:=hh
 intro ops i ho hd hn A m w a h0 hR hE Q hQ
 obtain ⟨hi,hd',hdo⟩:=zCb ho hd hn
 have e:((⟨some d,.binOp .eql t x y u',ty,pos,aft,none⟩:Oper)::l1).length+l2.length=(l1.length+l2.length)+1:=by simp;omega
 rw [e,List.range'_succ]
 simp only [wpOps,hi]
 rw [zf1 (b:=true) hE (by rfl)]
 simp only [if_true]
 refine .inl ?_
 obtain ⟨dd,i0,hdd,_,_,_,_,hdk,_⟩:=zbX ht
 rw [hk] at hdk
 have hds:=zj4 hdk
 subst hds
 have fin:∀b:Bool,(execOp a.eval ⟨some d,.binOp .eql t x y u',ty,pos,aft,none⟩).run P w=.ok (.value (.bool b)) w→SR P n nb0 all l1 l2 K ((d,.lit (.bool b))::env) st →
   Oper.wp P ⟨some d,.binOp .eql t x y u',ty,pos,aft,none⟩ a w (fun a' w'=>wpOps P ops Q (List.range' (i+1) (l1.length+l2.length)) a' w') Q:=fun b hr k=>by
  unfold Oper.wp
  rw [hr]
  refine k ops (i+1) ho hd' hn A m w _ h0 hR (hE.aput (d:=some d) hdo (.imm (.lit _))) Q fun a2 w2 k2=>?_
  have:=hQ a2 w2 k2
  rwa [List.length_cons,Nat.add_comm l1.length 1,←Nat.add_assoc] at this
 have run:∀(ad:Option Addr) (n1 c1:Nat),a.eval x=.slice ad n1 c1→(execOp a.eval ⟨some d,.binOp .eql t x y u',ty,pos,aft,none⟩).run P w=.ok (.value (.bool ad.isNone)) w:=fun ad n1 c1 hq=>by
  have hy':=(z6 hE hy).lit_inv
  have e1:=zlZ (P:=P) (w:=w) hdd ad n1 c1
  show ((do pure (.value (←(do eqGuard .eql t x y (a.eval x) (a.eval y);binOp .eql t (a.eval x) (a.eval y):Sem Value))):Sem Next).run P w)=_
  rw [hq,hy']
  simp only [Sem.run_bind,zlA,Result.andThen_ok,binOp,e1]
  rfl
 have hv:=(z6 hE hx).isl_inv
 generalize hg:l.map f=els at hv
 generalize hq:a.eval x=v at hv
 cases hv with
 |isl _ _ B o cap vs hA hcap hk hcell hval=>exact fin _ (run _ _ _ hq) h2
 |inil _ ad cap =>
  have hl:l=[]:=by simpa using hg
  cases ad with
  |none=>exact fin _ (run _ _ _ hq) (h1 hl)
  |some _=>exact fin _ (run _ _ _ hq) h2
theorem zCj{v v':AV}(e:v=v')(k:SR P n nb0 all l1 l2 K ((d,v')::env) st):SR P n nb0 all l1 l2 K ((d,v)::env) st:=by rw [e];exact k
end
theorem zw2{α:Type}{τ:Nat→Nat}{k:Nat}{f:α→List AV}{o:Option α}:rn τ (zk4 k f o)=zk4 k f o:=by cases o <;> rfl
def vK(h0:List zb)(h1:T2)(c:T0)(m:zd)(x0:AV)(x1:AV)(x2:AV):List AV:=[.ipt 2 [[.isl 6 (map zc h0),.imp (map (rKV (fun x=>iA x)) h1)]] 0 0,sA c,sA m.Name,.isl 1 (map zf m.Params),sA m.Ret,bA m.Static,bA m.Abstract,iA m.Locals,iA m.Stack,.isl 4 (map zv m.Code),.isl 3 (map zP m.Maps),.isl 4 (map zbL m.Traps),x0,x1,x2]
def zuX(v1:T0):Unit:=
  ()
theorem ztf(v1:T0){r:Unit}(h:zuX v1=r):SC Tryz.prog 22 [sA v1] [] (.agg [sA v1,sA [79,98,106,101,99,116],bA false,.lit (.slice none 0 0),.msl 0 0 1,.msl 1 0 1]) [.xs 3 [[sA [120],sA [73],bA false]],.xs 10 [[sA [109,97,105,110],.lit (.slice none 0 0),sA [86],bA true,bA false,iA 0,iA 0,.msl 2 0 1,.lit (.slice none 0 0),.lit (.slice none 0 0)]],.xs 4 [[iA 46,iA 0,sA [],sA []]]]:=by
 refine ⟨⟨t,t,t,t⟩,zW Tryz.func22 y kz y ?_⟩
 unfold zuX at h
 refine rg y<|u<|al 0 ti y<|za ?_
 refine rg y<|u<|mv y<|u<|bd ti y y y<|u<|bl 1 ti y ti y (by decide) (by decide) y y y<|u<|bd ti y y y<|u<|bl 2 ti y ti y (by decide) (by decide) y y y<|u<|bd ti y y y<|u<|bl 3 ti y ti y (by decide) (by decide) y y y<|u<|bd ti y y y<|u<|sto ti y y y<|za ?_
 refine zj ?_
 obtain rfl:=h
 exact ⟨_,y,zy [.old 1,.old 3,.old 2]⟩
def zud:Unit:=
  ()
theorem zoQ{r:Unit}(h:zud=r):SC Tryz.prog 51 [] [] (.msl 0 0 3) [.xs 6 [[sA [70,97,99,101],sA [79,98,106,101,99,116],bA true,.lit (.slice none 0 0),.lit (.slice none 0 0),.msl 1 0 1],[sA [65,97],sA [79,98,106,101,99,116],bA false,.msl 2 0 1,.msl 3 0 2,.msl 4 0 1],[sA [66,98],sA [65,97],bA false,.lit (.slice none 0 0),.msl 6 0 1,.msl 7 0 1]],.xs 10 [[sA [102],.lit (.slice none 0 0),sA [73],bA false,bA true,iA 0,iA 0,.lit (.slice none 0 0),.lit (.slice none 0 0),.lit (.slice none 0 0)]],.xs 1 [[sA [70,97,99,101]]],.xs 3 [[sA [120],sA [73],bA false],[sA [115],sA [73],bA true]],.xs 10 [[sA [102],.lit (.slice none 0 0),sA [73],bA false,bA false,iA 1,iA 1,.msl 5 0 2,.lit (.slice none 0 0),.lit (.slice none 0 0)]],.xs 4 [[iA 1,iA 5,sA [],sA []],[iA 47,iA 0,sA [],sA []]],.xs 3 [[sA [121],sA [91,65,97],bA false]],.xs 10 [[sA [109,97,105,110],.lit (.slice none 0 0),sA [86],bA true,bA false,iA 0,iA 0,.msl 8 0 1,.lit (.slice none 0 0),.lit (.slice none 0 0)]],.xs 4 [[iA 46,iA 0,sA [],sA []]]]:=by
 refine ⟨⟨t,t,t,t,t,t,t,t,t,t⟩,zW Tryz.func51 y kz y ?_⟩
 unfold zud at h
 refine rg y<|u<|asg y<|za ?_
 refine rg y<|u<|bd ti y y y<|u<|bl 0 ti y ti y (by decide) (by decide) y y y<|u<|bd ti y y y<|u<|al 1 ti y<|u<|sto ti y y y<|za ?_
 refine rg y<|u<|bl 2 ti y ti y (by decide) (by decide) y y y<|u<|bd ti y y y<|u<|bd ti y y y<|u<|bl 3 ti y ti y (by decide) (by decide) y y y<|u<|bd ti y y y<|u<|bd ti y y y<|u<|bl 4 ti y ti y (by decide) (by decide) y y y<|u<|bd (parts:=[(0,sA [102]),(2,sA [73]),(5,iA 1),(6,iA 1),(7,.msl 4 0 2)]) (cs:=[sA [102],.lit (.slice none 0 0),sA [73],bA false,bA false,iA 1,iA 1,.msl 4 0 2,.lit (.slice none 0 0),.lit (.slice none 0 0)]) ti y y kz<|u<|bl 5 ti y ti y (by decide) (by decide) y y y<|u<|bd (parts:=[(0,sA [65,97]),(1,sA [79,98,106,101,99,116]),(3,.msl 2 0 1),(4,.msl 3 0 2),(5,.msl 5 0 1)]) (cs:=[sA [65,97],sA [79,98,106,101,99,116],bA false,.msl 2 0 1,.msl 3 0 2,.msl 5 0 1]) ti y y kz<|u<|al 6 ti y<|u<|sto ti y y y<|za ?_
 refine rg y<|u<|sx [] (ztf [66,98] y)<|u<|al 10 ti y<|u<|sto ti y y y<|za ?_
 refine rg y<|u<|fa ti y y y<|u<|sto ti y y y<|za ?_
 refine rg y<|u<|bd ti y y y<|u<|bl 11 ti y ti y (by decide) (by decide) y y y<|u<|fa ti y y y<|u<|sto ti y y y<|za ?_
 refine rg y<|u<|ld ti y y<|u<|ld ti y y<|u<|ld ti y y<|u<|bl 12 ti y ti y (by decide) (by decide) y y y<|u<|asg y<|za ?_
 refine zj ?_
 obtain rfl:=h
 exact ⟨_,y,zy [.old 12,.old 0,.old 2,.old 3,.old 5,.old 4,.old 11,.old 8,.old 9]⟩
def zn6:Bool:=
  true
theorem zqX{r:Bool}(h:zn6=r):zI Tryz.prog 76 [] (bA r):=by
 refine zq Tryz.func76 y kz y y ?_
 unfold zn6 at h
 refine rg y<|u<|asg y<|za ?_
 refine rg y<|u<|pc (zrj y) y y y<|u<|asg y<|za ?_
 refine zj ?_
 obtain rfl:=h
 exact ⟨_,y,zy []⟩
def zaP(v1:List zb)(v2:T2)(v3:T0):Option (zb×Bool):=
  cond (!(zbQ v1 v2 v3)) (some ((zb.mk [] [] false [] [] []),false)) ((zc0 v1 v2 v3).bind fun v4=>some (v4,true))
theorem zbw(v1:List zb)(v2:T2)(v3:T0){r:zb×Bool}(h:zaP v1 v2 v3=some r):zI Tryz.prog 63 [.ipt 2 [[.isl 6 (map zc v1),.imp (map (rKV (fun x=>iA x)) v2)]] 0 0,sA v3] (.tup [.agg (zc r.1),bA r.2]):=by
 refine zq Tryz.func63 y kz y y ?_
 unfold zaP at h
 refine rg y<|u<|al 0 ti y<|u<|asg y<|za ?_
 refine zi ?_
 refine rg y<|u<|mv y<|u<|mv y<|u<|pc (zfo v1 v2 v3 y) y y y<|u<|nt y<|za ?_
 refine ze y (fun hc1=>?_) (fun hc1=>?_)
 ·
  replace h:=bT hc1 h
  refine rg y<|u<|bd ti y y y<|u<|sto ti y y y<|u<|asg y<|za ?_
  refine zj ?_
  obtain rfl:=sm h
  exact ⟨_,y,zy []⟩
 ·
  replace h:=bF hc1 h
  refine zg ?_
  obtain ⟨v4,q2,h⟩:=bs h
  refine rg y<|u<|mv y<|u<|mv y<|u<|pc (zej v1 v2 v3 q2) y y y<|u<|sto ti y y y<|u<|asg y<|za ?_
  refine zj ?_
  obtain rfl:=sm h
  exact ⟨_,y,zy []⟩
def zeB(v1:List zb)(v2:T2)(v13:T0):Option (Bool):=
  some ((v13 == [73])||(zbQ v1 v2 v13))
def zcj(v9:T0)(v10:T0)(v11:Bool):Option (Sum (T0×T0×Bool) (Sum (T0) (Bool))):=
  cond v11 ((zf2 v10).bind fun v12=>some (.inl (v10,v12.1,v12.2))) (some (.inr (.inl v9)))
def zdL(v1:List zb)(v2:T2)(v3:T0):Option (Bool):=
  (zf2 v3).bind fun v4=>(zu (fun z=>zcj z.1 z.2.1 z.2.2) (v3,v4.1,v4.2)).bind fun o=>zU o (fun b=>zeB v1 v2 b) some
theorem zip(v1:List zb)(v2:T2)(v3:T0){r:Bool}(h:zdL v1 v2 v3=some r):zI Tryz.prog 134 [.ipt 2 [[.isl 6 (map zc v1),.imp (map (rKV (fun x=>iA x)) v2)]] 0 0,sA v3] (bA r):=by
 refine zq Tryz.func134 y kz y y ?_
 unfold zdL at h
 refine rg y<|u<|asg y<|za ?_
 refine zi ?_
 obtain ⟨v4,q1,h⟩:=bs h
 refine rg y<|u<|mv y<|u<|pc (zhm v3 q1) y y y<|u<|mv y<|u<|ex y y<|u<|ex y y<|u<|asg y<|u<|asg y<|za ?_
 obtain ⟨o,ho,h⟩:=bs h
 refine zX (X:=T0×T0×Bool) (B:=T0) (R:=Bool) (fun z=>[(0,.ipt 2 [[.isl 6 (map zc v1),.imp (map (rKV (fun x=>iA x)) v2)]] 0 0),(1,sA z.1),(5,sA z.2.1),(6,bA z.2.2)]) (fun z=>[]) (fun b=>[(0,.ipt 2 [[.isl 6 (map zc v1),.imp (map (rKV (fun x=>iA x)) v2)]] 0 0),(1,sA b)]) (fun b=>[]) (fun r env st=>zaN Tryz.prog Tryz.f134 0 (bA r) [] env st) ho (zo []) ?_ ?_ ?_
 ·
  rintro ⟨v9,v10,v11⟩ r h
  replace h:zcj v9 v10 v11=some r:=h
  unfold zcj at h
  refine zi ?_
  refine rg y<|u<|mv y<|za ?_
  refine ze y (fun hc4=>?_) (fun hc4=>?_)
  ·
   replace h:=bT hc4 h
   refine zg ?_
   refine zi ?_
   refine zr ?_
   refine rl y<|u<|mv y<|u<|asg y<|za ?_
   obtain ⟨v12,q5,h⟩:=bs h
   refine rl y<|u<|mv y<|u<|pc (zhm v10 q5) y y y<|u<|mv y<|u<|ex y y<|u<|ex y y<|u<|asg y<|u<|asg y<|za ?_
   obtain rfl:=sm h
   exact ⟨_,y,zo []⟩
  ·
   replace h:=bF hc4 h
   refine zD ?_
   obtain rfl:=sm h
   exact ⟨y,_,y,zo []⟩
 ·
  rintro v13 rfl
  replace h:zeB v1 v2 v13=some r:=h
  unfold zeB at h
  refine zw ?_
  refine rg y<|u<|mv y<|u<|nep ti y y y y y y<|u<|mv y<|g y y<|mv y<|g y y<|seq ti y y<|g y y<|mv y<|zdj (j:=5) 3 y y y y y (gps y y y) (fun hb6=>g y hb6<|mv y<|g y hb6<|mv y<|g y hb6<|pc (zfo v1 v2 v13 y) y y y<|za (egO [25,26,27] 3 hb6 y y y y)) orT<|u<|pk (b:=true) y y<|u<|asg y<|za ?_
  refine zj ?_
  obtain rfl:=sm h
  exact ⟨_,y,zy []⟩
 ·
  rintro r' rfl env st hp
  obtain rfl:=sm h
  exact hp
def zfC(v12:T1):Option (T1):=
  some v12
def za1(v1:List zb)(v2:T2)(v8:T0)(v9:T1):Option (Sum (T0×T1) (Sum (T1) (T1))):=
  cond (zbQ v1 v2 v8) ((zis 16 v9 [v8]).bind fun v10=>(zc0 v1 v2 v8).bind fun v11=>some (.inl (v11.Super,v10))) (some (.inr (.inl v9)))
def zbH(v1:List zb)(v2:T2)(v3:T0):Option (T1):=
  (zu (fun z=>za1 v1 v2 z.1 z.2) (v3,[])).bind fun o=>zU o (fun b=>zfC b) some
theorem zdi(v1:List zb)(v2:T2)(v3:T0){r:T1}(h:zbH v1 v2 v3=some r):SC Tryz.prog 66 [.ipt 2 [[.isl 6 (map zc v1),.imp (map (rKV (fun x=>iA x)) v2)]] 0 0,sA v3] [] (.msl 0 0 (length r)) [.many 1 (map zf r)]:=by
 refine ⟨⟨zhS (sz:=1) (fun _=>y),t⟩,zW Tryz.func66 y kz y ?_⟩
 unfold zbH at h
 refine rg y<|u<|asg y<|za ?_
 refine rg y<|u<|asg y<|za ?_
 obtain ⟨o,ho,h⟩:=bs h
 refine zyM (X:=T0×T1) (B:=T1) (R:=T1) (fun z=>[(0,.ipt 2 [[.isl 6 (map zc v1),.imp (map (rKV (fun x=>iA x)) v2)]] 0 0),(1,sA z.1),(5,.msl 0 0 (length z.2))]) (fun z=>[some (1,map zf z.2)]) (fun b=>[(5,.msl 0 0 (length b))]) (fun b=>[some (1,map zf b)]) (fun r env st=>zaN Tryz.prog Tryz.f66 0 (.msl 0 0 (length r)) [some (1,map zf r)] env st) ho ⟨[.fresh 1],ce y y<|ce y y<|cv y (.nilown y)<|cn,y,⟨w,t⟩,y,k⟩ ?_ ?_ ?_
 ·
  rintro ⟨v8,v9⟩ r h
  replace h:za1 v1 v2 v8 v9=some r:=h
  unfold za1 at h
  refine zi ?_
  refine rg y<|u<|mv y<|u<|mv y<|u<|pc (zfo v1 v2 v8 y) y y y<|za ?_
  refine ze y (fun hc4=>?_) (fun hc4=>?_)
  ·
   replace h:=bT hc4 h
   refine zg ?_
   refine zr ?_
   obtain ⟨v10,q5,h⟩:=bs h
   refine rg y<|u<|mv y<|u<|mv y<|u<|bl 1 ti y ti y (by decide) (by decide) y y y<|u<|apM 2 ti y ti y y (by decide) ti y y y y (roX (f:=zf) (z:=[v8]) y y) (fun _=>y) y q5<|u<|asg y<|za ?_
   obtain ⟨v11,q6,h⟩:=bs h
   refine rl y<|u<|mv y<|u<|mv y<|u<|pc (zej v1 v2 v8 q6) y y y<|u<|fdV y y<|u<|asg y<|za ?_
   obtain rfl:=sm h
   exact ⟨_,y,zo [.old 2]⟩
  ·
   replace h:=bF hc4 h
   refine zD ?_
   obtain rfl:=sm h
   exact ⟨y,_,y,zo [.old 0]⟩
 ·
  rintro v12 rfl
  replace h:zfC v12=some r:=h
  unfold zfC at h
  refine rg y<|u<|mv y<|u<|asg y<|za ?_
  refine zj ?_
  obtain rfl:=sm h
  exact ⟨_,y,zy [.old 0]⟩
 ·
  rintro r' rfl env st hp
  obtain rfl:=sm h
  exact hp
def zee(v45:T1):Option (T1):=
  (zvh v45).bind fun v46=>some v46
def zef(v27:Int)(v31:T1)(v44:T1):Option (Sum (T1×T1×Int) (Sum (T1) (T1))):=
  some (.inl (v31,v44,(IntKind.i64.wrap (v27+1))))
def zcJ(v39:Int)(v43:T1):Option (Sum (T1×Int) (Sum (T1) (T1))):=
  some (.inl (v43,(IntKind.i64.wrap (v39+1))))
def zb9(v29:zb)(v38:T1)(v39:Int):Option (Sum (T1×Int) (Sum (T1) (T1))):=
  cond (decide (v39<(length v29.Impl:Int))) ((idx v29.Impl v39).bind fun v40=>(zK v38 v40).bind fun v41=>cond (!v41) ((zis 16 v38 [v40]).bind fun v42=>zcJ v39 v42) (zcJ v39 v38)) (some (.inr (.inl v38)))
def zb8(v26:T1)(v27:Int)(v29:zb)(v31:T1):Option (Sum (T1×T1×Int) (Sum (T1) (T1))):=
  (zu (fun z=>zb9 v29 z.1 z.2) (v26,0)).bind fun o=>zU o (fun b=>zef v27 v31 b) (fun r=>some (.inr (.inr r)))
def zaY(v1:List zb)(v2:T2)(v25:T1)(v26:T1)(v27:Int):Option (Sum (T1×T1×Int) (Sum (T1) (T1))):=
  cond (decide (v27<((length v26):Int))) ((idx v26 v27).bind fun v28=>(zc0 v1 v2 v28).bind fun v29=>cond v29.Interface ((zis 16 v25 [v29.Name]).bind fun v30=>zb8 v26 v27 v29 v30) (zb8 v26 v27 v29 v25)) (some (.inr (.inl v25)))
def zdN(v1:List zb)(v2:T2)(v3:T0):Option (T1):=
  cond (!(zbQ v1 v2 v3)) (some []) ((zbH v1 v2 v3).bind fun v4=>(zu (fun z=>zaY v1 v2 z.1 z.2.1 z.2.2) ([],v4,0)).bind fun o=>zU o (fun b=>zee b) some)
theorem zil(v1:List zb)(v2:T2)(v3:T0){r:T1}(h:zdN v1 v2 v3=some r):SC Tryz.prog 136 [.ipt 2 [[.isl 6 (map zc v1),.imp (map (rKV (fun x=>iA x)) v2)]] 0 0,sA v3] [] (.msl 0 0 (length r)) [.many 1 (map zf r)]:=by
 refine ⟨⟨zhS (sz:=1) (fun _=>y),t⟩,zW Tryz.func136 y kz y ?_⟩
 unfold zdN at h
 refine rg y<|u<|asg y<|za ?_
 refine zi ?_
 refine rg y<|u<|mv y<|u<|mv y<|u<|pc (zfo v1 v2 v3 y) y y y<|u<|nt y<|za ?_
 refine ze y (fun hc1=>?_) (fun hc1=>?_)
 ·
  replace h:=bT hc1 h
  refine rg y<|u<|asg y<|za ?_
  refine zj ?_
  obtain rfl:=sm h
  exact ⟨_,y,[.fresh 1],.nilown y,y,⟨w,t⟩,y,k⟩
 ·
  replace h:=bF hc1 h
  refine zg ?_
  refine rg y<|u<|asg y<|za ?_
  obtain ⟨v4,q2,h⟩:=bs h
  refine rg y<|u<|mv y<|u<|mv y<|u<|sx [] (zdi v1 v2 v3 q2)<|zx (env0:=[(0,.ipt 2 [[.isl 6 (map zc v1),.imp (map (rKV (fun x=>iA x)) v2)]] 0 0),(5,.lit (.slice none 0 0)),(17,.msl 0 0 (length v4))]) (st0:=[some (1,map zf v4)]) (zo [.old 0])<|u<|asg y<|za ?_
  refine zi ?_
  refine rg y<|u<|asg y<|za ?_
  obtain ⟨o,ho,h⟩:=bs h
  refine zX (X:=T1×T1×Int) (B:=T1) (R:=T1) (fun z=>[(0,.ipt 2 [[.isl 6 (map zc v1),.imp (map (rKV (fun x=>iA x)) v2)]] 0 0),(5,.msl 0 0 (length z.1)),(6,.msl 1 0 (length z.2.1)),(7,iA z.2.2)]) (fun z=>[some (1,map zf z.1),some (1,map zf z.2.1)]) (fun b=>[(5,.msl 0 0 (length b))]) (fun b=>[some (1,map zf b)]) (fun r env st=>zaN Tryz.prog Tryz.f136 0 (.msl 0 0 (length r)) [some (1,map zf r)] env st) ho ⟨[.fresh 1,.old 0],ce y y<|cv y (.nilown y)<|cv y (.msl y)<|ce y y<|cn,y,⟨w,⟨_,y,zjN (fun _=>y)⟩,t⟩,y,k⟩ ?_ ?_ ?_
  ·
   rintro ⟨v25,v26,v27⟩ r h
   replace h:zaY v1 v2 v25 v26 v27=some r:=h
   unfold zaY at h
   refine zi ?_
   refine rg y<|u<|mv y<|u<|mv y<|u<|lnM ti y y y<|u<|lss ti y y<|za ?_
   refine ze y (fun hc18=>?_) (fun hc18=>?_)
   ·
    replace h:=bT hc18 h
    refine zg ?_
    refine zi ?_
    refine zr ?_
    obtain ⟨v28,q19,h⟩:=bs h
    obtain ⟨v29,q20,h⟩:=bs h
    refine rg y<|u<|mv y<|u<|mv y<|u<|mv y<|u<|ixM ti y ti y y y y q19<|u<|ldM ti y y (zl q19).2.2 y<|u<|pc (zej v1 v2 v28 q20) y y y<|u<|al 2 ti y<|u<|sto ti y y y<|za ?_
    refine za6 (X:=T1) (fun z=>[(0,.ipt 2 [[.isl 6 (map zc v1),.imp (map (rKV (fun x=>iA x)) v2)]] 0 0),(5,.msl 0 0 (length z)),(6,.msl 1 0 (length v26)),(7,iA v27),(8,.mpt 2 0 0)]) (fun z=>[some (1,map zf z),some (1,map zf v26),some (6,[(zc v29)])]) (fun z=>zb8 v26 v27 v29 z=some r) ?_ ?_
    ·
     refine rg y<|u<|fa ti y y y<|u<|ld ti y y<|za ?_
     refine ze y (fun hc21=>?_) (fun hc21=>?_)
     ·
      replace h:=bT hc21 h
      obtain ⟨v30,q22,h⟩:=bs h
      exact rl y<|u<|mv y<|u<|fa ti y y y<|u<|ld ti y y<|u<|bl 3 ti y ti y (by decide) (by decide) y y y<|u<|apM 4 ti y ti y y (by decide) ti y y y y (roX (f:=zf) (z:=[v29.Name]) y y) (fun _=>y) y q22<|u<|asg y<|za (⟨v30,h,zo [.old 4,.old 1,.old 2]⟩)
     ·
      replace h:=bF hc21 h
      refine zg ?_
      exact ⟨v25,h,zo [.old 0,.old 1,.old 2]⟩
    ·
     rintro v31 h
     replace h:zb8 v26 v27 v29 v31=some r:=h
     unfold zb8 at h
     refine rg y<|u<|fa ti y y y<|u<|ld ti y y<|u<|lnI ti y y<|u<|mv y<|za ?_
     obtain ⟨o,ho,h⟩:=bs h
     refine zX (X:=T1×Int) (B:=T1) (R:=T1) (fun z=>[(0,.ipt 2 [[.isl 6 (map zc v1),.imp (map (rKV (fun x=>iA x)) v2)]] 0 0),(5,.msl 0 0 (length v31)),(6,.msl 1 0 (length z.1)),(7,iA v27),(38,.isl 1 (map zf v29.Impl)),(39,iA (length v29.Impl:Int)),(40,iA z.2)]) (fun z=>[some (1,map zf v31),some (1,map zf z.1)]) (fun b=>[(0,.ipt 2 [[.isl 6 (map zc v1),.imp (map (rKV (fun x=>iA x)) v2)]] 0 0),(5,.msl 0 0 (length v31)),(6,.msl 1 0 (length b)),(7,iA v27)]) (fun b=>[some (1,map zf v31),some (1,map zf b)]) (fun r env st=>zaN Tryz.prog Tryz.f136 0 (.msl 0 0 (length r)) [some (1,map zf r)] env st) ho (zo [.old 0,.old 1]) ?_ ?_ ?_
     ·
      rintro ⟨v38,v39⟩ r h
      replace h:zb9 v29 v38 v39=some r:=h
      unfold zb9 at h
      refine rg y<|u<|lss ti y y<|za ?_
      refine zi ?_
      refine ze y (fun hc28=>?_) (fun hc28=>?_)
      ·
       replace h:=bT hc28 h
       refine zg ?_
       refine za6 (X:=T1) (fun z=>[(0,.ipt 2 [[.isl 6 (map zc v1),.imp (map (rKV (fun x=>iA x)) v2)]] 0 0),(5,.msl 0 0 (length v31)),(6,.msl 1 0 (length z)),(7,iA v27),(38,.isl 1 (map zf v29.Impl)),(39,iA (length v29.Impl:Int)),(40,iA v39)]) (fun z=>[some (1,map zf v31),some (1,map zf z)]) (fun z=>zcJ v39 z=some r) ?_ ?_
       ·
        refine zr ?_
        obtain ⟨v40,q29,h⟩:=bs h
        refine rg y<|u<|ixI ti y ti y y y q29<|u<|ldI ti y (zl q29).2.2 y<|u<|asg y<|za ?_
        obtain ⟨v41,q30,h⟩:=bs h
        refine rg y<|u<|mv y<|u<|mv y<|u<|pcs (zaH v38 v40 q30) y y (.cons (zhU y (fun _=>y)) (.cons (si y) .nil)) zcD<|u<|nt y<|za ?_
        refine ze y (fun hc31=>?_) (fun hc31=>?_)
        ·
         replace h:=bT hc31 h
         obtain ⟨v42,q32,h⟩:=bs h
         exact rl y<|u<|mv y<|u<|mv y<|u<|bl 2 ti y ti y (by decide) (by decide) y y y<|u<|apM 3 ti y ti y y (by decide) ti y y y y (roX (f:=zf) (z:=[v40]) y y) (fun _=>y) y q32<|u<|asg y<|za (⟨v42,h,zo [.old 0,.old 3]⟩)
        ·
         replace h:=bF hc31 h
         refine zg ?_
         exact ⟨v38,h,zo [.old 0,.old 1]⟩
       ·
        rintro v43 h
        replace h:zcJ v39 v43=some r:=h
        unfold zcJ at h
        refine rl y<|u<|add ti y y<|u<|mv y<|za ?_
        obtain rfl:=sm h
        exact ⟨_,y,zo [.old 0,.old 1]⟩
      ·
       replace h:=bF hc28 h
       refine zD ?_
       obtain rfl:=sm h
       exact ⟨y,_,y,zo [.old 0,.old 1]⟩
     ·
      rintro v44 rfl
      replace h:zef v27 v31 v44=some r:=h
      unfold zef at h
      refine zw ?_
      refine rl y<|u<|mv y<|u<|add ti y y<|u<|asg y<|za ?_
      obtain rfl:=sm h
      exact ⟨_,y,zo [.old 0,.old 1]⟩
     ·
      rintro r' rfl env st hp
      obtain rfl:=sm h
      exact ⟨_,y,hp⟩
   ·
    replace h:=bF hc18 h
    refine zD ?_
    obtain rfl:=sm h
    exact ⟨y,_,y,zo [.old 0]⟩
  ·
   rintro v45 rfl
   replace h:zee v45=some r:=h
   unfold zee at h
   refine zw ?_
   obtain ⟨v46,q33,h⟩:=bs h
   refine rg y<|u<|mv y<|u<|sx [0] (zzn v45 q33)<|zx (env0:=[(5,.msl 0 0 (length v46))]) (st0:=[some (1,map zf v46)]) ⟨[.old 0],cv y (zBK (zw9 q33) y)<|cn,y,⟨⟨_,y,zjN (fun _=>y)⟩,t⟩,y,k⟩<|za ?_
   refine rg y<|u<|mv y<|u<|asg y<|za ?_
   refine zj ?_
   obtain rfl:=sm h
   exact ⟨_,y,zy [.old 0]⟩
  ·
   rintro r' rfl env st hp
   obtain rfl:=sm h
   exact hp
def zb0(v0:((List zb)×T2×T0×T0→Option Bool))(v1:List zb)(v2:T2)(v3:T0)(v4:T0):Option (Bool):=
  (zdL v1 v2 v3).bind fun v5=>(cond (!v5) (some true) ((zdL v1 v2 v4).bind fun v6=>some (!v6))).bind fun v7=>cond v7 (some false) ((zf2 v3).bind fun v8=>(zf2 v4).bind fun v9=>cond (v3 == v4) (some true) (cond (v8.2&&v9.2) ((cond ((!(v8.1 == [73]))&&(!(v9.1 == [73]))) ((v0 (v1,v2,v8.1,v9.1)).bind fun v10=>some v10) (some false)).bind fun v11=>some v11) (cond v8.2 (some (v4 == [79,98,106,101,99,116])) ((zbH v1 v2 v3).bind fun v12=>(zK v12 v4).bind fun v13=>(cond v13 (some true) ((zdN v1 v2 v3).bind fun v14=>(zK v14 v4).bind fun v15=>some v15)).bind fun v16=>some v16))))
theorem zlF(v0:((List zb)×T2×T0×T0→Option Bool))(hrec:∀z r,v0 z=some r→zI Tryz.prog 82 [.ipt 2 [[.isl 6 (map zc z.1),.imp (map (rKV (fun x=>iA x)) z.2.1)]] 0 0,sA z.2.2.1,sA z.2.2.2] (bA r))(v1:List zb)(v2:T2)(v3:T0)(v4:T0){r:Bool}(h:zb0 v0 v1 v2 v3 v4=some r):zI Tryz.prog 82 [.ipt 2 [[.isl 6 (map zc v1),.imp (map (rKV (fun x=>iA x)) v2)]] 0 0,sA v3,sA v4] (bA r):=by
 refine zq Tryz.func82 y kz y y ?_
 unfold zb0 at h
 refine rg y<|u<|asg y<|za ?_
 refine zi ?_
 obtain ⟨v5,q1,h⟩:=bs h
 obtain ⟨v7,q4,h⟩:=bs h
 refine rg y<|u<|mv y<|u<|mv y<|u<|pc (zip v1 v2 v3 q1) y y y<|u<|nt y<|u<|mv y<|zdj (x:=v7) (j:=4) 4 y y y y y gpn (fun hb2=>by replace q4:=bF hb2 q4;obtain ⟨v6,q3,q4⟩:=bs q4;obtain rfl:=sm q4;exact g y hb2<|mv y<|g y hb2<|mv y<|g y hb2<|pc (zip v1 v2 v4 q3) y y y<|g y hb2<|nt y<|za (eg [16,17,18,19] 4 y y y y)) (fun hb=>(sm (bT hb q4)).symm)<|za ?_
 refine ze y (fun hc5=>?_) (fun hc5=>?_)
 ·
  replace h:=bT hc5 h
  refine rg y<|u<|asg y<|za ?_
  refine zj ?_
  obtain rfl:=sm h
  exact ⟨_,y,zy []⟩
 ·
  replace h:=bF hc5 h
  refine zg ?_
  obtain ⟨v8,q6,h⟩:=bs h
  refine rg y<|u<|mv y<|u<|pc (zhm v3 q6) y y y<|u<|mv y<|u<|ex y y<|u<|ex y y<|u<|asg y<|u<|asg y<|za ?_
  obtain ⟨v9,q7,h⟩:=bs h
  refine rg y<|u<|mv y<|u<|pc (zhm v4 q7) y y y<|u<|mv y<|u<|ex y y<|u<|ex y y<|u<|asg y<|u<|asg y<|za ?_
  refine zi ?_
  refine zr ?_
  refine rg y<|u<|mv y<|u<|mv y<|u<|seq ti y y<|u<|asg y<|za ?_
  refine ze y (fun hc8=>?_) (fun hc8=>?_)
  ·
   replace h:=bT hc8 h
   refine rg y<|u<|asg y<|za ?_
   refine zj ?_
   obtain rfl:=sm h
   exact ⟨_,y,zy []⟩
  ·
   replace h:=bF hc8 h
   refine rg y<|u<|mv y<|u<|mv y<|z7 (j:=1) 1 y y y y y gpn (fun hb9=>g y hb9<|mv y<|za (egA [38] 1 hb9 y y y y)) ze2<|u<|asg y<|za ?_
   refine ze y (fun hc10=>?_) (fun hc10=>?_)
   ·
    replace h:=bT hc10 h
    obtain ⟨v11,q14,h⟩:=bs h
    refine rg y<|u<|mv y<|u<|sne ti y y<|u<|mv y<|z7 (j:=2) 2 y y y y y gpn (fun hb11=>g y hb11<|mv y<|g y hb11<|sne ti y y<|za (egA [43,44] 2 hb11 y y y y)) ze2<|u<|mv y<|z7 (x:=v11) (j:=6) 4 y y y y y gpn (fun hb12=>by replace q14:=bT hb12 q14;obtain ⟨v10,q13,q14⟩:=bs q14;obtain rfl:=sm q14;exact g y hb12<|mv y<|g y hb12<|mv y<|g y hb12<|mv y<|g y hb12<|pc (hrec (v1,v2,v8.1,v9.1) _ q13) y y y<|za (eg [47,48,49,50] 4 y y y y)) (fun hb=>(sm (bF hb q14)).symm)<|u<|asg y<|za ?_
    refine zj ?_
    obtain rfl:=sm h
    exact ⟨_,y,zy []⟩
   ·
    replace h:=bF hc10 h
    refine rg y<|u<|mv y<|u<|asg y<|za ?_
    refine ze y (fun hc15=>?_) (fun hc15=>?_)
    ·
     replace h:=bT hc15 h
     refine rg y<|u<|mv y<|u<|seq ti y y<|u<|asg y<|za ?_
     refine zj ?_
     obtain rfl:=sm h
     exact ⟨_,y,zy []⟩
    ·
     replace h:=bF hc15 h
     refine zg ?_
     obtain ⟨v12,q16,h⟩:=bs h
     obtain ⟨v13,q17,h⟩:=bs h
     obtain ⟨v16,q21,h⟩:=bs h
     refine rg y<|u<|mv y<|u<|mv y<|u<|sx [] (zdi v1 v2 v3 q16)<|zx (env0:=[(0,.ipt 2 [[.isl 6 (map zc v1),.imp (map (rKV (fun x=>iA x)) v2)]] 0 0),(1,sA v3),(2,sA v4),(58,.msl 0 0 (length v12))]) (st0:=[some (1,map zf v12)]) (zo [.old 0])<|u<|mv y<|u<|pcs (zaH v12 v4 q17) y y (.cons (zhU y (fun _=>y)) (.cons (si y) .nil)) zcD<|u<|mv y<|zBp (x:=v16) (j:=5) 5 1 y y y y y gpn (fun hb18=>by replace q21:=bF hb18 q21;obtain ⟨v14,q19,q21⟩:=bs q21;obtain ⟨v15,q20,q21⟩:=bs q21;obtain rfl:=sm q21;exact g y hb18<|mv y<|g y hb18<|mv y<|g y hb18<|sx [] (zil v1 v2 v3 q19)<|g y hb18<|mv y<|g y hb18<|pcs (zaH v14 v4 q20) y y (.cons (zhU y (fun _=>y)) (.cons (si y) .nil)) zcD<|za (xg [62,63,64,65,66] 5 y y y y y y)) (fun hb=>(sm (bT hb q21)).symm)<|u<|asg y<|za ?_
     refine zj ?_
     obtain rfl:=sm h
     exact ⟨_,y,zy []⟩
def zcB(v1:List zb)(v2:T2)(v3:T0)(v4:T0):Option Bool:=
  zAy (fun v0 z=>zb0 v0 z.1 z.2.1 z.2.2.1 z.2.2.2) (v1,v2,v3,v4)
theorem zds(v1:List zb)(v2:T2)(v3:T0)(v4:T0){r:Bool}(h:zcB v1 v2 v3 v4=some r):zI Tryz.prog 82 [.ipt 2 [[.isl 6 (map zc v1),.imp (map (rKV (fun x=>iA x)) v2)]] 0 0,sA v3,sA v4] (bA r):=
  zwQ (F:=(fun v0 z=>zb0 v0 z.1 z.2.1 z.2.2.1 z.2.2.2)) (Q:=fun z r=>zI Tryz.prog 82 [.ipt 2 [[.isl 6 (map zc z.1),.imp (map (rKV (fun x=>iA x)) z.2.1)]] 0 0,sA z.2.2.1,sA z.2.2.2] (bA r)) (fun v0 hv z r h=>zlF v0 hv z.1 z.2.1 z.2.2.1 z.2.2.2 h) h
def zdv(v1:List zb)(v2:T2)(v3:T0):Option (Bool):=
  (cond ((v3 == [78])||(v3 == [84])) (some true) ((zcB v1 v2 v3 v3).bind fun v4=>some v4)).bind fun v5=>some v5
theorem zeS(v1:List zb)(v2:T2)(v3:T0){r:Bool}(h:zdv v1 v2 v3=some r):zI Tryz.prog 79 [.ipt 2 [[.isl 6 (map zc v1),.imp (map (rKV (fun x=>iA x)) v2)]] 0 0,sA v3] (bA r):=by
 refine zq Tryz.func79 y kz y y ?_
 unfold zdv at h
 refine rg y<|u<|asg y<|za ?_
 obtain ⟨v5,q4,h⟩:=bs h
 refine rg y<|u<|mv y<|u<|nep ti y y y y y y<|u<|mv y<|g y y<|mv y<|g y y<|seq ti y y<|g y y<|mv y<|zdj (j:=5) 2 y y y y y (gps y y y) (fun hb1=>g y hb1<|mv y<|g y hb1<|seq ti y y<|za (egO [11,12] 2 hb1 y y y y)) orT<|g y y<|mv y<|zdj (x:=v5) (j:=9) 4 y y y y y (gps y y y) (fun hb2=>by replace q4:=bF hb2 q4;obtain ⟨v4,q3,q4⟩:=bs q4;obtain rfl:=sm q4;exact g y hb2<|mv y<|g y hb2<|mv y<|g y hb2<|mv y<|g y hb2<|pc (zds v1 v2 v3 v3 q3) y y y<|za (eg [15,16,17,18] 4 y y y y)) (fun hb=>(sm (bT hb q4)).symm)<|u<|pk (b:=true) y y<|u<|asg y<|za ?_
 refine zj ?_
 obtain rfl:=sm h
 exact ⟨_,y,zy []⟩
def zhv(v1:T0)(v2:List zb)(v3:T2):Option (Bool):=
  (zdv v2 v3 v1).bind fun v4=>some v4
theorem znk(v1:T0)(v2:List zb)(v3:T2){r:Bool}(h:zhv v1 v2 v3=some r):zI Tryz.prog 78 [sA v1,.ipt 1 [[.ipt 2 [[.isl 6 (map zc v2),.imp (map (rKV (fun x=>iA x)) v3)]] 0 0]] 0 0] (bA r):=by
 refine zq Tryz.func78 y kz y y ?_
 unfold zhv at h
 refine rg y<|u<|asg y<|za ?_
 obtain ⟨v4,q1,h⟩:=bs h
 refine rg y<|u<|ld ti y y<|u<|mv y<|u<|pc (zeS v2 v3 v1 q1) y y y<|u<|asg y<|za ?_
 refine zj ?_
 obtain rfl:=sm h
 exact ⟨_,y,zy []⟩
def zji(v1:T0)(v2:List zb)(v3:T2):Option (Bool):=
  (zhv v1 v2 v3).bind fun v4=>some (!v4)
theorem zpw(v1:T0)(v2:List zb)(v3:T2){r:Bool}(h:zji v1 v2 v3=some r):zI Tryz.prog 133 [sA v1,.ipt 1 [[.fn (.func 78) [] [.ipt 1 [[.ipt 2 [[.isl 6 (map zc v2),.imp (map (rKV (fun x=>iA x)) v3)]] 0 0]] 0 0]]] 0 0] (bA r):=by
 refine zq Tryz.func133 y kz y y ?_
 unfold zji at h
 refine rg y<|u<|asg y<|za ?_
 obtain ⟨v4,q1,h⟩:=bs h
 refine rg y<|u<|ld ti y y<|u<|mv y<|u<|pc (znk v1 v2 v3 q1) y y y<|u<|nt y<|u<|asg y<|za ?_
 refine zj ?_
 obtain rfl:=sm h
 exact ⟨_,y,zy []⟩
def zbt:Option (Int):=
  some (-1)
def zam(v1:T1)(v2:List zb)(v3:T2)(v7:Int):Option (Sum (Int) (Sum (Unit) (Int))):=
  cond (decide (v7<(length v1:Int))) ((idx v1 v7).bind fun v8=>(zji v8 v2 v3).bind fun v9=>cond v9 (some (.inr (.inr v7))) (some (.inl (IntKind.i64.wrap (v7+1))))) (some (.inr (.inl ())))
def zbU(v1:T1)(v2:List zb)(v3:T2):Option (Int):=
  (zu (fun z=>zam v1 v2 v3 z) 0).bind fun o=>zU o (fun b=>zbt) some
theorem zgS(v1:T1)(v2:List zb)(v3:T2){r:Int}(h:zbU v1 v2 v3=some r):zI Tryz.prog 110 [.isl 1 (map zf v1),.fn (.func 133) [] [.ipt 1 [[.fn (.func 78) [] [.ipt 1 [[.ipt 2 [[.isl 6 (map zc v2),.imp (map (rKV (fun x=>iA x)) v3)]] 0 0]] 0 0]]] 0 0]] (iA r):=by
 refine zq Tryz.func110 y kz y y ?_
 unfold zbU at h
 refine rg y<|u<|asg y<|za ?_
 refine zi ?_
 refine rg y<|u<|mv y<|u<|lnI ti y y<|u<|mv y<|za ?_
 obtain ⟨o,ho,h⟩:=bs h
 refine zX (X:=Int) (B:=Unit) (R:=Int) (fun z=>[(0,.isl 1 (map zf v1)),(1,.fn (.func 133) [] [.ipt 1 [[.fn (.func 78) [] [.ipt 1 [[.ipt 2 [[.isl 6 (map zc v2),.imp (map (rKV (fun x=>iA x)) v3)]] 0 0]] 0 0]]] 0 0]),(7,iA (length v1:Int)),(8,iA z)]) (fun z=>[]) (fun b=>[]) (fun b=>[]) (fun r env st=>zaN Tryz.prog Tryz.f110 0 (iA r) [] env st) ho (zo []) ?_ ?_ ?_
 ·
  rintro v7 r h
  replace h:zam v1 v2 v3 v7=some r:=h
  unfold zam at h
  refine rg y<|u<|lss ti y y<|za ?_
  refine zi ?_
  refine ze y (fun hc5=>?_) (fun hc5=>?_)
  ·
   replace h:=bT hc5 h
   refine zg ?_
   refine zi ?_
   refine zr ?_
   refine rg y<|u<|mv y<|u<|asg y<|za ?_
   obtain ⟨v8,q6,h⟩:=bs h
   obtain ⟨v9,q7,h⟩:=bs h
   refine rg y<|u<|mv y<|u<|mv y<|u<|mv y<|u<|ixI ti y ti y y y q6<|u<|ldI ti y (zl q6).2.2 y<|u<|pc (zpw v8 v2 v3 q7) y y y<|za ?_
   refine ze y (fun hc8=>?_) (fun hc8=>?_)
   ·
    replace h:=bT hc8 h
    refine rg y<|u<|mv y<|u<|asg y<|za ?_
    refine zj ?_
    obtain rfl:=sm h
    exact ⟨_,y,_,y,zy []⟩
   ·
    replace h:=bF hc8 h
    refine zg ?_
    refine rl y<|u<|add ti y y<|u<|mv y<|za ?_
    obtain rfl:=sm h
    exact ⟨_,y,zo []⟩
  ·
   replace h:=bF hc5 h
   refine zD ?_
   obtain rfl:=sm h
   exact ⟨y,_,y,zo []⟩
 ·
  rintro ⟨⟩ rfl
  replace h:zbt=some r:=h
  unfold zbt at h
  refine zw ?_
  refine rg y<|u<|asg y<|za ?_
  refine zj ?_
  obtain rfl:=sm h
  exact ⟨_,y,zy []⟩
 ·
  rintro r' rfl env st hp
  obtain rfl:=sm h
  exact hp
def zbr(v1:T1)(v2:List zb)(v3:T2):Option (Bool):=
  (zbU v1 v2 v3).bind fun v4=>some (decide (0≤v4))
theorem zgd(v1:T1)(v2:List zb)(v3:T2){r:Bool}(h:zbr v1 v2 v3=some r):zI Tryz.prog 56 [.isl 1 (map zf v1),.fn (.func 133) [] [.ipt 1 [[.fn (.func 78) [] [.ipt 1 [[.ipt 2 [[.isl 6 (map zc v2),.imp (map (rKV (fun x=>iA x)) v3)]] 0 0]] 0 0]]] 0 0]] (bA r):=by
 refine zq Tryz.func56 y kz y y ?_
 unfold zbr at h
 refine rg y<|u<|asg y<|za ?_
 obtain ⟨v4,q1,h⟩:=bs h
 refine rg y<|u<|mv y<|u<|mv y<|u<|pc (zgS v1 v2 v3 q1) y y y<|u<|geq ti y y<|u<|asg y<|za ?_
 refine zj ?_
 obtain rfl:=sm h
 exact ⟨_,y,zy []⟩
def ziO(v1:T1)(v2:List zb)(v3:T2):Option (Bool):=
  (zbr v1 v2 v3).bind fun v4=>some (!v4)
theorem zmR(v1:T1)(v2:List zb)(v3:T2){r:Bool}(h:ziO v1 v2 v3=some r):zI Tryz.prog 81 [.isl 1 (map zf v1),.fn (.func 78) [] [.ipt 1 [[.ipt 2 [[.isl 6 (map zc v2),.imp (map (rKV (fun x=>iA x)) v3)]] 0 0]] 0 0]] (bA r):=by
 refine zq Tryz.func81 y kz y y ?_
 unfold ziO at h
 refine rg y<|u<|bx 0 1 y y y y<|u<|asg y<|za ?_
 obtain ⟨v4,q1,h⟩:=bs h
 refine rg y<|u<|mv y<|u<|mf y y<|u<|pcs (zgd v1 v2 v3 q1) y y (.cons (si y) (.cons (zhX t ⟨(zcR y ⟨(si y),t⟩),t⟩) .nil)) zcD<|u<|nt y<|u<|asg y<|za ?_
 refine zj ?_
 obtain rfl:=sm h
 exact ⟨_,y,zy []⟩
def ziS(v1:List zb)(v2:T2)(v3:T0)(v4:zd)(v5:T1)(v6:T1)(v7:Bool)(v8:Bool):Unit:=
  ()
theorem zs(v1:List zb)(v2:T2)(v3:T0)(v4:zd)(v5:T1)(v6:T1)(v7:Bool)(v8:Bool){r:Unit}(h:ziS v1 v2 v3 v4 v5 v6 v7 v8=r):SC Tryz.prog 80 [.mpt 0 0 0,bA v8] [.one 15 (vK v1 v2 v3 v4 (.msl 1 0 (length v5)) (.msl 2 0 (length v6)) (bA v7)),.many 1 (map zf v5),.many 1 (map zf v6)] (.tup []) [.one 15 (vK v1 v2 v3 v4 (.msl 1 0 (length v5)) (.msl 2 0 (length v6)) (bA (v7||(!v8)))),.many 1 (map zf v5),.many 1 (map zf v6)]:=by
 refine ⟨⟨t,zhS (sz:=1) (fun _=>y),zhS (sz:=1) (fun _=>y),t⟩,zW Tryz.func80 y kz y ?_⟩
 unfold ziS at h
 refine rl y<|u<|mv y<|u<|mv y<|u<|nc y y<|u<|fa ti y y y<|u<|ld ti y y<|u<|mv y<|zdj (j:=5) 2 y y y y y gpn (fun hb1=>g y hb1<|mv y<|g y hb1<|nt y<|za (egO [10,11] 2 hb1 y y y y)) orT<|u<|nc y y<|u<|fa ti y y y<|u<|sto ti y y y<|za ?_
 obtain rfl:=h
 exact ⟨_,y,zy [.old 0,.old 1,.old 2]⟩
def zhA(v1:T0)(v2:List zb)(v3:T2):Option (Bool):=
  (zcB v2 v3 v1 v1).bind fun v4=>some v4
theorem zmT(v1:T0)(v2:List zb)(v3:T2){r:Bool}(h:zhA v1 v2 v3=some r):zI Tryz.prog 83 [sA v1,.ipt 1 [[.ipt 2 [[.isl 6 (map zc v2),.imp (map (rKV (fun x=>iA x)) v3)]] 0 0]] 0 0] (bA r):=by
 refine zq Tryz.func83 y kz y y ?_
 unfold zhA at h
 refine rg y<|u<|asg y<|za ?_
 obtain ⟨v4,q1,h⟩:=bs h
 refine rg y<|u<|ld ti y y<|u<|mv y<|u<|mv y<|u<|pc (zds v2 v3 v1 v1 q1) y y y<|u<|asg y<|za ?_
 refine zj ?_
 obtain rfl:=sm h
 exact ⟨_,y,zy []⟩
def zhO(v1:T0)(v2:List zb)(v3:T2):Option (Bool):=
  (zhA v1 v2 v3).bind fun v4=>some (!v4)
theorem znx(v1:T0)(v2:List zb)(v3:T2){r:Bool}(h:zhO v1 v2 v3=some r):zI Tryz.prog 133 [sA v1,.ipt 1 [[.fn (.func 83) [] [.ipt 1 [[.ipt 2 [[.isl 6 (map zc v2),.imp (map (rKV (fun x=>iA x)) v3)]] 0 0]] 0 0]]] 0 0] (bA r):=by
 refine zq Tryz.func133 y kz y y ?_
 unfold zhO at h
 refine rg y<|u<|asg y<|za ?_
 obtain ⟨v4,q1,h⟩:=bs h
 refine rg y<|u<|ld ti y y<|u<|mv y<|u<|pc (zmT v1 v2 v3 q1) y y y<|u<|nt y<|u<|asg y<|za ?_
 refine zj ?_
 obtain rfl:=sm h
 exact ⟨_,y,zy []⟩
def zbo:Option (Int):=
  some (-1)
def zak(v1:T1)(v2:List zb)(v3:T2)(v7:Int):Option (Sum (Int) (Sum (Unit) (Int))):=
  cond (decide (v7<(length v1:Int))) ((idx v1 v7).bind fun v8=>(zhO v8 v2 v3).bind fun v9=>cond v9 (some (.inr (.inr v7))) (some (.inl (IntKind.i64.wrap (v7+1))))) (some (.inr (.inl ())))
def zbY(v1:T1)(v2:List zb)(v3:T2):Option (Int):=
  (zu (fun z=>zak v1 v2 v3 z) 0).bind fun o=>zU o (fun b=>zbo) some
theorem zgN(v1:T1)(v2:List zb)(v3:T2){r:Int}(h:zbY v1 v2 v3=some r):zI Tryz.prog 110 [.isl 1 (map zf v1),.fn (.func 133) [] [.ipt 1 [[.fn (.func 83) [] [.ipt 1 [[.ipt 2 [[.isl 6 (map zc v2),.imp (map (rKV (fun x=>iA x)) v3)]] 0 0]] 0 0]]] 0 0]] (iA r):=by
 refine zq Tryz.func110 y kz y y ?_
 unfold zbY at h
 refine rg y<|u<|asg y<|za ?_
 refine zi ?_
 refine rg y<|u<|mv y<|u<|lnI ti y y<|u<|mv y<|za ?_
 obtain ⟨o,ho,h⟩:=bs h
 refine zX (X:=Int) (B:=Unit) (R:=Int) (fun z=>[(0,.isl 1 (map zf v1)),(1,.fn (.func 133) [] [.ipt 1 [[.fn (.func 83) [] [.ipt 1 [[.ipt 2 [[.isl 6 (map zc v2),.imp (map (rKV (fun x=>iA x)) v3)]] 0 0]] 0 0]]] 0 0]),(7,iA (length v1:Int)),(8,iA z)]) (fun z=>[]) (fun b=>[]) (fun b=>[]) (fun r env st=>zaN Tryz.prog Tryz.f110 0 (iA r) [] env st) ho (zo []) ?_ ?_ ?_
 ·
  rintro v7 r h
  replace h:zak v1 v2 v3 v7=some r:=h
  unfold zak at h
  refine rg y<|u<|lss ti y y<|za ?_
  refine zi ?_
  refine ze y (fun hc5=>?_) (fun hc5=>?_)
  ·
   replace h:=bT hc5 h
   refine zg ?_
   refine zi ?_
   refine zr ?_
   refine rg y<|u<|mv y<|u<|asg y<|za ?_
   obtain ⟨v8,q6,h⟩:=bs h
   obtain ⟨v9,q7,h⟩:=bs h
   refine rg y<|u<|mv y<|u<|mv y<|u<|mv y<|u<|ixI ti y ti y y y q6<|u<|ldI ti y (zl q6).2.2 y<|u<|pc (znx v8 v2 v3 q7) y y y<|za ?_
   refine ze y (fun hc8=>?_) (fun hc8=>?_)
   ·
    replace h:=bT hc8 h
    refine rg y<|u<|mv y<|u<|asg y<|za ?_
    refine zj ?_
    obtain rfl:=sm h
    exact ⟨_,y,_,y,zy []⟩
   ·
    replace h:=bF hc8 h
    refine zg ?_
    refine rl y<|u<|add ti y y<|u<|mv y<|za ?_
    obtain rfl:=sm h
    exact ⟨_,y,zo []⟩
  ·
   replace h:=bF hc5 h
   refine zD ?_
   obtain rfl:=sm h
   exact ⟨y,_,y,zo []⟩
 ·
  rintro ⟨⟩ rfl
  replace h:zbo=some r:=h
  unfold zbo at h
  refine zw ?_
  refine rg y<|u<|asg y<|za ?_
  refine zj ?_
  obtain rfl:=sm h
  exact ⟨_,y,zy []⟩
 ·
  rintro r' rfl env st hp
  obtain rfl:=sm h
  exact hp
def zbm(v1:T1)(v2:List zb)(v3:T2):Option (Bool):=
  (zbY v1 v2 v3).bind fun v4=>some (decide (0≤v4))
theorem zge(v1:T1)(v2:List zb)(v3:T2){r:Bool}(h:zbm v1 v2 v3=some r):zI Tryz.prog 56 [.isl 1 (map zf v1),.fn (.func 133) [] [.ipt 1 [[.fn (.func 83) [] [.ipt 1 [[.ipt 2 [[.isl 6 (map zc v2),.imp (map (rKV (fun x=>iA x)) v3)]] 0 0]] 0 0]]] 0 0]] (bA r):=by
 refine zq Tryz.func56 y kz y y ?_
 unfold zbm at h
 refine rg y<|u<|asg y<|za ?_
 obtain ⟨v4,q1,h⟩:=bs h
 refine rg y<|u<|mv y<|u<|mv y<|u<|pc (zgN v1 v2 v3 q1) y y y<|u<|geq ti y y<|u<|asg y<|za ?_
 refine zj ?_
 obtain rfl:=sm h
 exact ⟨_,y,zy []⟩
def zhF(v1:T1)(v2:List zb)(v3:T2):Option (Bool):=
  (zbm v1 v2 v3).bind fun v4=>some (!v4)
theorem zoC(v1:T1)(v2:List zb)(v3:T2){r:Bool}(h:zhF v1 v2 v3=some r):zI Tryz.prog 81 [.isl 1 (map zf v1),.fn (.func 83) [] [.ipt 1 [[.ipt 2 [[.isl 6 (map zc v2),.imp (map (rKV (fun x=>iA x)) v3)]] 0 0]] 0 0]] (bA r):=by
 refine zq Tryz.func81 y kz y y ?_
 unfold zhF at h
 refine rg y<|u<|bx 0 1 y y y y<|u<|asg y<|za ?_
 obtain ⟨v4,q1,h⟩:=bs h
 refine rg y<|u<|mv y<|u<|mf y y<|u<|pcs (zge v1 v2 v3 q1) y y (.cons (si y) (.cons (zhX t ⟨(zcR y ⟨(si y),t⟩),t⟩) .nil)) zcD<|u<|nt y<|u<|asg y<|za ?_
 refine zj ?_
 obtain rfl:=sm h
 exact ⟨_,y,zy []⟩
def zes(v1:zas)(v2:Int):Bool:=
  (v1.At == v2)
theorem zjL(v1:zas)(v2:Int){r:Bool}(h:zes v1 v2=r):zI Tryz.prog 212 [.agg (zP v1),.ipt 1 [[iA v2]] 0 0] (bA r):=by
 refine zq Tryz.func212 y kz y y ?_
 unfold zes at h
 refine rg y<|u<|bx 0 3 y y y y<|u<|asg y<|za ?_
 refine rg y<|u<|fa ti y y y<|u<|ld ti y y<|u<|ld ti y y<|u<|eql ti y y<|u<|asg y<|za ?_
 refine zj ?_
 obtain rfl:=h
 exact ⟨_,y,zy []⟩
def zbA:Option (Int):=
  some (-1)
def zaq(v1:List zas)(v2:Int)(v5:Int):Option (Sum (Int) (Sum (Unit) (Int))):=
  cond (decide (v5<(length v1:Int))) ((idx v1 v5).bind fun v6=>cond (zes v6 v2) (some (.inr (.inr v5))) (some (.inl (IntKind.i64.wrap (v5+1))))) (some (.inr (.inl ())))
def zb3(v1:List zas)(v2:Int):Option (Int):=
  (zu (fun z=>zaq v1 v2 z) 0).bind fun o=>zU o (fun b=>zbA) some
theorem zg5(v1:List zas)(v2:Int){r:Int}(h:zb3 v1 v2=some r):zI Tryz.prog 211 [.isl 3 (map zP v1),.fn (.func 212) [] [.ipt 1 [[iA v2]] 0 0]] (iA r):=by
 refine zq Tryz.func211 y kz y y ?_
 unfold zb3 at h
 refine rg y<|u<|asg y<|za ?_
 refine zi ?_
 refine rg y<|u<|mv y<|u<|lnI ti y y<|u<|mv y<|za ?_
 obtain ⟨o,ho,h⟩:=bs h
 refine zX (X:=Int) (B:=Unit) (R:=Int) (fun z=>[(0,.isl 3 (map zP v1)),(1,.fn (.func 212) [] [.ipt 1 [[iA v2]] 0 0]),(7,iA (length v1:Int)),(8,iA z)]) (fun z=>[]) (fun b=>[]) (fun b=>[]) (fun r env st=>zaN Tryz.prog Tryz.f211 0 (iA r) [] env st) ho (zo []) ?_ ?_ ?_
 ·
  rintro v5 r h
  replace h:zaq v1 v2 v5=some r:=h
  unfold zaq at h
  refine rg y<|u<|lss ti y y<|za ?_
  refine zi ?_
  refine ze y (fun hc4=>?_) (fun hc4=>?_)
  ·
   replace h:=bT hc4 h
   refine zg ?_
   refine zi ?_
   refine zr ?_
   refine rg y<|u<|mv y<|u<|asg y<|za ?_
   obtain ⟨v6,q5,h⟩:=bs h
   refine rg y<|u<|mv y<|u<|mv y<|u<|mv y<|u<|ixI ti y ti y y y q5<|u<|ldI ti y (zl q5).2.2 y<|u<|pc (zjL v6 v2 y) y y y<|za ?_
   refine ze y (fun hc6=>?_) (fun hc6=>?_)
   ·
    replace h:=bT hc6 h
    refine rg y<|u<|mv y<|u<|asg y<|za ?_
    refine zj ?_
    obtain rfl:=sm h
    exact ⟨_,y,_,y,zy []⟩
   ·
    replace h:=bF hc6 h
    refine zg ?_
    refine rl y<|u<|add ti y y<|u<|mv y<|za ?_
    obtain rfl:=sm h
    exact ⟨_,y,zo []⟩
  ·
   replace h:=bF hc4 h
   refine zD ?_
   obtain rfl:=sm h
   exact ⟨y,_,y,zo []⟩
 ·
  rintro ⟨⟩ rfl
  replace h:zbA=some r:=h
  unfold zbA at h
  refine zw ?_
  refine rg y<|u<|asg y<|za ?_
  refine zj ?_
  obtain rfl:=sm h
  exact ⟨_,y,zy []⟩
 ·
  rintro r' rfl env st hp
  obtain rfl:=sm h
  exact hp
def zcG(v1:List zb)(v2:T2)(v3:T0)(v4:zd)(v5:T1)(v6:T1)(v7:Bool)(v8:Int):Option ((Option zas)):=
  (zb3 v4.Maps v8).bind fun v9=>cond (decide (v9<0)) (some none) ((idx v4.Maps v9).bind fun v10=>some (some v10))
theorem zfB(v1:List zb)(v2:T2)(v3:T0)(v4:zd)(v5:T1)(v6:T1)(v7:Bool)(v8:Int){r:(Option zas)}(h:zcG v1 v2 v3 v4 v5 v6 v7 v8=some r):SC Tryz.prog 137 [.mpt 0 0 0,iA v8] [.one 15 (vK v1 v2 v3 v4 (.msl 1 0 (length v5)) (.msl 2 0 (length v6)) (bA v7)),.many 1 (map zf v5),.many 1 (map zf v6)] (zk4 3 zP r) [.one 15 (vK v1 v2 v3 v4 (.msl 1 0 (length v5)) (.msl 2 0 (length v6)) (bA v7)),.many 1 (map zf v5),.many 1 (map zf v6)]:=by
 refine ⟨⟨t,zhS (sz:=1) (fun _=>y),zhS (sz:=1) (fun _=>y),t⟩,zW Tryz.func137 y kz y ?_⟩
 unfold zcG at h
 refine rg y<|u<|bx 3 1 y y y y<|u<|asg y<|za ?_
 obtain ⟨v9,q1,h⟩:=bs h
 refine rg y<|u<|mv y<|u<|nc y y<|u<|fa ti y y y<|u<|fa ti y y y<|u<|ld ti y y<|u<|mf y y<|u<|pcs (zg5 v4.Maps v8 q1) y y (.cons (si y) (.cons (zhX t ⟨(zcR y ⟨(si y),t⟩),t⟩) .nil)) zcD<|u<|asg y<|za ?_
 refine zi ?_
 refine rg y<|u<|mv y<|u<|lss ti y y<|za ?_
 refine ze y (fun hc2=>?_) (fun hc2=>?_)
 ·
  replace h:=bT hc2 h
  refine rg y<|u<|asg y<|za ?_
  refine zj ?_
  obtain rfl:=sm h
  exact ⟨_,y,zy [.old 0,.old 1,.old 2]⟩
 ·
  replace h:=bF hc2 h
  refine zg ?_
  obtain ⟨v10,q3,h⟩:=bs h
  refine rg y<|u<|mv y<|u<|nc y y<|u<|fa ti y y y<|u<|fa ti y y y<|u<|ld ti y y<|u<|mv y<|u<|ixI ti y ti y y y q3<|zCL q3<|u<|asg y<|za ?_
  refine zj ?_
  obtain rfl:=sm h
  exact ⟨_,y,zy [.old 0,.old 1,.old 2]⟩
def zfY(v1:List zb)(v2:T2)(v3:T0):Option (Bool):=
  (cond (!(v3 == [73])) ((zcB v1 v2 v3 v3).bind fun v4=>some v4) (some false)).bind fun v5=>some v5
theorem ziR(v1:List zb)(v2:T2)(v3:T0){r:Bool}(h:zfY v1 v2 v3=some r):zI Tryz.prog 252 [.ipt 2 [[.isl 6 (map zc v1),.imp (map (rKV (fun x=>iA x)) v2)]] 0 0,sA v3] (bA r):=by
 refine zq Tryz.func252 y kz y y ?_
 unfold zfY at h
 refine rg y<|u<|asg y<|za ?_
 obtain ⟨v5,q3,h⟩:=bs h
 refine rg y<|u<|mv y<|u<|sne ti y y<|u<|mv y<|z7 (x:=v5) (j:=2) 4 y y y y y gpn (fun hb1=>by replace q3:=bT hb1 q3;obtain ⟨v4,q2,q3⟩:=bs q3;obtain rfl:=sm q3;exact g y hb1<|mv y<|g y hb1<|mv y<|g y hb1<|mv y<|g y hb1<|pc (zds v1 v2 v3 v3 q2) y y y<|za (eg [8,9,10,11] 4 y y y y)) (fun hb=>(sm (bF hb q3)).symm)<|u<|asg y<|za ?_
 refine zj ?_
 obtain rfl:=sm h
 exact ⟨_,y,zy []⟩
def zer(v1:List zb)(v2:T2)(v3:T0)(v4:T0):Option (Bool):=
  (zdv v1 v2 v3).bind fun v5=>(cond (!v5) (some true) ((zdv v1 v2 v4).bind fun v6=>some (!v6))).bind fun v7=>cond v7 (some false) (cond ((v4 == [84])||(v3 == v4)) (some true) (cond (v3 == [78]) ((zfY v1 v2 v4).bind fun v8=>some v8) ((zfY v1 v2 v3).bind fun v9=>(cond (!v9) (some true) ((zfY v1 v2 v4).bind fun v10=>some (!v10))).bind fun v11=>cond v11 (some false) ((zaP v1 v2 v4).bind fun v12=>(cond v12.1.Interface (some true) ((zcB v1 v2 v3 v4).bind fun v13=>some v13)).bind fun v14=>some v14))))
theorem zaQ(v1:List zb)(v2:T2)(v3:T0)(v4:T0){r:Bool}(h:zer v1 v2 v3 v4=some r):zI Tryz.prog 198 [.ipt 2 [[.isl 6 (map zc v1),.imp (map (rKV (fun x=>iA x)) v2)]] 0 0,sA v3,sA v4] (bA r):=by
 refine zq Tryz.func198 y kz y y ?_
 unfold zer at h
 refine rg y<|u<|asg y<|za ?_
 refine zi ?_
 refine zr ?_
 obtain ⟨v5,q1,h⟩:=bs h
 obtain ⟨v7,q4,h⟩:=bs h
 refine rg y<|u<|mv y<|u<|mv y<|u<|pc (zeS v1 v2 v3 q1) y y y<|u<|nt y<|u<|mv y<|zdj (x:=v7) (j:=4) 4 y y y y y gpn (fun hb2=>by replace q4:=bF hb2 q4;obtain ⟨v6,q3,q4⟩:=bs q4;obtain rfl:=sm q4;exact g y hb2<|mv y<|g y hb2<|mv y<|g y hb2<|pc (zeS v1 v2 v4 q3) y y y<|g y hb2<|nt y<|za (eg [15,16,17,18] 4 y y y y)) (fun hb=>(sm (bT hb q4)).symm)<|u<|asg y<|za ?_
 refine ze y (fun hc5=>?_) (fun hc5=>?_)
 ·
  replace h:=bT hc5 h
  refine rg y<|u<|asg y<|za ?_
  refine zj ?_
  obtain rfl:=sm h
  exact ⟨_,y,zy []⟩
 ·
  replace h:=bF hc5 h
  refine rg y<|u<|mv y<|u<|seq ti y y<|u<|mv y<|zdj (j:=2) 3 y y y y y gpn (fun hb6=>g y hb6<|mv y<|g y hb6<|mv y<|g y hb6<|seq ti y y<|za (egO [24,25,26] 3 hb6 y y y y)) orT<|u<|asg y<|za ?_
  refine ze y (fun hc7=>?_) (fun hc7=>?_)
  ·
   replace h:=bT hc7 h
   refine rg y<|u<|asg y<|za ?_
   refine zj ?_
   obtain rfl:=sm h
   exact ⟨_,y,zy []⟩
  ·
   replace h:=bF hc7 h
   refine rg y<|u<|mv y<|u<|seq ti y y<|u<|asg y<|za ?_
   refine ze y (fun hc8=>?_) (fun hc8=>?_)
   ·
    replace h:=bT hc8 h
    obtain ⟨v8,q9,h⟩:=bs h
    refine rg y<|u<|mv y<|u<|mv y<|u<|pc (ziR v1 v2 v4 q9) y y y<|u<|asg y<|za ?_
    refine zj ?_
    obtain rfl:=sm h
    exact ⟨_,y,zy []⟩
   ·
    replace h:=bF hc8 h
    obtain ⟨v9,q10,h⟩:=bs h
    obtain ⟨v11,q13,h⟩:=bs h
    refine rg y<|u<|mv y<|u<|mv y<|u<|pc (ziR v1 v2 v3 q10) y y y<|u<|nt y<|u<|mv y<|zdj (x:=v11) (j:=4) 4 y y y y y gpn (fun hb11=>by replace q13:=bF hb11 q13;obtain ⟨v10,q12,q13⟩:=bs q13;obtain rfl:=sm q13;exact g y hb11<|mv y<|g y hb11<|mv y<|g y hb11<|pc (ziR v1 v2 v4 q12) y y y<|g y hb11<|nt y<|za (eg [40,41,42,43] 4 y y y y)) (fun hb=>(sm (bT hb q13)).symm)<|u<|asg y<|za ?_
    refine ze y (fun hc14=>?_) (fun hc14=>?_)
    ·
     replace h:=bT hc14 h
     refine rg y<|u<|asg y<|za ?_
     refine zj ?_
     obtain rfl:=sm h
     exact ⟨_,y,zy []⟩
    ·
     replace h:=bF hc14 h
     refine zg ?_
     obtain ⟨v12,q15,h⟩:=bs h
     refine rg y<|u<|mv y<|u<|mv y<|u<|pc (zbw v1 v2 v4 q15) y y y<|u<|mv y<|u<|ex y y<|u<|ex y y<|u<|al 0 ti y<|u<|sto ti y y y<|u<|asg y<|za ?_
     obtain ⟨v14,q18,h⟩:=bs h
     refine rg y<|u<|fa ti y y y<|u<|ld ti y y<|u<|mv y<|zdj (x:=v14) (j:=2) 4 y y y y y gpn (fun hb16=>by replace q18:=bF hb16 q18;obtain ⟨v13,q17,q18⟩:=bs q18;obtain rfl:=sm q18;exact g y hb16<|mv y<|g y hb16<|mv y<|g y hb16<|mv y<|g y hb16<|pc (zds v1 v2 v3 v4 q17) y y y<|za (eg [54,55,56,57] 4 y y y y)) (fun hb=>(sm (bT hb q18)).symm)<|u<|asg y<|za ?_
     refine zj ?_
     obtain rfl:=sm h
     exact ⟨_,y,zy []⟩
def zi6:Option (Bool):=
  some true
def zdA(v1:List zb)(v2:T2)(v3:T1)(v4:T1)(v9:Int):Option (Sum (Int) (Sum (Unit) (Bool))):=
  cond (decide (v9<(length v3:Int))) ((idx v3 v9).bind fun v10=>(idx v4 v9).bind fun v11=>(zer v1 v2 v10 v11).bind fun v12=>cond (!v12) (some (.inr (.inr false))) (some (.inl (IntKind.i64.wrap (v9+1))))) (some (.inr (.inl ())))
def zhi(v1:List zb)(v2:T2)(v3:T1)(v4:T1):Option (Bool):=
  cond (!((length v3:Int) == (length v4:Int))) (some false) ((zu (fun z=>zdA v1 v2 v3 v4 z) 0).bind fun o=>zU o (fun b=>zi6) some)
theorem zlN(v1:List zb)(v2:T2)(v3:T1)(v4:T1){r:Bool}(h:zhi v1 v2 v3 v4=some r):zI Tryz.prog 199 [.ipt 2 [[.isl 6 (map zc v1),.imp (map (rKV (fun x=>iA x)) v2)]] 0 0,.isl 1 (map zf v3),.isl 1 (map zf v4)] (bA r):=by
 refine zq Tryz.func199 y kz y y ?_
 unfold zhi at h
 refine rg y<|u<|asg y<|za ?_
 refine zi ?_
 refine rg y<|u<|mv y<|u<|lnI ti y y<|u<|mv y<|u<|lnI ti y y<|u<|neq ti y y<|za ?_
 refine ze y (fun hc1=>?_) (fun hc1=>?_)
 ·
  replace h:=bT hc1 h
  refine rg y<|u<|asg y<|za ?_
  refine zj ?_
  obtain rfl:=sm h
  exact ⟨_,y,zy []⟩
 ·
  replace h:=bF hc1 h
  refine zg ?_
  refine zi ?_
  refine rg y<|u<|mv y<|u<|lnI ti y y<|u<|mv y<|za ?_
  obtain ⟨o,ho,h⟩:=bs h
  refine zX (X:=Int) (B:=Unit) (R:=Bool) (fun z=>[(0,.ipt 2 [[.isl 6 (map zc v1),.imp (map (rKV (fun x=>iA x)) v2)]] 0 0),(1,.isl 1 (map zf v3)),(2,.isl 1 (map zf v4)),(14,iA (length v3:Int)),(15,iA z)]) (fun z=>[]) (fun b=>[]) (fun b=>[]) (fun r env st=>zaN Tryz.prog Tryz.f199 0 (bA r) [] env st) ho (zo []) ?_ ?_ ?_
  ·
   rintro v9 r h
   replace h:zdA v1 v2 v3 v4 v9=some r:=h
   unfold zdA at h
   refine rg y<|u<|lss ti y y<|za ?_
   refine zi ?_
   refine ze y (fun hc7=>?_) (fun hc7=>?_)
   ·
    replace h:=bT hc7 h
    refine zg ?_
    refine zi ?_
    refine zr ?_
    refine rg y<|u<|mv y<|u<|asg y<|za ?_
    obtain ⟨v10,q8,h⟩:=bs h
    obtain ⟨v11,q9,h⟩:=bs h
    obtain ⟨v12,q10,h⟩:=bs h
    refine rdA [(0,.ipt 2 [[.isl 6 (map zc v1),.imp (map (rKV (fun x=>iA x)) v2)]] 0 0),(1,.isl 1 (map zf v3)),(2,.isl 1 (map zf v4)),(14,iA (length v3:Int)),(15,iA v9),(28,bA (!v12))] [] [] [10,9,8,7,6,5,4,3,2,1,0] [(28,bA (!v12)),(27,bA v12),(26,sA v11),(25,.ipt 1 (map zf v4) (Int.toNat v9) 0),(24,iA v9),(23,.isl 1 (map zf v4)),(22,sA v10),(21,.ipt 1 (map zf v3) (Int.toNat v9) 0),(20,iA v9),(19,.isl 1 (map zf v3)),(18,.ipt 2 [[.isl 6 (map zc v1),.imp (map (rKV (fun x=>iA x)) v2)]] 0 0)] 0 (zht ⟨pe,(pb y (pc (zaQ v1 v2 v10 v11 q10) y y y w)),(pb y (ldI ti y (zl q9).2.2 y w)),(pb y (ixI ti y ti y y y q9 w)),pe,pe,(pb y (ldI ti y (zl q8).2.2 y w)),(pb y (ixI ti y ti y y y q8 w)),pe,pe,pe,t⟩ (zo [])) ?_
    refine ze y (fun hc11=>?_) (fun hc11=>?_)
    ·
     replace h:=bT hc11 h
     refine rg y<|u<|asg y<|za ?_
     refine zj ?_
     obtain rfl:=sm h
     exact ⟨_,y,_,y,zy []⟩
    ·
     replace h:=bF hc11 h
     refine zg ?_
     refine rl y<|u<|add ti y y<|u<|mv y<|za ?_
     obtain rfl:=sm h
     exact ⟨_,y,zo []⟩
   ·
    replace h:=bF hc7 h
    refine zD ?_
    obtain rfl:=sm h
    exact ⟨y,_,y,zo []⟩
  ·
   rintro ⟨⟩ rfl
   replace h:zi6=some r:=h
   unfold zi6 at h
   refine zw ?_
   refine rg y<|u<|asg y<|za ?_
   refine zj ?_
   obtain rfl:=sm h
   exact ⟨_,y,zy []⟩
  ·
   rintro r' rfl env st hp
   obtain rfl:=sm h
   exact hp
def zen(v1:List zb)(v2:T2)(v3:zas)(v4:T1)(v5:T1):Option (Bool):=
  (zhi v1 v2 v4 v3.Locals).bind fun v6=>(cond v6 ((zhi v1 v2 v5 v3.Stack).bind fun v7=>some v7) (some false)).bind fun v8=>some v8
theorem zkT(v1:List zb)(v2:T2)(v3:zas)(v4:T1)(v5:T1){r:Bool}(h:zen v1 v2 v3 v4 v5=some r):zI Tryz.prog 150 [.ipt 2 [[.isl 6 (map zc v1),.imp (map (rKV (fun x=>iA x)) v2)]] 0 0,.agg (zP v3),.isl 1 (map zf v4),.isl 1 (map zf v5)] (bA r):=by
 refine zq Tryz.func150 y kz y y ?_
 unfold zen at h
 refine rg y<|u<|bx 0 3 y y y y<|u<|asg y<|za ?_
 obtain ⟨v6,q1,h⟩:=bs h
 obtain ⟨v8,q4,h⟩:=bs h
 refine rg y<|u<|mv y<|u<|mv y<|u<|fa ti y y y<|u<|ld ti y y<|u<|pc (zlN v1 v2 v4 v3.Locals q1) y y y<|u<|mv y<|z7 (x:=v8) (j:=5) 5 y y y y y gpn (fun hb2=>by replace q4:=bT hb2 q4;obtain ⟨v7,q3,q4⟩:=bs q4;obtain rfl:=sm q4;exact g y hb2<|mv y<|g y hb2<|mv y<|g y hb2<|fa ti y y y<|g y hb2<|ld ti y y<|g y hb2<|pc (zlN v1 v2 v5 v3.Stack q3) y y y<|za (eg [15,16,17,18,19] 5 y y y y)) (fun hb=>(sm (bF hb q4)).symm)<|u<|asg y<|za ?_
 refine zj ?_
 obtain rfl:=sm h
 exact ⟨_,y,zy []⟩
def zcF(v1:List zb)(v2:T2)(v3:T0)(v4:zd)(v5:T1)(v6:T1)(v7:Bool)(v8:Int):Option (Bool):=
  (zcG v1 v2 v3 v4 v5 v6 v7 v8).bind fun v9=>zzC v9 (some (v7||(!false))) (fun v10=>(zen v1 v2 v10 v5 v6).bind fun v11=>some (v7||(!v11)))
theorem zhV(v1:List zb)(v2:T2)(v3:T0)(v4:zd)(v5:T1)(v6:T1)(v7:Bool)(v8:Int){r:Bool}(h:zcF v1 v2 v3 v4 v5 v6 v7 v8=some r):SC Tryz.prog 88 [.mpt 0 0 0,iA v8,.msl 2 0 (length v6)] [.one 15 (vK v1 v2 v3 v4 (.msl 1 0 (length v5)) (.msl 2 0 (length v6)) (bA v7)),.many 1 (map zf v5),.many 1 (map zf v6)] (.tup []) [.one 15 (vK v1 v2 v3 v4 (.msl 1 0 (length v5)) (.msl 2 0 (length v6)) (bA r)),.many 1 (map zf v5),.many 1 (map zf v6)]:=by
 refine ⟨⟨t,zhS (sz:=1) (fun _=>y),zhS (sz:=1) (fun _=>y),t⟩,zW Tryz.func88 y kz y ?_⟩
 unfold zcF at h
 obtain ⟨v9,q1,h⟩:=bs h
 refine rg y<|u<|mv y<|u<|mv y<|u<|sx [0,1,2] (zfB v1 v2 v3 v4 v5 v6 v7 v8 q1)<|zCj zw2<|zx (env0:=[(0,.mpt 0 0 0),(2,.msl 2 0 (length v6)),(9,zk4 3 zP v9)]) (st0:=[some (15,[(vK v1 v2 v3 v4 (.msl 1 0 (length v5)) (.msl 2 0 (length v6)) (bA v7))]),some (1,map zf v5),some (1,map zf v6)]) (zo [.old 0,.old 1,.old 2])<|u<|asg y<|za ?_
 rcases v9 with _ |v10
 ·
  replace h:=oeN h
  refine zjq [] [some (15,[(vK v1 v2 v3 v4 (.msl 1 0 (length v5)) (.msl 2 0 (length v6)) (bA (v7||(!false))))]),some (1,map zf v5),some (1,map zf v6)] [18] [17,16,15,14,13,12,11,10,9,8,7,6,5,4,3,2,1,0] [(27,bA false),(26,.lit undef),(25,.lit undef),(24,.lit undef),(23,.lit undef),(22,.lit undef),(21,.lit undef),(20,.lit undef),(19,.lit undef),(18,.lit undef),(17,.lit undef),(16,.lit undef),(15,.lit undef),(14,.lit undef),(13,bA false),(12,bA false),(11,.lit (.pointer none)),(10,.mpt 0 0 0)] 1 (zem ⟨pe,pe,pe,pe,pe,pe,pe,pe,pe,pe,pe,pe,pe,pe,pe,(pb y (nep ti y y y y y y w)),pe,pe,t⟩ ⟨(fun _ _=>⟨_,y,y,sc [0,1,2] (args:=[.mpt 0 0 0,bA false]) (zs v1 v2 v3 v4 v5 v6 v7 false y) y y y y ⟨(.mpt y),(rnI y),t⟩ ⟨⟨_,y,(zvW y ⟨(.msl y),(.msl y),(rnI y),t⟩)⟩,⟨y,mkI (fun _=>y)⟩,⟨y,mkI (fun _=>y)⟩,t⟩<|⟨(.tup []),[],[(28,.tup [])],y,y,kz,y,zht ⟨pe,pe,pe,pe,pe,pe,pe,pe,pe,pe,pe,pe,pe,pe,pe,(pb y (nep ti y y y y y y w)),pe,pe,t⟩ (zo [.old 0,.old 1,.old 2])⟩⟩),t⟩) ?_
  obtain rfl:=sm h
  exact ⟨_,y,zy [.old 0,.old 1,.old 2]⟩
 ·
  replace h:=oeS h
  obtain ⟨v11,q3,h⟩:=bs h
  refine zjq [] [some (15,[(vK v1 v2 v3 v4 (.msl 1 0 (length v5)) (.msl 2 0 (length v6)) (bA (v7||(!v11))))]),some (1,map zf v5),some (1,map zf v6)] [18] [17,16,15,14,13,12,11,10,9,8,7,6,5,4,3,2,1,0] [(27,bA v11),(26,bA v11),(25,.msl 2 0 (length v6)),(24,.msl 1 0 (length v5)),(23,.mpt 0 0 12),(22,.mpt 0 0 0),(21,.mpt 0 0 0),(20,.agg (zP v10)),(19,.ipt 3 [[iA v10.At,.isl 1 (map zf v10.Locals),.isl 1 (map zf v10.Stack)]] 0 0),(18,.ipt 3 [[iA v10.At,.isl 1 (map zf v10.Locals),.isl 1 (map zf v10.Stack)]] 0 0),(17,.ipt 2 [[.isl 6 (map zc v1),.imp (map (rKV (fun x=>iA x)) v2)]] 0 0),(16,.mpt 0 0 0),(15,.mpt 0 0 0),(14,.mpt 0 0 0),(13,bA true),(12,bA true),(11,.ipt 3 [[iA v10.At,.isl 1 (map zf v10.Locals),.isl 1 (map zf v10.Stack)]] 0 0),(10,.mpt 0 0 0)] 1 (zem ⟨pe,(fun _=>pag (b:=true) y y y y y y (pcs (zkT v1 v2 v10 v5 v6 q3) y y (.cons (si y) (.cons (si y) (.cons (zhU y (fun _=>y)) (.cons (zhU y (fun _=>y)) .nil)))) zcD<|w)),pe,pe,pe,pe,pe,pe,pe,pe,pe,pe,pe,pe,pe,(pb y (nep ti y y y y y y w)),pe,pe,t⟩ ⟨(fun _ _=>⟨_,y,y,sc [0,1,2] (args:=[.mpt 0 0 0,bA v11]) (zs v1 v2 v3 v4 v5 v6 v7 v11 y) y y y y ⟨(.mpt y),(rnI y),t⟩ ⟨⟨_,y,(zvW y ⟨(.msl y),(.msl y),(rnI y),t⟩)⟩,⟨y,mkI (fun _=>y)⟩,⟨y,mkI (fun _=>y)⟩,t⟩<|⟨(.tup []),[],[(28,.tup [])],y,y,kz,y,zht ⟨pe,pe,pe,pe,pe,pe,pe,pe,pe,pe,pe,pe,pe,pe,pe,(pb y (nep ti y y y y y y w)),pe,pe,t⟩ (zo [.old 0,.old 1,.old 2])⟩⟩),t⟩) ?_
  obtain rfl:=sm h
  exact ⟨_,y,zy [.old 0,.old 1,.old 2]⟩
def znf(v1:T1):Option T1:=zis 16 ([]:T1) v1
theorem zpi(v1:T1){r:T1}(h:znf v1=some r):SC Tryz.prog 138 [.isl 1 (map zf v1)] [] (.msl 0 0 (length r)) [.many 1 (map zf r)]:=by
 refine ⟨⟨zhS (sz:=1) (fun _=>y),t⟩,zW Tryz.func138 y kz y ?_⟩
 unfold znf at h
 refine rg y<|u<|asg y<|za ?_
 refine zi ?_
 refine rg y<|u<|mv y<|zCs ti y y y<|And.intro ?_ ?_
 · intro hl
   refine za ?_
   subst hl
   obtain rfl:[]=r:=by simpa [zis] using h
   refine ze y (fun _=>?_) (fun hx=>by cases hx)
   refine rg y<|u<|asg y<|za ?_
   refine zj ?_
   exact ⟨_,y,[.fresh 1],.nilown y,y,⟨w,t⟩,y,k⟩
 · refine za ?_
   refine ze y (fun hx=>by cases hx) (fun _=>?_)
   refine zg ?_
   refine rg y<|u<|bl 0 ti y ti y (by decide) (by decide) y y y<|u<|mv y<|u<|apM (l:=([]:T1)) (f:=zf) 1 ti y ti y y (by decide) ti y y y y roI (fun _=>y) y h<|u<|asg y<|za ?_
   refine zj ?_
   exact ⟨_,y,zy [.old 1]⟩
def zbB(v10:(Option zas))(v12:Bool):Option (T1×T1×Bool):=
  zzC v10 (none) (fun v13=>(znf v13.Locals).bind fun v14=>(znf v13.Stack).bind fun v15=>some (v14,v15,v12))
def zdW(v1:List zb)(v2:T2)(v3:T0)(v4:zd)(v5:T1)(v6:T1)(v7:Bool)(v8:Int)(v9:Bool):Option (T1×T1×Bool):=
  (zcG v1 v2 v3 v4 v5 v6 v7 v8).bind fun v10=>cond (Option.isNone v10) (some (v5,v6,(v7||(!v9)))) (cond v9 ((zcF v1 v2 v3 v4 v5 v6 v7 v8).bind fun v11=>zbB v10 v11) (zbB v10 v7))
theorem zkP(v1:List zb)(v2:T2)(v3:T0)(v4:zd)(v5:T1)(v6:T1)(v7:Bool)(v8:Int)(v9:Bool){r:T1×T1×Bool}(h:zdW v1 v2 v3 v4 v5 v6 v7 v8 v9=some r):SC Tryz.prog 84 [.mpt 0 0 0,iA v8,bA v9] [.one 15 (vK v1 v2 v3 v4 (.msl 1 0 (length v5)) (.msl 2 0 (length v6)) (bA v7)),.many 1 (map zf v5),.many 1 (map zf v6)] (.tup []) [.one 15 (vK v1 v2 v3 v4 (.msl 3 0 (length r.1)) (.msl 4 0 (length r.2.1)) (bA r.2.2)),.no,.no,.many 1 (map zf r.1),.many 1 (map zf r.2.1)]:=by
 refine ⟨⟨t,t,t,zhS (sz:=1) (fun _=>y),zhS (sz:=1) (fun _=>y),t⟩,zW Tryz.func84 y kz y ?_⟩
 unfold zdW at h
 obtain ⟨v10,q1,h⟩:=bs h
 refine rg y<|u<|mv y<|u<|mv y<|u<|sx [0,1,2] (zfB v1 v2 v3 v4 v5 v6 v7 v8 q1)<|zCj zw2<|zx (env0:=[(0,.mpt 0 0 0),(1,iA v8),(2,bA v9),(9,zk4 3 zP v10)]) (st0:=[some (15,[(vK v1 v2 v3 v4 (.msl 1 0 (length v5)) (.msl 2 0 (length v6)) (bA v7))]),some (1,map zf v5),some (1,map zf v6)]) (zo [.old 0,.old 1,.old 2])<|u<|asg y<|za ?_
 refine zi ?_
 refine rg y<|u<|mv y<|u<|zCa ti y y y<|za ?_
 refine ze y (fun hc2=>?_) (fun hc2=>?_)
 ·
  replace h:=bT hc2 h
  refine rg y<|u<|mv y<|u<|mv y<|u<|sx [0,1,2] (zs v1 v2 v3 v4 v5 v6 v7 v9 y)<|zx (env0:=[]) (st0:=[some (15,[(vK v1 v2 v3 v4 (.msl 1 0 (length v5)) (.msl 2 0 (length v6)) (bA (v7||(!v9))))]),some (1,map zf v5),some (1,map zf v6)]) (zo [.old 0,.old 1,.old 2])<|za ?_
  refine zj ?_
  obtain rfl:=sm h
  exact ⟨_,y,zy [.old 0,.dead,.dead,.old 1,.old 2]⟩
 ·
  replace h:=bF hc2 h
  refine zg ?_
  refine za6 (X:=Bool) (fun z=>[(0,.mpt 0 0 0),(6,zk4 3 zP v10)]) (fun z=>[some (15,[(vK v1 v2 v3 v4 (.msl 1 0 (length v5)) (.msl 2 0 (length v6)) (bA z))]),some (1,map zf v5),some (1,map zf v6)]) (fun z=>zbB v10 z=some r) ?_ ?_
  ·
   refine rg y<|u<|mv y<|za ?_
   refine ze y (fun hc3=>?_) (fun hc3=>?_)
   ·
    replace h:=bT hc3 h
    obtain ⟨v11,q4,h⟩:=bs h
    exact rl y<|u<|mv y<|u<|mv y<|u<|mv y<|u<|nc y y<|u<|fa ti y y y<|u<|ld ti y y<|u<|sx [0,1,2] (zhV v1 v2 v3 v4 v5 v6 v7 v8 q4)<|zx (env0:=[(0,.mpt 0 0 0),(6,zk4 3 zP v10)]) (st0:=[some (15,[(vK v1 v2 v3 v4 (.msl 1 0 (length v5)) (.msl 2 0 (length v6)) (bA v11))]),some (1,map zf v5),some (1,map zf v6)]) (zo [.old 0,.old 1,.old 2])<|za (⟨v11,h,zo [.old 0,.old 1,.old 2]⟩)
   ·
    replace h:=bF hc3 h
    refine zg ?_
    exact ⟨v7,h,zo [.old 0,.old 1,.old 2]⟩
  ·
   rintro v12 h
   replace h:zbB v10 v12=some r:=h
   unfold zbB at h
   rcases v10 with _ |v13
   ·
    replace h:=oeN h
    cases h
   ·
    replace h:=oeS h
    obtain ⟨v14,q5,h⟩:=bs h
    obtain ⟨v15,q6,h⟩:=bs h
    refine zjq [] [some (15,[(vK v1 v2 v3 v4 (.msl 3 0 (length v14)) (.msl 4 0 (length v15)) (bA v12))]),some (1,map zf v5),some (1,map zf v6),some (1,map zf v14),some (1,map zf v15)] [6,11,14,17] [10,9,8,7,5,4,3,2,1,0] [(33,.isl 1 (map zf v13.Stack)),(32,.ipt 3 [[iA v13.At,.isl 1 (map zf v13.Locals),.isl 1 (map zf v13.Stack)]] 0 2),(31,.ipt 3 [[iA v13.At,.isl 1 (map zf v13.Locals),.isl 1 (map zf v13.Stack)]] 0 0),(30,.ipt 3 [[iA v13.At,.isl 1 (map zf v13.Locals),.isl 1 (map zf v13.Stack)]] 0 0),(28,.isl 1 (map zf v13.Locals)),(27,.ipt 3 [[iA v13.At,.isl 1 (map zf v13.Locals),.isl 1 (map zf v13.Stack)]] 0 1),(26,.ipt 3 [[iA v13.At,.isl 1 (map zf v13.Locals),.isl 1 (map zf v13.Stack)]] 0 0),(25,.ipt 3 [[iA v13.At,.isl 1 (map zf v13.Locals),.isl 1 (map zf v13.Stack)]] 0 0),(24,.mpt 0 0 0),(23,.mpt 0 0 0)] 4 (zma ⟨(fun _ _=>⟨_,y,y,sx [] (zpi v13.Locals q5)<|⟨(.msl 3 0 (length v14)),[],[(29,.msl 3 0 (length v14))],y,y,kz,y,zma ⟨nv,(fun _ _=>⟨_,y,y,sx [] (zpi v13.Stack q6)<|⟨(.msl 4 0 (length v15)),[13,12],[(36,.mpt 0 0 12),(35,.mpt 0 0 0),(34,.msl 4 0 (length v15))],y,y,kz,y,zma ⟨nv,nv,(fun _ _=>⟨_,y,y,sto ti y y y<|⟨.any,[16,15],[(38,.mpt 0 0 13),(37,.mpt 0 0 0)],y,y,kz,t,zma ⟨nv,nv,nv,(fun _ _=>⟨_,y,y,sto ti y y y<|⟨.any,[],[],y,y,kz,t,zhW (zo [.old 0,.old 1,.old 2,.old 3,.old 4])⟩⟩),t⟩⟩⟩),nw,t⟩⟩⟩),nw,nw,t⟩⟩⟩),nw,nw,nw,t⟩) ?_
    obtain rfl:=sm h
    exact ⟨_,y,zy [.old 0,.dead,.dead,.old 3,.old 4]⟩
def zdg(v1:List zb)(v2:T2)(v3:T0)(v4:zd)(v5:T1)(v6:T1)(v7:Bool)(v8:Int)(v9:T1):Option (Bool):=
  (zcG v1 v2 v3 v4 v5 v6 v7 v8).bind fun v10=>zzC v10 (some (v7||(!false))) (fun v11=>(zen v1 v2 v11 v5 v9).bind fun v12=>some (v7||(!v12)))
theorem zjz(v1:List zb)(v2:T2)(v3:T0)(v4:zd)(v5:T1)(v6:T1)(v7:Bool)(v8:Int)(v9:T1){r:Bool}(h:zdg v1 v2 v3 v4 v5 v6 v7 v8 v9=some r):SC Tryz.prog 88 [.mpt 0 0 0,iA v8,.msl 3 0 (length v9)] [.one 15 (vK v1 v2 v3 v4 (.msl 1 0 (length v5)) (.msl 2 0 (length v6)) (bA v7)),.many 1 (map zf v5),.many 1 (map zf v6),.many 1 (map zf v9)] (.tup []) [.one 15 (vK v1 v2 v3 v4 (.msl 1 0 (length v5)) (.msl 2 0 (length v6)) (bA r)),.many 1 (map zf v5),.many 1 (map zf v6),.many 1 (map zf v9)]:=by
 refine ⟨⟨t,zhS (sz:=1) (fun _=>y),zhS (sz:=1) (fun _=>y),zhS (sz:=1) (fun _=>y),t⟩,zW Tryz.func88 y kz y ?_⟩
 unfold zdg at h
 obtain ⟨v10,q1,h⟩:=bs h
 refine rg y<|u<|mv y<|u<|mv y<|u<|sx [0,1,2] (zfB v1 v2 v3 v4 v5 v6 v7 v8 q1)<|zCj zw2<|zx (env0:=[(0,.mpt 0 0 0),(2,.msl 3 0 (length v9)),(9,zk4 3 zP v10)]) (st0:=[some (15,[(vK v1 v2 v3 v4 (.msl 1 0 (length v5)) (.msl 2 0 (length v6)) (bA v7))]),some (1,map zf v5),some (1,map zf v6),some (1,map zf v9)]) (zo [.old 0,.old 1,.old 2,.old 3])<|u<|asg y<|za ?_
 rcases v10 with _ |v11
 ·
  replace h:=oeN h
  refine zjq [] [some (15,[(vK v1 v2 v3 v4 (.msl 1 0 (length v5)) (.msl 2 0 (length v6)) (bA (v7||(!false))))]),some (1,map zf v5),some (1,map zf v6),some (1,map zf v9)] [18] [17,16,15,14,13,12,11,10,9,8,7,6,5,4,3,2,1,0] [(27,bA false),(26,.lit undef),(25,.lit undef),(24,.lit undef),(23,.lit undef),(22,.lit undef),(21,.lit undef),(20,.lit undef),(19,.lit undef),(18,.lit undef),(17,.lit undef),(16,.lit undef),(15,.lit undef),(14,.lit undef),(13,bA false),(12,bA false),(11,.lit (.pointer none)),(10,.mpt 0 0 0)] 1 (zem ⟨pe,pe,pe,pe,pe,pe,pe,pe,pe,pe,pe,pe,pe,pe,pe,(pb y (nep ti y y y y y y w)),pe,pe,t⟩ ⟨(fun _ _=>⟨_,y,y,sc [0,1,2] (args:=[.mpt 0 0 0,bA false]) (zs v1 v2 v3 v4 v5 v6 v7 false y) y y y y ⟨(.mpt y),(rnI y),t⟩ ⟨⟨_,y,(zvW y ⟨(.msl y),(.msl y),(rnI y),t⟩)⟩,⟨y,mkI (fun _=>y)⟩,⟨y,mkI (fun _=>y)⟩,t⟩<|⟨(.tup []),[],[(28,.tup [])],y,y,kz,y,zht ⟨pe,pe,pe,pe,pe,pe,pe,pe,pe,pe,pe,pe,pe,pe,pe,(pb y (nep ti y y y y y y w)),pe,pe,t⟩ (zo [.old 0,.old 1,.old 2,.old 3])⟩⟩),t⟩) ?_
  obtain rfl:=sm h
  exact ⟨_,y,zy [.old 0,.old 1,.old 2,.old 3]⟩
 ·
  replace h:=oeS h
  obtain ⟨v12,q3,h⟩:=bs h
  refine zjq [] [some (15,[(vK v1 v2 v3 v4 (.msl 1 0 (length v5)) (.msl 2 0 (length v6)) (bA (v7||(!v12))))]),some (1,map zf v5),some (1,map zf v6),some (1,map zf v9)] [18] [17,16,15,14,13,12,11,10,9,8,7,6,5,4,3,2,1,0] [(27,bA v12),(26,bA v12),(25,.msl 3 0 (length v9)),(24,.msl 1 0 (length v5)),(23,.mpt 0 0 12),(22,.mpt 0 0 0),(21,.mpt 0 0 0),(20,.agg (zP v11)),(19,.ipt 3 [[iA v11.At,.isl 1 (map zf v11.Locals),.isl 1 (map zf v11.Stack)]] 0 0),(18,.ipt 3 [[iA v11.At,.isl 1 (map zf v11.Locals),.isl 1 (map zf v11.Stack)]] 0 0),(17,.ipt 2 [[.isl 6 (map zc v1),.imp (map (rKV (fun x=>iA x)) v2)]] 0 0),(16,.mpt 0 0 0),(15,.mpt 0 0 0),(14,.mpt 0 0 0),(13,bA true),(12,bA true),(11,.ipt 3 [[iA v11.At,.isl 1 (map zf v11.Locals),.isl 1 (map zf v11.Stack)]] 0 0),(10,.mpt 0 0 0)] 1 (zem ⟨pe,(fun _=>pag (b:=true) y y y y y y (pcs (zkT v1 v2 v11 v5 v9 q3) y y (.cons (si y) (.cons (si y) (.cons (zhU y (fun _=>y)) (.cons (zhU y (fun _=>y)) .nil)))) zcD<|w)),pe,pe,pe,pe,pe,pe,pe,pe,pe,pe,pe,pe,pe,(pb y (nep ti y y y y y y w)),pe,pe,t⟩ ⟨(fun _ _=>⟨_,y,y,sc [0,1,2] (args:=[.mpt 0 0 0,bA v12]) (zs v1 v2 v3 v4 v5 v6 v7 v12 y) y y y y ⟨(.mpt y),(rnI y),t⟩ ⟨⟨_,y,(zvW y ⟨(.msl y),(.msl y),(rnI y),t⟩)⟩,⟨y,mkI (fun _=>y)⟩,⟨y,mkI (fun _=>y)⟩,t⟩<|⟨(.tup []),[],[(28,.tup [])],y,y,kz,y,zht ⟨pe,pe,pe,pe,pe,pe,pe,pe,pe,pe,pe,pe,pe,pe,pe,(pb y (nep ti y y y y y y w)),pe,pe,t⟩ (zo [.old 0,.old 1,.old 2,.old 3])⟩⟩),t⟩) ?_
  obtain rfl:=sm h
  exact ⟨_,y,zy [.old 0,.old 1,.old 2,.old 3]⟩
def zfj(v23:Bool):Option (Bool):=
  some v23
def zcm(v17:Int)(v22:Bool):Option (Sum (Bool×Int) (Sum (Bool) (Bool))):=
  some (.inl (v22,(IntKind.i64.wrap (v17+1))))
def zbE(v1:List zb)(v2:T2)(v3:T0)(v4:zd)(v5:T1)(v6:T1)(v8:Int)(v16:Bool)(v17:Int)(v18:zbe)(v19:T0):Option (Sum (Bool×Int) (Sum (Bool) (Bool))):=
  (zcB v1 v2 v19 [84,104,114,111,119,110]).bind fun v20=>cond ((decide (v18.From≤v8))&&(decide (v8<v18.To))) ((zdg v1 v2 v3 v4 v5 v6 (v16||(!v20)) v18.At [v19]).bind fun v21=>zcm v17 v21) (zcm v17 (v16||(!v20)))
def zbb(v1:List zb)(v2:T2)(v3:T0)(v4:zd)(v5:T1)(v6:T1)(v8:Int)(v16:Bool)(v17:Int):Option (Sum (Bool×Int) (Sum (Bool) (Bool))):=
  cond (decide (v17<(length v4.Traps:Int))) ((idx v4.Traps v17).bind fun v18=>cond (v18.C == []) (zbE v1 v2 v3 v4 v5 v6 v8 v16 v17 v18 [84,104,114,111,119,110]) (zbE v1 v2 v3 v4 v5 v6 v8 v16 v17 v18 v18.C)) (some (.inr (.inl v16)))
def zc5(v1:List zb)(v2:T2)(v3:T0)(v4:zd)(v5:T1)(v6:T1)(v7:Bool)(v8:Int):Option (Bool):=
  (zu (fun z=>zbb v1 v2 v3 v4 v5 v6 v8 z.1 z.2) (v7,0)).bind fun o=>zU o (fun b=>zfj b) some
theorem zkx(v1:List zb)(v2:T2)(v3:T0)(v4:zd)(v5:T1)(v6:T1)(v7:Bool)(v8:Int){r:Bool}(h:zc5 v1 v2 v3 v4 v5 v6 v7 v8=some r):SC Tryz.prog 85 [.mpt 0 0 0,iA v8] [.one 15 (vK v1 v2 v3 v4 (.msl 1 0 (length v5)) (.msl 2 0 (length v6)) (bA v7)),.many 1 (map zf v5),.many 1 (map zf v6)] (.tup []) [.one 15 (vK v1 v2 v3 v4 (.msl 1 0 (length v5)) (.msl 2 0 (length v6)) (bA r)),.many 1 (map zf v5),.many 1 (map zf v6)]:=by
 refine ⟨⟨t,zhS (sz:=1) (fun _=>y),zhS (sz:=1) (fun _=>y),t⟩,zW Tryz.func85 y kz y ?_⟩
 unfold zc5 at h
 refine rg y<|u<|mv y<|u<|nc y y<|u<|fa ti y y y<|u<|fa ti y y y<|u<|ld ti y y<|u<|lnI ti y y<|u<|mv y<|za ?_
 obtain ⟨o,ho,h⟩:=bs h
 refine zX (X:=Bool×Int) (B:=Bool) (R:=Bool) (fun z=>[(0,.mpt 0 0 0),(1,iA v8),(11,.isl 4 (map zbL v4.Traps)),(12,iA (length v4.Traps:Int)),(13,iA z.2)]) (fun z=>[some (15,[(vK v1 v2 v3 v4 (.msl 1 0 (length v5)) (.msl 2 0 (length v6)) (bA z.1))]),some (1,map zf v5),some (1,map zf v6)]) (fun b=>[]) (fun b=>[some (15,[(vK v1 v2 v3 v4 (.msl 1 0 (length v5)) (.msl 2 0 (length v6)) (bA b))]),some (1,map zf v5),some (1,map zf v6)]) (fun r env st=>zaN Tryz.prog Tryz.f85 3 (.tup []) [some (15,[(vK v1 v2 v3 v4 (.msl 1 0 (length v5)) (.msl 2 0 (length v6)) (bA r))]),some (1,map zf v5),some (1,map zf v6)] env st) ho (zo [.old 0,.old 1,.old 2]) ?_ ?_ ?_
 ·
  rintro ⟨v16,v17⟩ r h
  replace h:zbb v1 v2 v3 v4 v5 v6 v8 v16 v17=some r:=h
  unfold zbb at h
  refine rg y<|u<|lss ti y y<|za ?_
  refine zi ?_
  refine ze y (fun hc8=>?_) (fun hc8=>?_)
  ·
   replace h:=bT hc8 h
   refine zg ?_
   refine za6 (X:=Bool) (fun z=>[(0,.mpt 0 0 0),(1,iA v8),(11,.isl 4 (map zbL v4.Traps)),(12,iA (length v4.Traps:Int)),(13,iA v17)]) (fun z=>[some (15,[(vK v1 v2 v3 v4 (.msl 1 0 (length v5)) (.msl 2 0 (length v6)) (bA z))]),some (1,map zf v5),some (1,map zf v6)]) (fun z=>zcm v17 z=some r) ?_ ?_
   ·
    refine zr ?_
    obtain ⟨v18,q9,h⟩:=bs h
    refine rg y<|u<|ixI ti y ti y y y q9<|u<|ldI ti y (zl q9).2.2 y<|u<|al 3 ti y<|u<|sto ti y y y<|za ?_
    refine rg y<|u<|fa ti y y y<|u<|ld ti y y<|u<|asg y<|za ?_
    refine za6 (X:=T0) (fun z=>[(0,.mpt 0 0 0),(1,iA v8),(5,.mpt 3 0 0),(6,sA z),(11,.isl 4 (map zbL v4.Traps)),(12,iA (length v4.Traps:Int)),(13,iA v17)]) (fun z=>[some (15,[(vK v1 v2 v3 v4 (.msl 1 0 (length v5)) (.msl 2 0 (length v6)) (bA v16))]),some (1,map zf v5),some (1,map zf v6),some (4,[(zbL v18)])]) (fun z=>zbE v1 v2 v3 v4 v5 v6 v8 v16 v17 v18 z=some r) ?_ ?_
    ·
     refine rg y<|u<|mv y<|u<|seq ti y y<|za ?_
     refine ze y (fun hc10=>?_) (fun hc10=>?_)
     ·
      replace h:=bT hc10 h
      exact rl y<|u<|asg y<|za (⟨[84,104,114,111,119,110],h,zo [.old 0,.old 1,.old 2,.old 3]⟩)
     ·
      replace h:=bF hc10 h
      refine zg ?_
      exact ⟨v18.C,h,zo [.old 0,.old 1,.old 2,.old 3]⟩
    ·
     rintro v19 h
     replace h:zbE v1 v2 v3 v4 v5 v6 v8 v16 v17 v18 v19=some r:=h
     unfold zbE at h
     obtain ⟨v20,q11,h⟩:=bs h
     refine rg y<|u<|mv y<|u<|mv y<|u<|nc y y<|u<|fa ti y y y<|u<|ld ti y y<|u<|mv y<|u<|pc (zds v1 v2 v19 [84,104,114,111,119,110] q11) y y y<|u<|sx [0,1,2] (zs v1 v2 v3 v4 v5 v6 v16 v20 y)<|zx (env0:=[(0,.mpt 0 0 0),(1,iA v8),(5,.mpt 3 0 0),(6,sA v19),(11,.isl 4 (map zbL v4.Traps)),(12,iA (length v4.Traps:Int)),(13,iA v17)]) (st0:=[some (15,[(vK v1 v2 v3 v4 (.msl 1 0 (length v5)) (.msl 2 0 (length v6)) (bA (v16||(!v20))))]),some (1,map zf v5),some (1,map zf v6),some (4,[(zbL v18)])]) (zo [.old 0,.old 1,.old 2,.old 3])<|za ?_
     refine rg y<|u<|fa ti y y y<|u<|ld ti y y<|u<|mv y<|u<|leq ti y y<|u<|mv y<|z7 (j:=4) 4 y y y y y gpn (fun hb12=>g y hb12<|mv y<|g y hb12<|fa ti y y y<|g y hb12<|ld ti y y<|g y hb12<|lss ti y y<|za (egA [34,35,36,37] 4 hb12 y y y y)) ze2<|za ?_
     refine ze y (fun hc13=>?_) (fun hc13=>?_)
     ·
      replace h:=bT hc13 h
      obtain ⟨v21,q14,h⟩:=bs h
      exact rl y<|u<|mv y<|u<|fa ti y y y<|u<|ld ti y y<|u<|mv y<|u<|bl 4 ti y ti y (by decide) (by decide) y y y<|u<|sx [0,1,2,4] (zjz v1 v2 v3 v4 v5 v6 (v16||(!v20)) v18.At [v19] q14)<|zx (env0:=[(0,.mpt 0 0 0),(1,iA v8),(11,.isl 4 (map zbL v4.Traps)),(12,iA (length v4.Traps:Int)),(13,iA v17)]) (st0:=[some (15,[(vK v1 v2 v3 v4 (.msl 1 0 (length v5)) (.msl 2 0 (length v6)) (bA v21))]),some (1,map zf v5),some (1,map zf v6)]) (zo [.old 0,.old 1,.old 2])<|za (⟨v21,h,zo [.old 0,.old 1,.old 2]⟩)
     ·
      replace h:=bF hc13 h
      refine zg ?_
      exact ⟨(v16||(!v20)),h,zo [.old 0,.old 1,.old 2]⟩
   ·
    rintro v22 h
    replace h:zcm v17 v22=some r:=h
    unfold zcm at h
    refine rl y<|u<|add ti y y<|u<|mv y<|za ?_
    obtain rfl:=sm h
    exact ⟨_,y,zo [.old 0,.old 1,.old 2]⟩
  ·
   replace h:=bF hc8 h
   refine zD ?_
   obtain rfl:=sm h
   exact ⟨y,_,y,zo [.old 0,.old 1,.old 2]⟩
 ·
  rintro v23 rfl
  replace h:zfj v23=some r:=h
  unfold zfj at h
  refine zw ?_
  obtain rfl:=sm h
  exact ⟨_,y,zy [.old 0,.old 1,.old 2]⟩
 ·
  rintro r' rfl env st hp
  obtain rfl:=sm h
  exact hp
def zaK(v1:Int)(v2:Int)(v3:Int):Bool:=
  ((decide (v2≤v1))&&(decide (v1≤v3)))
theorem zbN(v1:Int)(v2:Int)(v3:Int){r:Bool}(h:zaK v1 v2 v3=r):zI Tryz.prog 139 [iA v1,iA v2,iA v3] (bA r):=by
 refine zq Tryz.func139 y kz y y ?_
 unfold zaK at h
 refine rg y<|u<|asg y<|za ?_
 refine rg y<|u<|mv y<|u<|mv y<|u<|geq ti y y<|u<|mv y<|z7 (j:=3) 3 y y y y y gpn (fun hb1=>g y hb1<|mv y<|g y hb1<|mv y<|g y hb1<|leq ti y y<|za (egA [11,12,13] 3 hb1 y y y y)) ze2<|u<|asg y<|za ?_
 refine zj ?_
 obtain rfl:=h
 exact ⟨_,y,zy []⟩
def zA(v1:List zb)(v2:T2)(v3:T0)(v4:zd)(v5:T1)(v6:T1)(v7:Bool)(v8:T0):Option (T1):=
  (zis 16 v6 [v8]).bind fun v9=>some v9
theorem zz(v1:List zb)(v2:T2)(v3:T0)(v4:zd)(v5:T1)(v6:T1)(v7:Bool)(v8:T0){r:T1}(h:zA v1 v2 v3 v4 v5 v6 v7 v8=some r):SC Tryz.prog 142 [.mpt 0 0 0,sA v8] [.one 15 (vK v1 v2 v3 v4 (.msl 1 0 (length v5)) (.msl 2 0 (length v6)) (bA v7)),.many 1 (map zf v5),.many 1 (map zf v6)] (.tup []) [.one 15 (vK v1 v2 v3 v4 (.msl 1 0 (length v5)) (.msl 3 0 (length r)) (bA v7)),.many 1 (map zf v5),.no,.many 1 (map zf r)]:=by
 refine ⟨⟨t,zhS (sz:=1) (fun _=>y),t,zhS (sz:=1) (fun _=>y),t⟩,zW Tryz.func142 y kz y ?_⟩
 unfold zA at h
 obtain ⟨v9,q1,h⟩:=bs h
 refine rl y<|u<|mv y<|u<|mv y<|u<|nc y y<|u<|fa ti y y y<|u<|ld ti y y<|u<|mv y<|u<|bl 3 ti y ti y (by decide) (by decide) y y y<|u<|apM 4 ti y ti y y (by decide) ti y y y y (roX (f:=zf) (z:=[v8]) y y) (fun _=>y) y q1<|u<|nc y y<|u<|fa ti y y y<|u<|sto ti y y y<|za ?_
 obtain rfl:=sm h
 exact ⟨_,y,zy [.old 0,.old 1,.dead,.old 4]⟩
def zaf(v1:List zb)(v2:T2)(v3:T0)(v4:zd)(v5:T1)(v6:T1)(v7:Bool):Option (T0×T1×Bool):=
  cond (((length v6):Int) == (0:Int)) (some ([84],v6,true)) ((idx v6 (IntKind.i64.wrap (((length v6):Int)-1))).bind fun v8=>(zj6 v6 0 (IntKind.i64.wrap (((length v6):Int)-1))).bind fun v9=>some (v8,v9,v7))
theorem zaL(v1:List zb)(v2:T2)(v3:T0)(v4:zd)(v5:T1)(v6:T1)(v7:Bool){r:T0×T1×Bool}(h:zaf v1 v2 v3 v4 v5 v6 v7=some r):SC Tryz.prog 213 [.mpt 0 0 0] [.one 15 (vK v1 v2 v3 v4 (.msl 1 0 (length v5)) (.msl 2 0 (length v6)) (bA v7)),.many 1 (map zf v5),.many 1 (map zf v6)] (sA r.1) [.one 15 (vK v1 v2 v3 v4 (.msl 1 0 (length v5)) (.msl 2 0 (length r.2.1)) (bA r.2.2)),.many 1 (map zf v5),.many 1 (map zf r.2.1)]:=by
 refine ⟨⟨t,zhS (sz:=1) (fun _=>y),zhS (sz:=1) (fun _=>y),t⟩,zW Tryz.func213 y kz y ?_⟩
 unfold zaf at h
 refine rg y<|u<|asg y<|za ?_
 refine zi ?_
 refine rg y<|u<|mv y<|u<|nc y y<|u<|fa ti y y y<|u<|ld ti y y<|u<|lnM ti y y y<|u<|eql ti y y<|za ?_
 refine ze y (fun hc1=>?_) (fun hc1=>?_)
 ·
  replace h:=bT hc1 h
  refine rg y<|u<|mv y<|u<|nc y y<|u<|fa ti y y y<|u<|sto ti y y y<|za ?_
  refine rg y<|u<|asg y<|za ?_
  refine zj ?_
  obtain rfl:=sm h
  exact ⟨_,y,zy [.old 0,.old 1,.old 2]⟩
 ·
  replace h:=bF hc1 h
  refine zg ?_
  obtain ⟨v8,q2,h⟩:=bs h
  refine rdA [(0,.mpt 0 0 0),(3,sA v8)] [some (15,[(vK v1 v2 v3 v4 (.msl 1 0 (length v5)) (.msl 2 0 (length v6)) (bA v7))]),some (1,map zf v5),some (1,map zf v6)] [] [12,11,10,9,8,7,6,5,4,3,2,1,0] [(3,sA v8),(24,sA v8),(23,.mpt 2 (Int.toNat (IntKind.i64.wrap (((length v6):Int)-1))) 0),(22,iA (IntKind.i64.wrap (((length v6):Int)-1))),(21,iA ((length v6):Int)),(20,.msl 2 0 (length v6)),(19,.mpt 0 0 13),(18,.mpt 0 0 0),(17,.mpt 0 0 0),(16,.msl 2 0 (length v6)),(15,.mpt 0 0 13),(14,.mpt 0 0 0),(13,.mpt 0 0 0)] 0 (zht ⟨pe,(pb y (ldM ti y y (zl q2).2.2 y w)),(pb y (ixM ti y ti y y y y q2 w)),(pb y (sub ti y y w)),(pb y (lnM ti y y y w)),pe,pe,pe,pe,pe,pe,pe,pe,t⟩ (zo [.old 0,.old 1,.old 2])) ?_
  obtain ⟨v9,q3,h⟩:=bs h
  refine rdA [(3,sA v8)] [some (15,[(vK v1 v2 v3 v4 (.msl 1 0 (length v5)) (.msl 2 0 (length v9)) (bA v7))]),some (1,map zf v5),some (1,map zf v6)] [14] [13,12,11,10,9,8,7,6,5,4,3,2,1,0] [(38,.mpt 0 0 13),(37,.mpt 0 0 0),(36,.msl 2 0 (length v9)),(35,iA (IntKind.i64.wrap (((length v6):Int)-1))),(34,iA ((length v6):Int)),(33,.msl 2 0 (length v6)),(32,.mpt 0 0 13),(31,.mpt 0 0 0),(30,.mpt 0 0 0),(29,.msl 2 0 (length v6)),(28,.mpt 0 0 13),(27,.mpt 0 0 0),(26,.mpt 0 0 0),(25,.mpt 0 0 0)] 1 (zem ⟨pe,pe,(pb y (slM (l:=v6) (c:=(IntKind.i64.wrap (((length v6):Int)-1))) ti y ti y y y (zon y q3) q3 w)),(pb y (sub ti y y w)),(pb y (lnM ti y y y w)),pe,pe,pe,pe,pe,pe,pe,pe,pe,t⟩ ⟨(fun _ _=>⟨_,y,y,sto ti y y y<|⟨.any,[],[],y,y,kz,t,zhW (zo [.old 0,.old 1,.old 2])⟩⟩),t⟩) ?_
  refine zCl (b:=2) (l:=v6) (f:=zf) (c:=(IntKind.i64.wrap (((length v6):Int)-1))) y y q3 ?_
  refine rg y<|u<|mv y<|u<|asg y<|za ?_
  refine zj ?_
  obtain rfl:=sm h
  exact ⟨_,y,zy [.old 0,.old 1,.old 2]⟩
def za0(v1:List zb)(v2:T2)(v3:T0)(v4:zd)(v5:T1)(v6:T1)(v7:Bool)(v8:zH)(v12:Bool):Option (T1×T1×Bool):=
  cond v12 (some (v5,v6,true)) ((idx v5 v8.A).bind fun v13=>(zA v1 v2 v3 v4 v5 v6 v7 v13).bind fun v14=>some (v5,v14,v7))
def zaT(v1:List zb)(v2:T2)(v3:T0)(v4:zd)(v5:T1)(v6:T1)(v7:Bool)(v8:zH):Option (T1×T1×Bool):=
  cond (v8.Op == (1:Int)) ((zA v1 v2 v3 v4 v5 v6 v7 [73]).bind fun v9=>some (v5,v9,v7)) (cond (v8.Op == (2:Int)) ((zA v1 v2 v3 v4 v5 v6 v7 [78]).bind fun v10=>some (v5,v10,v7)) (cond (v8.Op == (3:Int)) (cond (decide (((length v5):Int)≤v8.A)) (za0 v1 v2 v3 v4 v5 v6 v7 v8 true) ((idx v5 v8.A).bind fun v11=>za0 v1 v2 v3 v4 v5 v6 v7 v8 (v11 == [84]))) (cond (v8.Op == (4:Int)) ((zaf v1 v2 v3 v4 v5 v6 v7).bind fun v15=>cond (decide (((length v5):Int)≤v8.A)) (some (v5,v15.2.1,true)) ((znf v5).bind fun v16=>(idx v16 v8.A).bind fun v17=>some ((List.set v16 (Int.toNat v8.A) v15.1),v15.2.1,v15.2.2))) (cond (v8.Op == (5:Int)) ((zaf v1 v2 v3 v4 v5 v6 v7).bind fun v18=>some (v5,v18.2.1,v18.2.2)) (cond (v8.Op == (6:Int)) ((zaf v1 v2 v3 v4 v5 v6 v7).bind fun v19=>(zA v1 v2 v3 v4 v5 v19.2.1 v19.2.2 v19.1).bind fun v20=>(zA v1 v2 v3 v4 v5 v20 v19.2.2 v19.1).bind fun v21=>some (v5,v21,v19.2.2)) (cond (v8.Op == (7:Int)) ((zaf v1 v2 v3 v4 v5 v6 v7).bind fun v22=>(zaf v1 v2 v3 v4 v5 v22.2.1 v22.2.2).bind fun v23=>(zA v1 v2 v3 v4 v5 v23.2.1 v23.2.2 v22.1).bind fun v24=>(zA v1 v2 v3 v4 v5 v24 v23.2.2 v23.1).bind fun v25=>some (v5,v25,v23.2.2)) (some (v5,v6,v7))))))))
theorem zk2(v1:List zb)(v2:T2)(v3:T0)(v4:zd)(v5:T1)(v6:T1)(v7:Bool)(v8:zH){r:T1×T1×Bool}(h:zaT v1 v2 v3 v4 v5 v6 v7 v8=some r):SC Tryz.prog 140 [.mpt 0 0 0,.agg (zv v8)] [.one 15 (vK v1 v2 v3 v4 (.msl 1 0 (length v5)) (.msl 2 0 (length v6)) (bA v7)),.many 1 (map zf v5),.many 1 (map zf v6)] (.tup []) [.one 15 (vK v1 v2 v3 v4 (.msl 3 0 (length r.1)) (.msl 4 0 (length r.2.1)) (bA r.2.2)),.no,.no,.many 1 (map zf r.1),.many 1 (map zf r.2.1)]:=by
 refine ⟨⟨t,t,t,zhS (sz:=1) (fun _=>y),zhS (sz:=1) (fun _=>y),t⟩,zW Tryz.func140 y kz y ?_⟩
 unfold zaT at h
 refine rg y<|u<|bx 3 4 y y y y<|za ?_
 refine rg y<|u<|fa ti y y y<|u<|ld ti y y<|za ?_
 refine zr ?_
 refine rg y<|u<|eql ti y y<|u<|asg y<|za ?_
 refine ze y (fun hc1=>?_) (fun hc1=>?_)
 ·
  replace h:=bT hc1 h
  obtain ⟨v9,q2,h⟩:=bs h
  refine rl y<|u<|mv y<|u<|sx [0,1,2] (zz v1 v2 v3 v4 v5 v6 v7 [73] q2)<|zx (env0:=[]) (st0:=[some (15,[(vK v1 v2 v3 v4 (.msl 1 0 (length v5)) (.msl 3 0 (length v9)) (bA v7))]),some (1,map zf v5),none,some (1,map zf v9)]) (zo [.old 0,.old 1,.dead,.old 4])<|za ?_
  obtain rfl:=sm h
  exact ⟨_,y,zy [.old 0,.dead,.dead,.old 1,.old 3]⟩
 ·
  replace h:=bF hc1 h
  refine rg y<|u<|eql ti y y<|u<|asg y<|za ?_
  refine ze y (fun hc3=>?_) (fun hc3=>?_)
  ·
   replace h:=bT hc3 h
   obtain ⟨v10,q4,h⟩:=bs h
   refine rl y<|u<|mv y<|u<|sx [0,1,2] (zz v1 v2 v3 v4 v5 v6 v7 [78] q4)<|zx (env0:=[]) (st0:=[some (15,[(vK v1 v2 v3 v4 (.msl 1 0 (length v5)) (.msl 3 0 (length v10)) (bA v7))]),some (1,map zf v5),none,some (1,map zf v10)]) (zo [.old 0,.old 1,.dead,.old 4])<|za ?_
   obtain rfl:=sm h
   exact ⟨_,y,zy [.old 0,.dead,.dead,.old 1,.old 3]⟩
  ·
   replace h:=bF hc3 h
   refine rg y<|u<|eql ti y y<|u<|asg y<|za ?_
   refine ze y (fun hc5=>?_) (fun hc5=>?_)
   ·
    replace h:=bT hc5 h
    refine zi ?_
    refine za6 (X:=Bool) (fun z=>[(0,.mpt 0 0 0),(3,.mpt 3 0 0),(38,bA z)]) (fun z=>[some (15,[(vK v1 v2 v3 v4 (.msl 1 0 (length v5)) (.msl 2 0 (length v6)) (bA v7))]),some (1,map zf v5),some (1,map zf v6),some (4,[(zv v8)])]) (fun z=>za0 v1 v2 v3 v4 v5 v6 v7 v8 z=some r) ?_ ?_
    ·
     rcases bb (decide (((length v5):Int)≤v8.A)) with hb6 |hb6
     ·
      replace h:=bT hb6 h
      exact zae [] [18,17,16,15,14,13,12,11,10,9,8,7,6,5,4,3,2,1,0] [(38,bA true),(37,.lit undef),(36,.lit undef),(35,.lit undef),(34,.lit undef),(33,.lit undef),(32,.lit undef),(31,.lit undef),(30,.lit undef),(29,.lit undef),(28,bA (decide (((length v5):Int)≤v8.A))),(27,bA (decide (((length v5):Int)≤v8.A))),(26,iA ((length v5):Int)),(25,.msl 1 0 (length v5)),(24,.mpt 0 0 12),(23,.mpt 0 0 0),(22,.mpt 0 0 0),(21,iA v8.A),(20,.mpt 3 0 1)] 0 kz kz y kz (zht ⟨pe,pe,pe,pe,pe,pe,pe,pe,pe,pe,pe,pe,(pb y (lnM ti y y y w)),pe,pe,pe,pe,pe,pe,t⟩ ⟨true,h,zo [.old 0,.old 1,.old 2,.old 3]⟩)
     ·
      replace h:=bF hb6 h
      obtain ⟨v11,q7,h⟩:=bs h
      exact zae [] [18,17,16,15,14,13,12,11,10,9,8,7,6,5,4,3,2,1,0] [(38,bA (v11 == [84])),(37,bA (v11 == [84])),(36,sA v11),(35,.mpt 1 (Int.toNat v8.A) 0),(34,iA v8.A),(33,.mpt 3 0 1),(32,.msl 1 0 (length v5)),(31,.mpt 0 0 12),(30,.mpt 0 0 0),(29,.mpt 0 0 0),(28,bA (decide (((length v5):Int)≤v8.A))),(27,bA (decide (((length v5):Int)≤v8.A))),(26,iA ((length v5):Int)),(25,.msl 1 0 (length v5)),(24,.mpt 0 0 12),(23,.mpt 0 0 0),(22,.mpt 0 0 0),(21,iA v8.A),(20,.mpt 3 0 1)] 0 kz kz y kz (zht ⟨pe,pe,(fun _=>pag (b:=(decide (((length v5):Int)≤v8.A))) y y y y hb6 y (ldM ti y y (zl q7).2.2 y<|w)),(fun _=>pag (b:=(decide (((length v5):Int)≤v8.A))) y y y y hb6 y (ixM ti y ti y y y y q7<|w)),pe,pe,pe,pe,pe,pe,pe,pe,(pb y (lnM ti y y y w)),pe,pe,pe,pe,pe,pe,t⟩ ⟨(v11 == [84]),h,zo [.old 0,.old 1,.old 2,.old 3]⟩)
    ·
     rintro v12 h
     replace h:za0 v1 v2 v3 v4 v5 v6 v7 v8 v12=some r:=h
     unfold za0 at h
     refine ze y (fun hc8=>?_) (fun hc8=>?_)
     ·
      replace h:=bT hc8 h
      refine rg y<|u<|mv y<|u<|nc y y<|u<|fa ti y y y<|u<|sto ti y y y<|za ?_
      refine zj ?_
      obtain rfl:=sm h
      exact ⟨_,y,zy [.old 0,.dead,.dead,.old 1,.old 2]⟩
     ·
      replace h:=bF hc8 h
      refine zg ?_
      obtain ⟨v13,q9,h⟩:=bs h
      obtain ⟨v14,q10,h⟩:=bs h
      refine zjq [] [some (15,[(vK v1 v2 v3 v4 (.msl 1 0 (length v5)) (.msl 3 0 (length v14)) (bA v7))]),some (1,map zf v5),none,some (1,map zf v14)] [9] [8,7,6,5,4,3,2,1,0] [(50,sA v13),(49,.mpt 1 (Int.toNat v8.A) 0),(48,iA v8.A),(47,.mpt 3 0 1),(46,.msl 1 0 (length v5)),(45,.mpt 0 0 12),(44,.mpt 0 0 0),(43,.mpt 0 0 0),(42,.mpt 0 0 0)] 1 (zem ⟨(pb y (ldM ti y y (zl q9).2.2 y w)),(pb y (ixM ti y ti y y y y q9 w)),pe,pe,pe,pe,pe,pe,pe,t⟩ ⟨(fun _ _=>⟨_,y,y,sx [0,1,2] (zz v1 v2 v3 v4 v5 v6 v7 v13 q10)<|⟨(.tup []),[],[(51,.tup [])],y,y,kz,y,zht ⟨pe,(pb y (ixM ti y ti y y y y q9 w)),pe,pe,pe,pe,pe,pe,pe,t⟩ (zo [.old 0,.old 1,.dead,.old 4])⟩⟩),t⟩) ?_
      obtain rfl:=sm h
      exact ⟨_,y,zy [.old 0,.dead,.dead,.old 1,.old 3]⟩
   ·
    replace h:=bF hc5 h
    refine rg y<|u<|eql ti y y<|u<|asg y<|za ?_
    refine ze y (fun hc11=>?_) (fun hc11=>?_)
    ·
     replace h:=bT hc11 h
     obtain ⟨v15,q12,h⟩:=bs h
     refine rg y<|u<|mv y<|u<|sx [0,1,2] (zaL v1 v2 v3 v4 v5 v6 v7 q12)<|zx (env0:=[(0,.mpt 0 0 0),(3,.mpt 3 0 0),(55,sA v15.1)]) (st0:=[some (15,[(vK v1 v2 v3 v4 (.msl 1 0 (length v5)) (.msl 2 0 (length v15.2.1)) (bA v15.2.2))]),some (1,map zf v5),some (1,map zf v15.2.1),some (4,[(zv v8)])]) (zo [.old 0,.old 1,.old 2,.old 3])<|u<|asg y<|za ?_
     refine zi ?_
     refine rdA [(0,.mpt 0 0 0),(3,.mpt 3 0 0),(4,sA v15.1),(63,bA (decide (((length v5):Int)≤v8.A)))] [some (15,[(vK v1 v2 v3 v4 (.msl 1 0 (length v5)) (.msl 2 0 (length v15.2.1)) (bA v15.2.2))]),some (1,map zf v5),some (1,map zf v15.2.1),some (4,[(zv v8)])] [] [7,6,5,4,3,2,1,0] [(63,bA (decide (((length v5):Int)≤v8.A))),(62,iA ((length v5):Int)),(61,.msl 1 0 (length v5)),(60,.mpt 0 0 12),(59,.mpt 0 0 0),(58,.mpt 0 0 0),(57,iA v8.A),(56,.mpt 3 0 1)] 0 (zht ⟨pe,(pb y (lnM ti y y y w)),pe,pe,pe,pe,pe,pe,t⟩ (zo [.old 0,.old 1,.old 2,.old 3])) ?_
     refine ze y (fun hc13=>?_) (fun hc13=>?_)
     ·
      replace h:=bT hc13 h
      refine rg y<|u<|mv y<|u<|nc y y<|u<|fa ti y y y<|u<|sto ti y y y<|za ?_
      refine zj ?_
      obtain rfl:=sm h
      exact ⟨_,y,zy [.old 0,.dead,.dead,.old 1,.old 2]⟩
     ·
      replace h:=bF hc13 h
      refine zg ?_
      obtain ⟨v16,q14,h⟩:=bs h
      refine rg y<|u<|mv y<|u<|mv y<|u<|nc y y<|u<|fa ti y y y<|u<|ld ti y y<|zx (env0:=[(0,.mpt 0 0 0),(3,.mpt 3 0 0),(4,sA v15.1),(67,.mpt 0 0 0),(71,.isl 1 (map zf v5))]) (st0:=[some (15,[(vK v1 v2 v3 v4 (.isl 1 (map zf v5)) (.msl 2 0 (length v15.2.1)) (bA v15.2.2))]),none,some (1,map zf v15.2.1),some (4,[(zv v8)])]) (zo [.old 0,.dead,.old 2,.old 3])<|u<|sx [] (zpi v5 q14)<|zx (env0:=[(0,.mpt 0 0 0),(3,.mpt 3 0 0),(4,sA v15.1),(67,.mpt 0 0 0),(72,.msl 4 0 (length v16))]) (st0:=[some (15,[(vK v1 v2 v3 v4 (.isl 1 (map zf v5)) (.msl 2 0 (length v15.2.1)) (bA v15.2.2))]),none,some (1,map zf v15.2.1),some (4,[(zv v8)]),some (1,map zf v16)]) (zo [.old 0,.dead,.old 2,.old 3,.old 4])<|u<|nc y y<|u<|fa ti y y y<|u<|sto ti y y y<|za ?_
      obtain ⟨v17,q15,h⟩:=bs h
      refine zjq [] [some (15,[(vK v1 v2 v3 v4 (.msl 3 0 (length (List.set v16 (Int.toNat v8.A) v15.1))) (.msl 2 0 (length v15.2.1)) (bA v15.2.2))]),none,some (1,map zf v15.2.1),some (1,map zf (List.set v16 (Int.toNat v8.A) v15.1))] [8] [7,6,5,4,3,2,1,0] [(82,.mpt 4 (Int.toNat v8.A) 0),(81,sA v15.1),(80,iA v8.A),(79,.mpt 3 0 1),(78,.msl 4 0 (length v16)),(77,.mpt 0 0 12),(76,.mpt 0 0 0),(75,.mpt 0 0 0)] 1 (zem ⟨(pb y (ixM ti y ti y y y y q15 w)),pe,pe,pe,pe,pe,pe,pe,t⟩ ⟨(fun _ _=>⟨_,y,y,zBR (c':=v15.1) ti y y (zl q15).2.2 y y y y y<|⟨.any,[],[],y,y,kz,t,zhW ⟨[.old 0,.dead,.old 2,.old 4],cn,y,⟨⟨_,y,ziB (zAp y (by exact ⟨zBK (by simp) y,.msl y,ci y,t⟩))⟩,⟨_,y,zjN (fun _=>y)⟩,⟨_,y,zjN (fun _=>y)⟩,t⟩,y,k⟩⟩⟩),t⟩) ?_
      obtain rfl:=sm h
      exact ⟨_,y,zy [.old 0,.dead,.dead,.old 3,.old 2]⟩
    ·
     replace h:=bF hc11 h
     refine rg y<|u<|eql ti y y<|u<|asg y<|za ?_
     refine ze y (fun hc16=>?_) (fun hc16=>?_)
     ·
      replace h:=bT hc16 h
      obtain ⟨v18,q17,h⟩:=bs h
      refine rl y<|u<|mv y<|u<|sx [0,1,2] (zaL v1 v2 v3 v4 v5 v6 v7 q17)<|zx (env0:=[]) (st0:=[some (15,[(vK v1 v2 v3 v4 (.msl 1 0 (length v5)) (.msl 2 0 (length v18.2.1)) (bA v18.2.2))]),some (1,map zf v5),some (1,map zf v18.2.1)]) (zo [.old 0,.old 1,.old 2])<|za ?_
      obtain rfl:=sm h
      exact ⟨_,y,zy [.old 0,.dead,.dead,.old 1,.old 2]⟩
     ·
      replace h:=bF hc16 h
      refine rg y<|u<|eql ti y y<|u<|asg y<|za ?_
      refine ze y (fun hc18=>?_) (fun hc18=>?_)
      ·
       replace h:=bT hc18 h
       obtain ⟨v19,q19,h⟩:=bs h
       refine rg y<|u<|mv y<|u<|sx [0,1,2] (zaL v1 v2 v3 v4 v5 v6 v7 q19)<|zx (env0:=[(0,.mpt 0 0 0),(90,sA v19.1)]) (st0:=[some (15,[(vK v1 v2 v3 v4 (.msl 1 0 (length v5)) (.msl 2 0 (length v19.2.1)) (bA v19.2.2))]),some (1,map zf v5),some (1,map zf v19.2.1)]) (zo [.old 0,.old 1,.old 2])<|u<|asg y<|za ?_
       obtain ⟨v20,q20,h⟩:=bs h
       refine rg y<|u<|mv y<|u<|mv y<|u<|sx [0,1,2] (zz v1 v2 v3 v4 v5 v19.2.1 v19.2.2 v19.1 q20)<|zx (env0:=[(0,.mpt 0 0 0),(5,sA v19.1)]) (st0:=[some (15,[(vK v1 v2 v3 v4 (.msl 1 0 (length v5)) (.msl 3 0 (length v20)) (bA v19.2.2))]),some (1,map zf v5),none,some (1,map zf v20)]) (zo [.old 0,.old 1,.dead,.old 3])<|za ?_
       obtain ⟨v21,q21,h⟩:=bs h
       refine rl y<|u<|mv y<|u<|mv y<|u<|sx [0,1,3] (zz v1 v2 v3 v4 v5 v20 v19.2.2 v19.1 q21)<|zx (env0:=[]) (st0:=[some (15,[(vK v1 v2 v3 v4 (.msl 1 0 (length v5)) (.msl 3 0 (length v21)) (bA v19.2.2))]),some (1,map zf v5),none,some (1,map zf v21)]) (zo [.old 0,.old 1,.dead,.old 4])<|za ?_
       obtain rfl:=sm h
       exact ⟨_,y,zy [.old 0,.dead,.dead,.old 1,.old 3]⟩
      ·
       replace h:=bF hc18 h
       refine rg y<|u<|eql ti y y<|u<|asg y<|za ?_
       refine ze y (fun hc22=>?_) (fun hc22=>?_)
       ·
        replace h:=bT hc22 h
        obtain ⟨v22,q23,h⟩:=bs h
        obtain ⟨v23,q24,h⟩:=bs h
        refine rg y<|u<|mv y<|u<|sx [0,1,2] (zaL v1 v2 v3 v4 v5 v6 v7 q23)<|zx (env0:=[(0,.mpt 0 0 0),(100,sA v22.1)]) (st0:=[some (15,[(vK v1 v2 v3 v4 (.msl 1 0 (length v5)) (.msl 2 0 (length v22.2.1)) (bA v22.2.2))]),some (1,map zf v5),some (1,map zf v22.2.1)]) (zo [.old 0,.old 1,.old 2])<|u<|mv y<|u<|sx [0,1,2] (zaL v1 v2 v3 v4 v5 v22.2.1 v22.2.2 q24)<|zx (env0:=[(0,.mpt 0 0 0),(100,sA v22.1),(102,sA v23.1)]) (st0:=[some (15,[(vK v1 v2 v3 v4 (.msl 1 0 (length v5)) (.msl 2 0 (length v23.2.1)) (bA v23.2.2))]),some (1,map zf v5),some (1,map zf v23.2.1)]) (zo [.old 0,.old 1,.old 2])<|u<|asg y<|u<|asg y<|za ?_
        obtain ⟨v24,q25,h⟩:=bs h
        refine rg y<|u<|mv y<|u<|mv y<|u<|sx [0,1,2] (zz v1 v2 v3 v4 v5 v23.2.1 v23.2.2 v22.1 q25)<|zx (env0:=[(0,.mpt 0 0 0),(7,sA v23.1)]) (st0:=[some (15,[(vK v1 v2 v3 v4 (.msl 1 0 (length v5)) (.msl 3 0 (length v24)) (bA v23.2.2))]),some (1,map zf v5),none,some (1,map zf v24)]) (zo [.old 0,.old 1,.dead,.old 3])<|za ?_
        obtain ⟨v25,q26,h⟩:=bs h
        refine rl y<|u<|mv y<|u<|mv y<|u<|sx [0,1,3] (zz v1 v2 v3 v4 v5 v24 v23.2.2 v23.1 q26)<|zx (env0:=[]) (st0:=[some (15,[(vK v1 v2 v3 v4 (.msl 1 0 (length v5)) (.msl 3 0 (length v25)) (bA v23.2.2))]),some (1,map zf v5),none,some (1,map zf v25)]) (zo [.old 0,.old 1,.dead,.old 4])<|za ?_
        obtain rfl:=sm h
        exact ⟨_,y,zy [.old 0,.dead,.dead,.old 1,.old 3]⟩
       ·
        replace h:=bF hc22 h
        refine zg ?_
        obtain rfl:=sm h
        exact ⟨_,y,zy [.old 0,.dead,.dead,.old 1,.old 2]⟩
def zfD(v21:T1)(v22:Bool):Option (T1×Bool):=
  some (v21,v22)
def zap(v1:List zb)(v2:T2)(v3:T0)(v4:zd)(v5:T1)(v8:T1)(v15:T1)(v16:Bool)(v17:Int):Option (Sum (T1×Bool×Int) (Sum (T1×Bool) (T1×Bool))):=
  cond (decide (0≤v17)) ((idx v8 v17).bind fun v18=>(zaf v1 v2 v3 v4 v5 v15 v16).bind fun v19=>(zer v1 v2 v19.1 v18).bind fun v20=>some (.inl (v19.2.1,(v19.2.2||(!v20)),(IntKind.i64.wrap (v17-1))))) (some (.inr (.inl (v15,v16))))
def zE(v1:List zb)(v2:T2)(v3:T0)(v4:zd)(v5:T1)(v6:T1)(v7:Bool)(v8:T1):Option (T1×Bool):=
  (zu (fun z=>zap v1 v2 v3 v4 v5 v8 z.1 z.2.1 z.2.2) (v6,v7,(IntKind.i64.wrap ((length v8:Int)-1)))).bind fun o=>zU o (fun b=>zfD b.1 b.2) some
theorem zG(v1:List zb)(v2:T2)(v3:T0)(v4:zd)(v5:T1)(v6:T1)(v7:Bool)(v8:T1){r:T1×Bool}(h:zE v1 v2 v3 v4 v5 v6 v7 v8=some r):SC Tryz.prog 141 [.mpt 0 0 0,.isl 1 (map zf v8)] [.one 15 (vK v1 v2 v3 v4 (.msl 1 0 (length v5)) (.msl 2 0 (length v6)) (bA v7)),.many 1 (map zf v5),.many 1 (map zf v6)] (.tup []) [.one 15 (vK v1 v2 v3 v4 (.msl 1 0 (length v5)) (.msl 2 0 (length r.1)) (bA r.2)),.many 1 (map zf v5),.many 1 (map zf r.1)]:=by
 refine ⟨⟨t,zhS (sz:=1) (fun _=>y),zhS (sz:=1) (fun _=>y),t⟩,zW Tryz.func141 y kz y ?_⟩
 unfold zE at h
 refine rg y<|u<|mv y<|u<|lnI ti y y<|u<|sub ti y y<|u<|asg y<|za ?_
 obtain ⟨o,ho,h⟩:=bs h
 refine zX (X:=T1×Bool×Int) (B:=T1×Bool) (R:=T1×Bool) (fun z=>[(0,.mpt 0 0 0),(1,.isl 1 (map zf v8)),(4,iA z.2.2)]) (fun z=>[some (15,[(vK v1 v2 v3 v4 (.msl 1 0 (length v5)) (.msl 2 0 (length z.1)) (bA z.2.1))]),some (1,map zf v5),some (1,map zf z.1)]) (fun b=>[]) (fun b=>[some (15,[(vK v1 v2 v3 v4 (.msl 1 0 (length v5)) (.msl 2 0 (length b.1)) (bA b.2))]),some (1,map zf v5),some (1,map zf b.1)]) (fun r env st=>zaN Tryz.prog Tryz.f141 3 (.tup []) [some (15,[(vK v1 v2 v3 v4 (.msl 1 0 (length v5)) (.msl 2 0 (length r.1)) (bA r.2))]),some (1,map zf v5),some (1,map zf r.1)] env st) ho (zo [.old 0,.old 1,.old 2]) ?_ ?_ ?_
 ·
  rintro ⟨v15,v16,v17⟩ r h
  replace h:zap v1 v2 v3 v4 v5 v8 v15 v16 v17=some r:=h
  unfold zap at h
  refine zi ?_
  refine rg y<|u<|mv y<|u<|geq ti y y<|za ?_
  refine ze y (fun hc5=>?_) (fun hc5=>?_)
  ·
   replace h:=bT hc5 h
   refine zg ?_
   refine zi ?_
   refine zr ?_
   obtain ⟨v18,q6,h⟩:=bs h
   obtain ⟨v19,q7,h⟩:=bs h
   obtain ⟨v20,q8,h⟩:=bs h
   refine zjq [(0,.mpt 0 0 0),(1,.isl 1 (map zf v8)),(4,iA v17)] [some (15,[(vK v1 v2 v3 v4 (.msl 1 0 (length v5)) (.msl 2 0 (length v19.2.1)) (bA (v19.2.2||(!v20))))]),some (1,map zf v5),some (1,map zf v19.2.1)] [6,12] [10,9,8,7,5,4,3,2,1,0] [(22,sA v18),(21,.ipt 1 (map zf v8) (Int.toNat v17) 0),(20,iA v17),(19,.isl 1 (map zf v8)),(17,.mpt 0 0 0),(16,.ipt 2 [[.isl 6 (map zc v1),.imp (map (rKV (fun x=>iA x)) v2)]] 0 0),(15,.mpt 0 0 0),(14,.mpt 0 0 0),(13,.mpt 0 0 0),(12,.mpt 0 0 0)] 2 (zem ⟨(pb y (ldI ti y (zl q6).2.2 y w)),(pb y (ixI ti y ti y y y q6 w)),pe,pe,pe,pe,pe,pe,pe,pe,t⟩ ⟨(fun _ _=>⟨_,y,y,sx [0,1,2] (zaL v1 v2 v3 v4 v5 v15 v16 q7)<|⟨(sA v19.1),[11],[(23,bA v20),(18,sA v19.1)],y,y,kz,y,zem ⟨(pb y (pc (zaQ v1 v2 v19.1 v18 q8) y y y w)),(pb y (ldI ti y (zl q6).2.2 y w)),(pb y (ixI ti y ti y y y q6 w)),pe,pe,pe,pe,pe,pe,pe,pe,t⟩ ⟨nv,(fun _ _=>⟨_,y,y,sx [0,1,2] (zs v1 v2 v3 v4 v5 v19.2.1 v19.2.2 v20 y)<|⟨(.tup []),[],[(24,.tup [])],y,y,kz,y,zht ⟨pe,(pb y (ldI ti y (zl q6).2.2 y w)),(pb y (ixI ti y ti y y y q6 w)),pe,pe,pe,pe,pe,pe,pe,pe,t⟩ (zo [.old 0,.old 1,.old 2])⟩⟩),t⟩⟩⟩),nw,t⟩) ?_
   refine rl y<|u<|mv y<|u<|sub ti y y<|u<|asg y<|za ?_
   obtain rfl:=sm h
   exact ⟨_,y,zo [.old 0,.old 1,.old 2]⟩
  ·
   replace h:=bF hc5 h
   refine zD ?_
   obtain rfl:=sm h
   exact ⟨y,_,y,zo [.old 0,.old 1,.old 2]⟩
 ·
  rintro ⟨v21,v22⟩ rfl
  replace h:zfD v21 v22=some r:=h
  unfold zfD at h
  refine zw ?_
  obtain rfl:=sm h
  exact ⟨_,y,zy [.old 0,.old 1,.old 2]⟩
 ·
  rintro r' rfl env st hp
  obtain rfl:=sm h
  exact hp

end
end Go.Proofs.YtjbdfkapnffjnaaGreat
