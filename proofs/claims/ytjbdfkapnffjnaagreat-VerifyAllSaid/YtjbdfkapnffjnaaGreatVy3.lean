/- VerifyAll: for every input the law returns true, and each argument reads as it read before. No further condition. Part 3 of 8. -/
import Derived.Test.YtjbdfkapnffjnaaGreatVy2
namespace Go.Proofs.YtjbdfkapnffjnaaGreat
noncomputable section
open List (length map)
set_option linter.unusedSimpArgs false
set_option linter.unusedVariables false
set_option maxRecDepth 100000
set_option maxHeartbeats 4000000
structure zH where
  Op:Int
  A:Int
  C:T0
  M:T0
def zv(x:zH):List AV:=[iA x.Op,iA x.A,sA x.C,sA x.M]
def zc6(v1:UInt8):Bool:=
  ((decide (97≤(v1.toNat:Int)))&&(decide ((v1.toNat:Int)≤122)))
theorem znt(v1:UInt8){r:Bool}(h:zc6 v1=r):zI Tryz.prog 179 [.lit (.int .u8 (v1.toNat:Int))] (bA r):=by
 refine zq Tryz.func179 y kz y y ?_
 unfold zc6 at h
 refine rg y<|u<|asg y<|za ?_
 refine rg y<|u<|mv y<|u<|geq ti y y<|u<|mv y<|z7 (j:=2) 2 y y y y y gpn (fun hb1=>g y hb1<|mv y<|g y hb1<|leq ti y y<|za (egA [6,7] 2 hb1 y y y y)) ze2<|u<|asg y<|za ?_
 refine zj ?_
 obtain rfl:=h
 exact ⟨_,y,zy []⟩
def zdO(v1:UInt8):Bool:=
  ((decide (65≤(v1.toNat:Int)))&&(decide ((v1.toNat:Int)≤90)))
theorem znr(v1:UInt8){r:Bool}(h:zdO v1=r):zI Tryz.prog 191 [.lit (.int .u8 (v1.toNat:Int))] (bA r):=by
 refine zq Tryz.func191 y kz y y ?_
 unfold zdO at h
 refine rg y<|u<|asg y<|za ?_
 refine rg y<|u<|mv y<|u<|geq ti y y<|u<|mv y<|z7 (j:=2) 2 y y y y y gpn (fun hb1=>g y hb1<|mv y<|g y hb1<|leq ti y y<|za (egA [6,7] 2 hb1 y y y y)) ze2<|u<|asg y<|za ?_
 refine zj ?_
 obtain rfl:=h
 exact ⟨_,y,zy []⟩
def zho(v1:UInt8):Bool:=
  ((decide (48≤(v1.toNat:Int)))&&(decide ((v1.toNat:Int)≤57)))
theorem zq1(v1:UInt8){r:Bool}(h:zho v1=r):zI Tryz.prog 242 [.lit (.int .u8 (v1.toNat:Int))] (bA r):=by
 refine zq Tryz.func242 y kz y y ?_
 unfold zho at h
 refine rg y<|u<|asg y<|za ?_
 refine rg y<|u<|mv y<|u<|geq ti y y<|u<|mv y<|z7 (j:=2) 2 y y y y y gpn (fun hb1=>g y hb1<|mv y<|g y hb1<|leq ti y y<|za (egA [6,7] 2 hb1 y y y y)) ze2<|u<|asg y<|za ?_
 refine zj ?_
 obtain rfl:=h
 exact ⟨_,y,zy []⟩
def zlo(v1:T0):Option (Bool):=
  some ((!(v1 == []))&&(decide ((length v1:Int)≤8)))
def ze1(v1:T0)(v8:Int):Option (Sum (Int) (Sum (Unit) (Bool))):=
  cond (decide (v8<(length v1:Int))) ((idx v1 v8).bind fun v9=>(cond (!(zc6 v9)) ((idx v1 v8).bind fun v10=>some (!(zdO v10))) (some false)).bind fun v11=>(cond v11 ((idx v1 v8).bind fun v12=>some (!(zho v12))) (some false)).bind fun v13=>cond v13 (some (.inr (.inr false))) (some (.inl (IntKind.i64.wrap (v8+1))))) (some (.inr (.inl ())))
def zjE(v1:T0):Option (Bool):=
  (zu (fun z=>ze1 v1 z) 0).bind fun o=>zU o (fun b=>zlo v1) some
theorem zog(v1:T0){r:Bool}(h:zjE v1=some r):zI Tryz.prog 178 [sA v1] (bA r):=by
 refine zq Tryz.func178 y kz y y ?_
 unfold zjE at h
 refine rg y<|u<|asg y<|za ?_
 refine zi ?_
 refine rg y<|u<|mv y<|u<|lnS ti y y<|u<|mv y<|za ?_
 obtain ⟨o,ho,h⟩:=bs h
 refine zX (X:=Int) (B:=Unit) (R:=Bool) (fun z=>[(0,sA v1),(5,iA (length v1:Int)),(6,iA z)]) (fun z=>[]) (fun b=>[(0,sA v1)]) (fun b=>[]) (fun r env st=>zaN Tryz.prog Tryz.f178 0 (bA r) [] env st) ho (zo []) ?_ ?_ ?_
 ·
  rintro v8 r h
  replace h:ze1 v1 v8=some r:=h
  unfold ze1 at h
  refine rg y<|u<|lss ti y y<|za ?_
  refine zi ?_
  refine ze y (fun hc10=>?_) (fun hc10=>?_)
  ·
   replace h:=bT hc10 h
   refine zg ?_
   refine zi ?_
   refine zr ?_
   refine rg y<|u<|mv y<|u<|asg y<|za ?_
   obtain ⟨v9,q11,h⟩:=bs h
   obtain ⟨v11,q14,h⟩:=bs h
   obtain ⟨v13,q17,h⟩:=bs h
   refine rg y<|u<|mv y<|u<|mv y<|u<|ixS ti y y y q11<|u<|pc (znt v9 y) y y y<|u<|nt y<|u<|mv y<|z7 (x:=v11) (j:=5) 5 y y y y y gpn (fun hb12=>by replace q14:=bT hb12 q14;obtain ⟨v10,q13,q14⟩:=bs q14;obtain rfl:=sm q14;exact g y hb12<|mv y<|g y hb12<|mv y<|g y hb12<|ixS ti y y y q13<|g y hb12<|pc (znr v10 y) y y y<|g y hb12<|nt y<|za (eg [15,16,17,18,19] 5 y y y y)) (fun hb=>(sm (bF hb q14)).symm)<|u<|mv y<|z7 (x:=v13) (j:=12) 5 y y y y y gpn (fun hb15=>by replace q17:=bT hb15 q17;obtain ⟨v12,q16,q17⟩:=bs q17;obtain rfl:=sm q17;exact g y hb15<|mv y<|g y hb15<|mv y<|g y hb15<|ixS ti y y y q16<|g y hb15<|pc (zq1 v12 y) y y y<|g y hb15<|nt y<|za (eg [22,23,24,25,26] 5 y y y y)) (fun hb=>(sm (bF hb q17)).symm)<|za ?_
   refine ze y (fun hc18=>?_) (fun hc18=>?_)
   ·
    replace h:=bT hc18 h
    refine rg y<|u<|asg y<|za ?_
    refine zj ?_
    obtain rfl:=sm h
    exact ⟨_,y,_,y,zy []⟩
   ·
    replace h:=bF hc18 h
    refine zg ?_
    refine rl y<|u<|add ti y y<|u<|mv y<|za ?_
    obtain rfl:=sm h
    exact ⟨_,y,zo []⟩
  ·
   replace h:=bF hc10 h
   refine zD ?_
   obtain rfl:=sm h
   exact ⟨y,_,y,zo []⟩
 ·
  rintro ⟨⟩ rfl
  replace h:zlo v1=some r:=h
  unfold zlo at h
  refine zw ?_
  refine rg y<|u<|mv y<|u<|sne ti y y<|u<|mv y<|z7 (j:=2) 3 y y y y y gpn (fun hb19=>g y hb19<|mv y<|g y hb19<|lnS ti y y<|g y hb19<|leq ti y y<|za (egA [32,33,34] 3 hb19 y y y y)) ze2<|u<|asg y<|za ?_
  refine zj ?_
  obtain rfl:=sm h
  exact ⟨_,y,zy []⟩
 ·
  rintro r' rfl env st hp
  obtain rfl:=sm h
  exact hp
def zfw(v1:T0):Option (Bool):=
  (zjE v1).bind fun v2=>(cond (v2&&(decide (1<(length v1:Int)))) ((idx v1 0).bind fun v3=>some (zdO v3)) (some false)).bind fun v4=>some v4
theorem zgw(v1:T0){r:Bool}(h:zfw v1=some r):zI Tryz.prog 107 [sA v1] (bA r):=by
 refine zq Tryz.func107 y kz y y ?_
 unfold zfw at h
 refine rg y<|u<|asg y<|za ?_
 obtain ⟨v2,q1,h⟩:=bs h
 obtain ⟨v4,q5,h⟩:=bs h
 refine rg y<|u<|mv y<|u<|pc (zog v1 q1) y y y<|u<|mv y<|z7 (j:=2) 3 y y y y y gpn (fun hb2=>g y hb2<|mv y<|g y hb2<|lnS ti y y<|g y hb2<|gtr ti y y<|za (egA [6,7,8] 3 hb2 y y y y)) ze2<|u<|mv y<|z7 (x:=v4) (j:=7) 3 y y y y y gpn (fun hb3=>by replace q5:=bT hb3 q5;obtain ⟨v3,q4,q5⟩:=bs q5;obtain rfl:=sm q5;exact g y hb3<|mv y<|g y hb3<|ixS ti y y y q4<|g y hb3<|pc (znr v3 y) y y y<|za (eg [11,12,13] 3 y y y y)) (fun hb=>(sm (bF hb q5)).symm)<|u<|asg y<|za ?_
 refine zj ?_
 obtain rfl:=sm h
 exact ⟨_,y,zy []⟩
def ziU(v1:T0):Option (Bool):=
  (cond (v1 == [36,105,110,105,116]) (some true) ((zjE v1).bind fun v2=>(cond v2 ((idx v1 0).bind fun v3=>some (zc6 v3)) (some false)).bind fun v4=>some v4)).bind fun v5=>some v5
theorem zlq(v1:T0){r:Bool}(h:ziU v1=some r):zI Tryz.prog 101 [sA v1] (bA r):=by
 refine zq Tryz.func101 y kz y y ?_
 unfold ziU at h
 refine rg y<|u<|asg y<|za ?_
 obtain ⟨v5,q6,h⟩:=bs h
 refine rg y<|u<|mv y<|u<|seq ti y y<|u<|mv y<|zdj (x:=v5) (j:=2) 7 y y y y y gpn (fun hb1=>by replace q6:=bF hb1 q6;obtain ⟨v2,q2,q6⟩:=bs q6;obtain ⟨v4,q5,q6⟩:=bs q6;obtain rfl:=sm q6;exact g y hb1<|mv y<|g y hb1<|pc (zog v1 q2) y y y<|g y hb1<|mv y<|z7 (x:=v4) (j:=5) 3 y y y y y (gps y y hb1) (fun hb3=>by replace q5:=bT hb3 q5;obtain ⟨v3,q4,q5⟩:=bs q5;obtain rfl:=sm q5;exact g y hb3<|mv y<|g y hb3<|ixS ti y y y q4<|g y hb3<|pc (znt v3 y) y y y<|za (eg [9,10,11] 3 y y y y)) (fun hb=>(sm (bF hb q5)).symm)<|za (eg [6,7,8,9,10,11,12] 4 y y y y)) (fun hb=>(sm (bT hb q6)).symm)<|u<|asg y<|za ?_
 refine zj ?_
 obtain rfl:=sm h
 exact ⟨_,y,zy []⟩
def zco(v1:T0)(v2:T0):Option (Bool):=
  (cond (decide ((length v2:Int)≤(length v1:Int))) ((zj6 v1 0 (length v2:Int)).bind fun v3=>some (v3 == v2)) (some false)).bind fun v4=>some v4
theorem zhy(v1:T0)(v2:T0){r:Bool}(h:zco v1 v2=some r):zI Tryz.prog 271 [sA v1,sA v2] (bA r):=by
 refine zq Tryz.func271 y kz y y ?_
 unfold zco at h
 refine rg y<|u<|asg y<|za ?_
 obtain ⟨v4,q3,h⟩:=bs h
 refine rg y<|u<|mv y<|u<|lnS ti y y<|u<|mv y<|u<|lnS ti y y<|u<|geq ti y y<|u<|mv y<|z7 (x:=v4) (j:=5) 6 y y y y y gpn (fun hb1=>by replace q3:=bT hb1 q3;obtain ⟨v3,q2,q3⟩:=bs q3;obtain rfl:=sm q3;exact g y hb1<|mv y<|g y hb1<|mv y<|g y hb1<|lnS ti y y<|g y hb1<|slS (a:=0) (b:=(length v2:Int)) ti y y y (zon y q2) q2<|g y hb1<|mv y<|g y hb1<|seq ti y y<|za (eg [11,12,13,14,15,16] 6 y y y y)) (fun hb=>(sm (bF hb q3)).symm)<|u<|asg y<|za ?_
 refine zj ?_
 obtain rfl:=sm h
 exact ⟨_,y,zy []⟩
def zck(v1:T0)(v2:T0):Option (T0):=
  (zco v1 v2).bind fun v3=>cond v3 ((zj6 v1 (length v2:Int) (length v1:Int)).bind fun v4=>some v4) (some v1)
theorem zhs(v1:T0)(v2:T0){r:T0}(h:zck v1 v2=some r):zI Tryz.prog 243 [sA v1,sA v2] (sA r):=by
 refine zq Tryz.func243 y kz y y ?_
 unfold zck at h
 refine rg y<|u<|asg y<|za ?_
 refine zi ?_
 obtain ⟨v3,q1,h⟩:=bs h
 refine rg y<|u<|mv y<|u<|mv y<|u<|pc (zhy v1 v2 q1) y y y<|za ?_
 refine ze y (fun hc2=>?_) (fun hc2=>?_)
 ·
  replace h:=bT hc2 h
  obtain ⟨v4,q3,h⟩:=bs h
  refine rg y<|u<|mv y<|u<|mv y<|u<|lnS ti y y<|u<|slS (a:=(length v2:Int)) (b:=(length v1:Int)) ti y y (zml y q3) y q3<|u<|asg y<|za ?_
  refine zj ?_
  obtain rfl:=sm h
  exact ⟨_,y,zy []⟩
 ·
  replace h:=bF hc2 h
  refine zg ?_
  refine rg y<|u<|mv y<|u<|asg y<|za ?_
  refine zj ?_
  obtain rfl:=sm h
  exact ⟨_,y,zy []⟩
def zdP(v1:T0)(v2:T0):Option (T0):=
  (zck v1 v2).bind fun v3=>some v3
theorem zin(v1:T0)(v2:T0){r:T0}(h:zdP v1 v2=some r):zI Tryz.prog 180 [sA v1,sA v2] (sA r):=by
 refine zq Tryz.func180 y kz y y ?_
 unfold zdP at h
 refine rg y<|u<|asg y<|za ?_
 obtain ⟨v3,q1,h⟩:=bs h
 refine rg y<|u<|mv y<|u<|mv y<|u<|pc (zhs v1 v2 q1) y y y<|u<|asg y<|za ?_
 refine zj ?_
 obtain rfl:=sm h
 exact ⟨_,y,zy []⟩
def zhL(v1:T0):Option (Bool):=
  (zdP v1 [91]).bind fun v2=>(zdP v2 [91]).bind fun v3=>(cond (v3 == [73]) (some true) ((zfw v3).bind fun v4=>some v4)).bind fun v5=>some v5
theorem zha(v1:T0){r:Bool}(h:zhL v1=some r):zI Tryz.prog 102 [sA v1] (bA r):=by
 refine zq Tryz.func102 y kz y y ?_
 unfold zhL at h
 refine rg y<|u<|asg y<|za ?_
 obtain ⟨v2,q1,h⟩:=bs h
 obtain ⟨v3,q2,h⟩:=bs h
 refine rg y<|u<|mv y<|u<|pc (zin v1 [91] q1) y y y<|u<|pc (zin v2 [91] q2) y y y<|u<|asg y<|za ?_
 obtain ⟨v5,q5,h⟩:=bs h
 refine rg y<|u<|mv y<|u<|seq ti y y<|u<|mv y<|zdj (x:=v5) (j:=2) 2 y y y y y gpn (fun hb3=>by replace q5:=bF hb3 q5;obtain ⟨v4,q4,q5⟩:=bs q5;obtain rfl:=sm q5;exact g y hb3<|mv y<|g y hb3<|pc (zgw v3 q4) y y y<|za (eg [9,10] 2 y y y y)) (fun hb=>(sm (bT hb q5)).symm)<|u<|asg y<|za ?_
 refine zj ?_
 obtain rfl:=sm h
 exact ⟨_,y,zy []⟩
def zjl(v1:T0):Option (Bool):=
  (cond (!(v1 == [73])) ((zhL v1).bind fun v2=>some v2) (some false)).bind fun v3=>some v3
theorem zkd(v1:T0){r:Bool}(h:zjl v1=some r):zI Tryz.prog 64 [sA v1] (bA r):=by
 refine zq Tryz.func64 y kz y y ?_
 unfold zjl at h
 refine rg y<|u<|asg y<|za ?_
 obtain ⟨v3,q3,h⟩:=bs h
 refine rg y<|u<|mv y<|u<|sne ti y y<|u<|mv y<|z7 (x:=v3) (j:=2) 2 y y y y y gpn (fun hb1=>by replace q3:=bT hb1 q3;obtain ⟨v2,q2,q3⟩:=bs q3;obtain rfl:=sm q3;exact g y hb1<|mv y<|g y hb1<|pc (zha v1 q2) y y y<|za (eg [6,7] 2 y y y y)) (fun hb=>(sm (bF hb q3)).symm)<|u<|asg y<|za ?_
 refine zj ?_
 obtain rfl:=sm h
 exact ⟨_,y,zy []⟩
def zd8(v1:Int)(v2:Int)(v3:Int):Bool:=
  ((decide (v2≤v1))&&(decide (v1≤v3)))
theorem zgv(v1:Int)(v2:Int)(v3:Int){r:Bool}(h:zd8 v1 v2 v3=r):zI Tryz.prog 149 [iA v1,iA v2,iA v3] (bA r):=by
 refine zq Tryz.func149 y kz y y ?_
 unfold zd8 at h
 refine rg y<|u<|asg y<|za ?_
 refine rg y<|u<|mv y<|u<|mv y<|u<|geq ti y y<|u<|mv y<|z7 (j:=3) 3 y y y y y gpn (fun hb1=>g y hb1<|mv y<|g y hb1<|mv y<|g y hb1<|leq ti y y<|za (egA [11,12,13] 3 hb1 y y y y)) ze2<|u<|asg y<|za ?_
 refine zj ?_
 obtain rfl:=h
 exact ⟨_,y,zy []⟩
def zke(v1:Int):Bool:=
  (zd8 v1 1 61)
theorem ztt(v1:Int){r:Bool}(h:zke v1=r):zI Tryz.prog 272 [iA v1] (bA r):=by
 refine zq Tryz.func272 y kz y y ?_
 unfold zke at h
 refine rg y<|u<|asg y<|za ?_
 refine rg y<|u<|mv y<|u<|pc (zgv v1 1 61 y) y y y<|u<|asg y<|za ?_
 refine zj ?_
 obtain rfl:=h
 exact ⟨_,y,zy []⟩
def zeK(v1:Int):Bool:=
  (zd8 v1 20 36)
theorem zmq(v1:Int){r:Bool}(h:zeK v1=r):zI Tryz.prog 87 [iA v1] (bA r):=by
 refine zq Tryz.func87 y kz y y ?_
 unfold zeK at h
 refine rg y<|u<|asg y<|za ?_
 refine rg y<|u<|mv y<|u<|pc (zgv v1 20 36 y) y y y<|u<|asg y<|za ?_
 refine zj ?_
 obtain rfl:=h
 exact ⟨_,y,zy []⟩
def zjy(v1:Int)(v2:Int):Bool:=
  cond (v1 == (1:Int)) ((zd8 v2 (-2147483648) 2147483647)) (cond ((v1 == (3:Int))||(v1 == (4:Int))) ((zd8 v2 0 15)) (cond (zeK v1) ((zd8 v2 0 99)) ((v2 == (0:Int)))))
theorem zvR(v1:Int)(v2:Int){r:Bool}(h:zjy v1 v2=r):zI Tryz.prog 273 [iA v1,iA v2] (bA r):=by
 refine zq Tryz.func273 y kz y y ?_
 unfold zjy at h
 refine rg y<|u<|asg y<|za ?_
 refine zi ?_
 refine zr ?_
 refine rg y<|u<|mv y<|u<|eql ti y y<|u<|asg y<|za ?_
 refine ze y (fun hc1=>?_) (fun hc1=>?_)
 ·
  replace h:=bT hc1 h
  refine rg y<|u<|mv y<|u<|pc (zgv v2 (-2147483648) 2147483647 y) y y y<|u<|asg y<|za ?_
  refine zj ?_
  obtain rfl:=h
  exact ⟨_,y,zy []⟩
 ·
  replace h:=bF hc1 h
  refine rg y<|u<|mv y<|u<|eql ti y y<|u<|mv y<|zdj (j:=2) 2 y y y y y gpn (fun hb2=>g y hb2<|mv y<|g y hb2<|eql ti y y<|za (egO [14,15] 2 hb2 y y y y)) orT<|u<|asg y<|za ?_
  refine ze y (fun hc3=>?_) (fun hc3=>?_)
  ·
   replace h:=bT hc3 h
   refine rg y<|u<|mv y<|u<|pc (zgv v2 0 15 y) y y y<|u<|asg y<|za ?_
   refine zj ?_
   obtain rfl:=h
   exact ⟨_,y,zy []⟩
  ·
   replace h:=bF hc3 h
   refine rg y<|u<|mv y<|u<|pc (zmq v1 y) y y y<|u<|asg y<|za ?_
   refine ze y (fun hc4=>?_) (fun hc4=>?_)
   ·
    replace h:=bT hc4 h
    refine rg y<|u<|mv y<|u<|pc (zgv v2 0 99 y) y y y<|u<|asg y<|za ?_
    refine zj ?_
    obtain rfl:=h
    exact ⟨_,y,zy []⟩
   ·
    replace h:=bF hc4 h
    refine zg ?_
    refine rg y<|u<|mv y<|u<|eql ti y y<|u<|asg y<|za ?_
    refine zj ?_
    obtain rfl:=h
    exact ⟨_,y,zy []⟩
def zhG(v1:Int):Bool:=
  (((v1 == (50:Int))||(v1 == (56:Int)))||(v1 == (57:Int)))
theorem zoP(v1:Int){r:Bool}(h:zhG v1=r):zI Tryz.prog 292 [iA v1] (bA r):=by
 refine zq Tryz.func292 y kz y y ?_
 unfold zhG at h
 refine rg y<|u<|asg y<|za ?_
 refine rg y<|u<|mv y<|u<|eql ti y y<|u<|mv y<|zdj (j:=2) 2 y y y y y gpn (fun hb1=>g y hb1<|mv y<|g y hb1<|eql ti y y<|za (egO [6,7] 2 hb1 y y y y)) orT<|u<|mv y<|zdj (j:=6) 2 y y y y y gpn (fun hb2=>g y hb2<|mv y<|g y hb2<|eql ti y y<|za (egO [10,11] 2 hb2 y y y y)) orT<|u<|asg y<|za ?_
 refine zj ?_
 obtain rfl:=h
 exact ⟨_,y,zy []⟩
def zzw(v1:Int):Bool:=
  (zd8 v1 38 45)
theorem zxd(v1:Int){r:Bool}(h:zzw v1=r):zI Tryz.prog 294 [iA v1] (bA r):=by
 refine zq Tryz.func294 y kz y y ?_
 unfold zzw at h
 refine rg y<|u<|asg y<|za ?_
 refine rg y<|u<|mv y<|u<|pc (zgv v1 38 45 y) y y y<|u<|asg y<|za ?_
 refine zj ?_
 obtain rfl:=h
 exact ⟨_,y,zy []⟩
def zz2(v1:Int):Bool:=
  (((v1 == (37:Int))||(zzw v1))||(zhG v1))
theorem zBc(v1:Int){r:Bool}(h:zz2 v1=r):zI Tryz.prog 293 [iA v1] (bA r):=by
 refine zq Tryz.func293 y kz y y ?_
 unfold zz2 at h
 refine rg y<|u<|asg y<|za ?_
 refine rg y<|u<|mv y<|u<|eql ti y y<|u<|mv y<|zdj (j:=2) 2 y y y y y gpn (fun hb1=>g y hb1<|mv y<|g y hb1<|pc (zxd v1 y) y y y<|za (egO [6,7] 2 hb1 y y y y)) orT<|u<|mv y<|zdj (j:=6) 2 y y y y y gpn (fun hb2=>g y hb2<|mv y<|g y hb2<|pc (zoP v1 y) y y y<|za (egO [10,11] 2 hb2 y y y y)) orT<|u<|asg y<|za ?_
 refine zj ?_
 obtain rfl:=h
 exact ⟨_,y,zy []⟩
def zpJ(v1:Int)(v2:T0):Option (Bool):=
  cond (zhG v1) ((zjl v2).bind fun v3=>some v3) (cond (zz2 v1) ((zfw v2).bind fun v4=>some v4) (some (v2 == [])))
theorem zvr(v1:Int)(v2:T0){r:Bool}(h:zpJ v1 v2=some r):zI Tryz.prog 274 [iA v1,sA v2] (bA r):=by
 refine zq Tryz.func274 y kz y y ?_
 unfold zpJ at h
 refine rg y<|u<|asg y<|za ?_
 refine zi ?_
 refine zr ?_
 refine rg y<|u<|mv y<|u<|pc (zoP v1 y) y y y<|u<|asg y<|za ?_
 refine ze y (fun hc1=>?_) (fun hc1=>?_)
 ·
  replace h:=bT hc1 h
  obtain ⟨v3,q2,h⟩:=bs h
  refine rg y<|u<|mv y<|u<|pc (zkd v2 q2) y y y<|u<|asg y<|za ?_
  refine zj ?_
  obtain rfl:=sm h
  exact ⟨_,y,zy []⟩
 ·
  replace h:=bF hc1 h
  refine rg y<|u<|mv y<|u<|pc (zBc v1 y) y y y<|u<|asg y<|za ?_
  refine ze y (fun hc3=>?_) (fun hc3=>?_)
  ·
   replace h:=bT hc3 h
   obtain ⟨v4,q4,h⟩:=bs h
   refine rg y<|u<|mv y<|u<|pc (zgw v2 q4) y y y<|u<|asg y<|za ?_
   refine zj ?_
   obtain rfl:=sm h
   exact ⟨_,y,zy []⟩
  ·
   replace h:=bF hc3 h
   refine zg ?_
   refine rg y<|u<|mv y<|u<|seq ti y y<|u<|asg y<|za ?_
   refine zj ?_
   obtain rfl:=sm h
   exact ⟨_,y,zy []⟩
def zo8(v1:Int)(v2:T0):Option (Bool):=
  cond (zzw v1) ((ziU v2).bind fun v3=>some (v3&&(!(v2 == [36,105,110,105,116])))) (some (v2 == []))
theorem zvx(v1:Int)(v2:T0){r:Bool}(h:zo8 v1 v2=some r):zI Tryz.prog 275 [iA v1,sA v2] (bA r):=by
 refine zq Tryz.func275 y kz y y ?_
 unfold zo8 at h
 refine rg y<|u<|asg y<|za ?_
 refine zi ?_
 refine rg y<|u<|mv y<|u<|pc (zxd v1 y) y y y<|za ?_
 refine ze y (fun hc1=>?_) (fun hc1=>?_)
 ·
  replace h:=bT hc1 h
  obtain ⟨v3,q2,h⟩:=bs h
  refine rg y<|u<|mv y<|u<|pc (zlq v2 q2) y y y<|u<|mv y<|z7 (j:=2) 2 y y y y y gpn (fun hb3=>g y hb3<|mv y<|g y hb3<|sne ti y y<|za (egA [10,11] 2 hb3 y y y y)) ze2<|u<|asg y<|za ?_
  refine zj ?_
  obtain rfl:=sm h
  exact ⟨_,y,zy []⟩
 ·
  replace h:=bF hc1 h
  refine zg ?_
  refine rg y<|u<|mv y<|u<|seq ti y y<|u<|asg y<|za ?_
  refine zj ?_
  obtain rfl:=sm h
  exact ⟨_,y,zy []⟩
def zr9(v1:zH):Option (Bool):=
  (cond ((zke v1.Op)&&(zjy v1.Op v1.A)) ((zpJ v1.Op v1.C).bind fun v2=>some v2) (some false)).bind fun v3=>(cond v3 ((zo8 v1.Op v1.M).bind fun v4=>some v4) (some false)).bind fun v5=>some v5
theorem zwx(v1:zH){r:Bool}(h:zr9 v1=some r):zI Tryz.prog 247 [.agg (zv v1)] (bA r):=by
 refine zq Tryz.func247 y kz y y ?_
 unfold zr9 at h
 refine rg y<|u<|bx 0 4 y y y y<|u<|asg y<|za ?_
 obtain ⟨v3,q4,h⟩:=bs h
 obtain ⟨v5,q7,h⟩:=bs h
 refine rg y<|u<|fa ti y y y<|u<|ld ti y y<|u<|pc (ztt v1.Op y) y y y<|u<|mv y<|z7 (j:=3) 5 y y y y y gpn (fun hb1=>g y hb1<|fa ti y y y<|g y hb1<|ld ti y y<|g y hb1<|fa ti y y y<|g y hb1<|ld ti y y<|g y hb1<|pc (zvR v1.Op v1.A y) y y y<|za (egA [7,8,9,10,11] 5 hb1 y y y y)) ze2<|u<|mv y<|z7 (x:=v3) (j:=10) 5 y y y y y gpn (fun hb2=>by replace q4:=bT hb2 q4;obtain ⟨v2,q3,q4⟩:=bs q4;obtain rfl:=sm q4;exact g y hb2<|fa ti y y y<|g y hb2<|ld ti y y<|g y hb2<|fa ti y y y<|g y hb2<|ld ti y y<|g y hb2<|pc (zvr v1.Op v1.C q3) y y y<|za (eg [14,15,16,17,18] 5 y y y y)) (fun hb=>(sm (bF hb q4)).symm)<|u<|mv y<|z7 (x:=v5) (j:=17) 5 y y y y y gpn (fun hb5=>by replace q7:=bT hb5 q7;obtain ⟨v4,q6,q7⟩:=bs q7;obtain rfl:=sm q7;exact g y hb5<|fa ti y y y<|g y hb5<|ld ti y y<|g y hb5<|fa ti y y y<|g y hb5<|ld ti y y<|g y hb5<|pc (zvx v1.Op v1.M q6) y y y<|za (eg [21,22,23,24,25] 5 y y y y)) (fun hb=>(sm (bF hb q7)).symm)<|u<|asg y<|za ?_
 refine zj ?_
 obtain rfl:=sm h
 exact ⟨_,y,zy []⟩
def zjD(v1:UInt8):Bool:=
  ((decide (65≤(v1.toNat:Int)))&&(decide ((v1.toNat:Int)≤90)))
theorem znc(v1:UInt8){r:Bool}(h:zjD v1=r):zI Tryz.prog 151 [.lit (.int .u8 (v1.toNat:Int))] (bA r):=by
 refine zq Tryz.func151 y kz y y ?_
 unfold zjD at h
 refine rg y<|u<|asg y<|za ?_
 refine rg y<|u<|mv y<|u<|geq ti y y<|u<|mv y<|z7 (j:=2) 2 y y y y y gpn (fun hb1=>g y hb1<|mv y<|g y hb1<|leq ti y y<|za (egA [6,7] 2 hb1 y y y y)) ze2<|u<|asg y<|za ?_
 refine zj ?_
 obtain rfl:=h
 exact ⟨_,y,zy []⟩
def zja(v1:UInt8):Bool:=
  ((decide (97≤(v1.toNat:Int)))&&(decide ((v1.toNat:Int)≤122)))
theorem zmf(v1:UInt8){r:Bool}(h:zja v1=r):zI Tryz.prog 152 [.lit (.int .u8 (v1.toNat:Int))] (bA r):=by
 refine zq Tryz.func152 y kz y y ?_
 unfold zja at h
 refine rg y<|u<|asg y<|za ?_
 refine rg y<|u<|mv y<|u<|geq ti y y<|u<|mv y<|z7 (j:=2) 2 y y y y y gpn (fun hb1=>g y hb1<|mv y<|g y hb1<|leq ti y y<|za (egA [6,7] 2 hb1 y y y y)) ze2<|u<|asg y<|za ?_
 refine zj ?_
 obtain rfl:=h
 exact ⟨_,y,zy []⟩
def zjC(v1:UInt8):Bool:=
  ((decide (48≤(v1.toNat:Int)))&&(decide ((v1.toNat:Int)≤57)))
theorem zm4(v1:UInt8){r:Bool}(h:zjC v1=r):zI Tryz.prog 153 [.lit (.int .u8 (v1.toNat:Int))] (bA r):=by
 refine zq Tryz.func153 y kz y y ?_
 unfold zjC at h
 refine rg y<|u<|asg y<|za ?_
 refine rg y<|u<|mv y<|u<|geq ti y y<|u<|mv y<|z7 (j:=2) 2 y y y y y gpn (fun hb1=>g y hb1<|mv y<|g y hb1<|leq ti y y<|za (egA [6,7] 2 hb1 y y y y)) ze2<|u<|asg y<|za ?_
 refine zj ?_
 obtain rfl:=h
 exact ⟨_,y,zy []⟩
def zka(v1:T0):Option (Bool):=
  some ((decide (2≤(length v1:Int)))&&(decide ((length v1:Int)≤8)))
def zcX(v1:T0)(v9:Int):Option (Sum (Int) (Sum (Unit) (Bool))):=
  cond (decide (v9<(length v1:Int))) ((idx v1 v9).bind fun v10=>(cond (!(zjD v10)) ((cond (v9 == (0:Int)) (some true) ((idx v1 v9).bind fun v11=>(cond (!(zja v11)) ((idx v1 v9).bind fun v12=>some (!(zjC v12))) (some false)).bind fun v13=>some v13)).bind fun v14=>some v14) (some false)).bind fun v15=>cond v15 (some (.inr (.inr false))) (some (.inl (IntKind.i64.wrap (v9+1))))) (some (.inr (.inl ())))
def zfv(v1:T0):Option (Bool):=
  (zu (fun z=>zcX v1 z) 0).bind fun o=>zU o (fun b=>zka v1) some
theorem zgo(v1:T0){r:Bool}(h:zfv v1=some r):zI Tryz.prog 90 [sA v1] (bA r):=by
 refine zq Tryz.func90 y kz y y ?_
 unfold zfv at h
 refine rg y<|u<|asg y<|za ?_
 refine zi ?_
 refine rg y<|u<|asg y<|za ?_
 obtain ⟨o,ho,h⟩:=bs h
 refine zX (X:=Int) (B:=Unit) (R:=Bool) (fun z=>[(0,sA v1),(3,iA z)]) (fun z=>[]) (fun b=>[(0,sA v1)]) (fun b=>[]) (fun r env st=>zaN Tryz.prog Tryz.f90 0 (bA r) [] env st) ho (zo []) ?_ ?_ ?_
 ·
  rintro v9 r h
  replace h:zcX v1 v9=some r:=h
  unfold zcX at h
  refine zi ?_
  refine rg y<|u<|mv y<|u<|mv y<|u<|lnS ti y y<|u<|lss ti y y<|za ?_
  refine ze y (fun hc12=>?_) (fun hc12=>?_)
  ·
   replace h:=bT hc12 h
   refine zg ?_
   refine zi ?_
   refine zr ?_
   obtain ⟨v10,q13,h⟩:=bs h
   obtain ⟨v15,q21,h⟩:=bs h
   refine rg y<|u<|mv y<|u<|mv y<|u<|ixS ti y y y q13<|u<|pc (znc v10 y) y y y<|u<|nt y<|u<|mv y<|z7 (x:=v15) (j:=5) 16 y y y y y gpn (fun hb14=>by replace q21:=bT hb14 q21;obtain ⟨v14,q20,q21⟩:=bs q21;obtain rfl:=sm q21;exact g y hb14<|mv y<|g y hb14<|eql ti y y<|g y hb14<|mv y<|zdj (x:=v14) (j:=8) 12 y y y y y (gps y y hb14) (fun hb15=>by replace q20:=bF hb15 q20;obtain ⟨v11,q16,q20⟩:=bs q20;obtain ⟨v13,q19,q20⟩:=bs q20;obtain rfl:=sm q20;exact g y hb15<|mv y<|g y hb15<|mv y<|g y hb15<|ixS ti y y y q16<|g y hb15<|pc (zmf v11 y) y y y<|g y hb15<|nt y<|g y hb15<|mv y<|z7 (x:=v13) (j:=14) 5 y y y y y (gps y y hb15) (fun hb17=>by replace q19:=bT hb17 q19;obtain ⟨v12,q18,q19⟩:=bs q19;obtain rfl:=sm q19;exact g y hb17<|mv y<|g y hb17<|mv y<|g y hb17<|ixS ti y y y q18<|g y hb17<|pc (zm4 v12 y) y y y<|g y hb17<|nt y<|za (eg [25,26,27,28,29] 5 y y y y)) (fun hb=>(sm (bF hb q19)).symm)<|za (eg [19,20,21,22,23,24,25,26,27,28,29,30] 7 y y y y)) (fun hb=>(sm (bT hb q20)).symm)<|za (eg [16,17,18,19,20,21,22,23,24,25,26,27,28,29,30,31] 4 y y y y)) (fun hb=>(sm (bF hb q21)).symm)<|za ?_
   refine ze y (fun hc22=>?_) (fun hc22=>?_)
   ·
    replace h:=bT hc22 h
    refine rg y<|u<|asg y<|za ?_
    refine zj ?_
    obtain rfl:=sm h
    exact ⟨_,y,_,y,zy []⟩
   ·
    replace h:=bF hc22 h
    refine zg ?_
    refine rl y<|u<|mv y<|u<|add ti y y<|u<|asg y<|za ?_
    obtain rfl:=sm h
    exact ⟨_,y,zo []⟩
  ·
   replace h:=bF hc12 h
   refine zD ?_
   obtain rfl:=sm h
   exact ⟨y,_,y,zo []⟩
 ·
  rintro ⟨⟩ rfl
  replace h:zka v1=some r:=h
  unfold zka at h
  refine zw ?_
  refine rg y<|u<|mv y<|u<|lnS ti y y<|u<|geq ti y y<|u<|mv y<|z7 (j:=3) 3 y y y y y gpn (fun hb23=>g y hb23<|mv y<|g y hb23<|lnS ti y y<|g y hb23<|leq ti y y<|za (egA [37,38,39] 3 hb23 y y y y)) ze2<|u<|asg y<|za ?_
  refine zj ?_
  obtain rfl:=sm h
  exact ⟨_,y,zy []⟩
 ·
  rintro r' rfl env st hp
  obtain rfl:=sm h
  exact hp
def zhZ(v1:Int):Bool:=
  ((decide (20≤v1))&&(decide (v1≤36)))
theorem zkL(v1:Int){r:Bool}(h:zhZ v1=r):zI Tryz.prog 251 [iA v1] (bA r):=by
 refine zq Tryz.func251 y kz y y ?_
 unfold zhZ at h
 refine rg y<|u<|asg y<|za ?_
 refine rg y<|u<|mv y<|u<|geq ti y y<|u<|mv y<|z7 (j:=2) 2 y y y y y gpn (fun hb1=>g y hb1<|mv y<|g y hb1<|leq ti y y<|za (egA [6,7] 2 hb1 y y y y)) ze2<|u<|asg y<|za ?_
 refine zj ?_
 obtain rfl:=h
 exact ⟨_,y,zy []⟩
def zgl(v3:Bool):Bool×Int×Bool:=
  cond v3 ((false,2,false)) ((false,0,false))
def zfg(v1:Int)(v2:Bool):Bool×Int×Bool:=
  cond v2 ((true,0,false)) (cond (v1 == (37:Int)) ((false,1,false)) (cond ((decide (38≤v1))&&(decide (v1≤45))) ((false,1,true)) (cond (v1 == (50:Int)) (zgl (v1 == (50:Int))) (cond (v1 == (56:Int)) (zgl (v1 == (56:Int))) (zgl (v1 == (57:Int)))))))
def zeU(v1:Int):Bool×Int×Bool:=
  cond (v1 == (1:Int)) (zfg v1 (v1 == (1:Int))) (cond (v1 == (3:Int)) (zfg v1 (v1 == (3:Int))) (cond (v1 == (4:Int)) (zfg v1 (v1 == (4:Int))) (zfg v1 (zhZ v1))))
theorem zq5(v1:Int){r:Bool×Int×Bool}(h:zeU v1=r):zI Tryz.prog 276 [iA v1] (.tup [bA r.1,iA r.2.1,bA r.2.2]):=by
 refine zq Tryz.func276 y kz y y ?_
 unfold zeU at h
 refine rg y<|u<|asg y<|u<|asg y<|u<|asg y<|za ?_
 refine zi ?_
 refine zr ?_
 refine za6 (X:=Bool) (fun z=>[(0,iA v1),(5,bA z)]) (fun z=>[]) (fun z=>zfg v1 z=r) ?_ ?_
 ·
  refine rg y<|u<|mv y<|u<|eql ti y y<|u<|asg y<|za ?_
  refine ze y (fun hc1=>?_) (fun hc1=>?_)
  ·
   replace h:=bT hc1 h
   refine zg ?_
   exact ⟨(v1 == (1:Int)),h,zo []⟩
  ·
   replace h:=bF hc1 h
   refine rg y<|u<|mv y<|u<|eql ti y y<|u<|asg y<|za ?_
   refine ze y (fun hc2=>?_) (fun hc2=>?_)
   ·
    replace h:=bT hc2 h
    refine zg ?_
    exact ⟨(v1 == (3:Int)),h,zo []⟩
   ·
    replace h:=bF hc2 h
    refine rg y<|u<|mv y<|u<|eql ti y y<|u<|asg y<|za ?_
    refine ze y (fun hc3=>?_) (fun hc3=>?_)
    ·
     replace h:=bT hc3 h
     refine zg ?_
     exact ⟨(v1 == (4:Int)),h,zo []⟩
    ·
     replace h:=bF hc3 h
     exact rl y<|u<|mv y<|u<|pc (zkL v1 y) y y y<|u<|asg y<|za (⟨(zhZ v1),h,zo []⟩)
 ·
  rintro v2 h
  replace h:zfg v1 v2=r:=h
  unfold zfg at h
  refine ze y (fun hc4=>?_) (fun hc4=>?_)
  ·
   replace h:=bT hc4 h
   refine rg y<|u<|asg y<|u<|asg y<|u<|asg y<|za ?_
   refine zj ?_
   obtain rfl:=h
   exact ⟨_,y,zy []⟩
  ·
   replace h:=bF hc4 h
   refine rg y<|u<|mv y<|u<|eql ti y y<|u<|asg y<|za ?_
   refine ze y (fun hc5=>?_) (fun hc5=>?_)
   ·
    replace h:=bT hc5 h
    refine rg y<|u<|asg y<|u<|asg y<|u<|asg y<|za ?_
    refine zj ?_
    obtain rfl:=h
    exact ⟨_,y,zy []⟩
   ·
    replace h:=bF hc5 h
    refine rg y<|u<|mv y<|u<|geq ti y y<|u<|mv y<|z7 (j:=2) 2 y y y y y gpn (fun hb6=>g y hb6<|mv y<|g y hb6<|leq ti y y<|za (egA [21,22] 2 hb6 y y y y)) ze2<|u<|asg y<|za ?_
    refine ze y (fun hc7=>?_) (fun hc7=>?_)
    ·
     replace h:=bT hc7 h
     refine rg y<|u<|asg y<|u<|asg y<|u<|asg y<|za ?_
     refine zj ?_
     obtain rfl:=h
     exact ⟨_,y,zy []⟩
    ·
     replace h:=bF hc7 h
     refine za6 (X:=Bool) (fun z=>[(24,bA z)]) (fun z=>[]) (fun z=>zgl z=r) ?_ ?_
     ·
      refine rg y<|u<|mv y<|u<|eql ti y y<|u<|asg y<|za ?_
      refine ze y (fun hc8=>?_) (fun hc8=>?_)
      ·
       replace h:=bT hc8 h
       refine zg ?_
       exact ⟨(v1 == (50:Int)),h,zo []⟩
      ·
       replace h:=bF hc8 h
       refine rg y<|u<|mv y<|u<|eql ti y y<|u<|asg y<|za ?_
       refine ze y (fun hc9=>?_) (fun hc9=>?_)
       ·
        replace h:=bT hc9 h
        refine zg ?_
        exact ⟨(v1 == (56:Int)),h,zo []⟩
       ·
        replace h:=bF hc9 h
        exact rl y<|u<|mv y<|u<|eql ti y y<|u<|asg y<|za (⟨(v1 == (57:Int)),h,zo []⟩)
     ·
      rintro v3 h
      replace h:zgl v3=r:=h
      unfold zgl at h
      refine ze y (fun hc10=>?_) (fun hc10=>?_)
      ·
       replace h:=bT hc10 h
       refine rg y<|u<|asg y<|u<|asg y<|u<|asg y<|za ?_
       refine zj ?_
       obtain rfl:=h
       exact ⟨_,y,zy []⟩
      ·
       replace h:=bF hc10 h
       refine zg ?_
       refine rg y<|u<|asg y<|u<|asg y<|u<|asg y<|za ?_
       refine zj ?_
       obtain rfl:=h
       exact ⟨_,y,zy []⟩
def zh2(v1:Int)(v2:Int):Bool:=
  cond (v1 == (1:Int)) (((decide ((-2147483648)≤v2))&&(decide (v2<2147483648)))) (cond (zhZ v1) (((decide (0≤v2))&&(decide (v2<100)))) (((decide (0≤v2))&&(decide (v2<16)))))
theorem zqh(v1:Int)(v2:Int){r:Bool}(h:zh2 v1 v2=r):zI Tryz.prog 277 [iA v1,iA v2] (bA r):=by
 refine zq Tryz.func277 y kz y y ?_
 unfold zh2 at h
 refine rg y<|u<|asg y<|za ?_
 refine zi ?_
 refine zr ?_
 refine rg y<|u<|mv y<|u<|eql ti y y<|u<|asg y<|za ?_
 refine ze y (fun hc1=>?_) (fun hc1=>?_)
 ·
  replace h:=bT hc1 h
  refine rg y<|u<|mv y<|u<|geq ti y y<|u<|mv y<|z7 (j:=2) 2 y y y y y gpn (fun hb2=>g y hb2<|mv y<|g y hb2<|lss ti y y<|za (egA [11,12] 2 hb2 y y y y)) ze2<|u<|asg y<|za ?_
  refine zj ?_
  obtain rfl:=h
  exact ⟨_,y,zy []⟩
 ·
  replace h:=bF hc1 h
  refine rg y<|u<|mv y<|u<|pc (zkL v1 y) y y y<|u<|asg y<|za ?_
  refine ze y (fun hc3=>?_) (fun hc3=>?_)
  ·
   replace h:=bT hc3 h
   refine rg y<|u<|mv y<|u<|geq ti y y<|u<|mv y<|z7 (j:=2) 2 y y y y y gpn (fun hb4=>g y hb4<|mv y<|g y hb4<|lss ti y y<|za (egA [20,21] 2 hb4 y y y y)) ze2<|u<|asg y<|za ?_
   refine zj ?_
   obtain rfl:=h
   exact ⟨_,y,zy []⟩
  ·
   replace h:=bF hc3 h
   refine zg ?_
   refine rg y<|u<|mv y<|u<|geq ti y y<|u<|mv y<|z7 (j:=2) 2 y y y y y gpn (fun hb5=>g y hb5<|mv y<|g y hb5<|lss ti y y<|za (egA [26,27] 2 hb5 y y y y)) ze2<|u<|asg y<|za ?_
   refine zj ?_
   obtain rfl:=h
   exact ⟨_,y,zy []⟩
def ziX(v12:T0):Option (Bool):=
  (cond (v12 == [73]) (some true) ((zfv v12).bind fun v13=>some v13)).bind fun v14=>some v14
def zgb(v7:T0)(v8:Int):Option (Sum (T0×Int) (Sum (T0) (Bool))):=
  (cond ((decide (v8<2))&&(decide (0<(length v7:Int)))) ((idx v7 0).bind fun v9=>some ((v9.toNat:Int) == (91:Int))) (some false)).bind fun v10=>cond v10 ((zj6 v7 1 (length v7:Int)).bind fun v11=>some (.inl (v11,(IntKind.i64.wrap (v8+1))))) (some (.inr (.inl v7)))
def zgn(v1:T0):Option (Bool):=
  (zu (fun z=>zgb z.1 z.2) (v1,0)).bind fun o=>zU o (fun b=>ziX b) some
theorem zfh(v1:T0){r:Bool}(h:zgn v1=some r):zI Tryz.prog 43 [sA v1] (bA r):=by
 refine zq Tryz.func43 y kz y y ?_
 unfold zgn at h
 refine rg y<|u<|asg y<|za ?_
 refine zi ?_
 refine rg y<|u<|asg y<|za ?_
 obtain ⟨o,ho,h⟩:=bs h
 refine zX (X:=T0×Int) (B:=T0) (R:=Bool) (fun z=>[(0,sA z.1),(3,iA z.2)]) (fun z=>[]) (fun b=>[(0,sA b)]) (fun b=>[]) (fun r env st=>zaN Tryz.prog Tryz.f43 0 (bA r) [] env st) ho (zo []) ?_ ?_ ?_
 ·
  rintro ⟨v7,v8⟩ r h
  replace h:zgb v7 v8=some r:=h
  unfold zgb at h
  refine zi ?_
  obtain ⟨v10,q10,h⟩:=bs h
  refine rg y<|u<|mv y<|u<|lss ti y y<|u<|mv y<|z7 (j:=2) 3 y y y y y gpn (fun hb7=>g y hb7<|mv y<|g y hb7<|lnS ti y y<|g y hb7<|gtr ti y y<|za (egA [7,8,9] 3 hb7 y y y y)) ze2<|u<|mv y<|z7 (x:=v10) (j:=7) 3 y y y y y gpn (fun hb8=>by replace q10:=bT hb8 q10;obtain ⟨v9,q9,q10⟩:=bs q10;obtain rfl:=sm q10;exact g y hb8<|mv y<|g y hb8<|ixS ti y y y q9<|g y hb8<|eql ti y y<|za (eg [12,13,14] 3 y y y y)) (fun hb=>(sm (bF hb q10)).symm)<|za ?_
  refine ze y (fun hc11=>?_) (fun hc11=>?_)
  ·
   replace h:=bT hc11 h
   refine zg ?_
   refine zi ?_
   refine zr ?_
   obtain ⟨v11,q12,h⟩:=bs h
   refine rl y<|u<|mv y<|u<|slS (a:=1) (b:=(length v7:Int)) ti y y (zml y q12) y q12<|u<|asg y<|za ?_
   refine rl y<|u<|mv y<|u<|add ti y y<|u<|asg y<|za ?_
   obtain rfl:=sm h
   exact ⟨_,y,zo []⟩
  ·
   replace h:=bF hc11 h
   refine zD ?_
   obtain rfl:=sm h
   exact ⟨y,_,y,zo []⟩
 ·
  rintro v12 rfl
  replace h:ziX v12=some r:=h
  unfold ziX at h
  refine zw ?_
  obtain ⟨v14,q15,h⟩:=bs h
  refine rg y<|u<|mv y<|u<|seq ti y y<|u<|mv y<|zdj (x:=v14) (j:=2) 2 y y y y y gpn (fun hb13=>by replace q15:=bF hb13 q15;obtain ⟨v13,q14,q15⟩:=bs q15;obtain rfl:=sm q15;exact g y hb13<|mv y<|g y hb13<|pc (zgo v12 q14) y y y<|za (eg [23,24] 2 y y y y)) (fun hb=>(sm (bT hb q15)).symm)<|u<|asg y<|za ?_
  refine zj ?_
  obtain rfl:=sm h
  exact ⟨_,y,zy []⟩
 ·
  rintro r' rfl env st hp
  obtain rfl:=sm h
  exact hp
def znj(v1:T0):Option (Bool):=
  (cond (!(v1 == [73])) ((zgn v1).bind fun v2=>some v2) (some false)).bind fun v3=>some v3
theorem ztr(v1:T0){r:Bool}(h:znj v1=some r):zI Tryz.prog 278 [sA v1] (bA r):=by
 refine zq Tryz.func278 y kz y y ?_
 unfold znj at h
 refine rg y<|u<|asg y<|za ?_
 obtain ⟨v3,q3,h⟩:=bs h
 refine rg y<|u<|mv y<|u<|sne ti y y<|u<|mv y<|z7 (x:=v3) (j:=2) 2 y y y y y gpn (fun hb1=>by replace q3:=bT hb1 q3;obtain ⟨v2,q2,q3⟩:=bs q3;obtain rfl:=sm q3;exact g y hb1<|mv y<|g y hb1<|pc (zfh v1 q2) y y y<|za (eg [6,7] 2 y y y y)) (fun hb=>(sm (bF hb q3)).symm)<|u<|asg y<|za ?_
 refine zj ?_
 obtain rfl:=sm h
 exact ⟨_,y,zy []⟩
def zlv(v1:T0):Option (Bool):=
  some ((decide (1≤(length v1:Int)))&&(decide ((length v1:Int)≤8)))
def zdD(v1:T0)(v9:Int):Option (Sum (Int) (Sum (Unit) (Bool))):=
  cond (decide (v9<(length v1:Int))) ((idx v1 v9).bind fun v10=>(cond (!(zja v10)) ((cond (v9 == (0:Int)) (some true) ((idx v1 v9).bind fun v11=>(cond (!(zjD v11)) ((idx v1 v9).bind fun v12=>some (!(zjC v12))) (some false)).bind fun v13=>some v13)).bind fun v14=>some v14) (some false)).bind fun v15=>cond v15 (some (.inr (.inr false))) (some (.inl (IntKind.i64.wrap (v9+1))))) (some (.inr (.inl ())))
def zjf(v1:T0):Option (Bool):=
  cond (v1 == [36,105,110,105,116]) (some true) ((zu (fun z=>zdD v1 z) 0).bind fun o=>zU o (fun b=>zlv v1) some)
theorem zlI(v1:T0){r:Bool}(h:zjf v1=some r):zI Tryz.prog 117 [sA v1] (bA r):=by
 refine zq Tryz.func117 y kz y y ?_
 unfold zjf at h
 refine rg y<|u<|asg y<|za ?_
 refine zi ?_
 refine rg y<|u<|mv y<|u<|seq ti y y<|za ?_
 refine ze y (fun hc1=>?_) (fun hc1=>?_)
 ·
  replace h:=bT hc1 h
  refine rg y<|u<|asg y<|za ?_
  refine zj ?_
  obtain rfl:=sm h
  exact ⟨_,y,zy []⟩
 ·
  replace h:=bF hc1 h
  refine zg ?_
  refine zi ?_
  refine rg y<|u<|asg y<|za ?_
  obtain ⟨o,ho,h⟩:=bs h
  refine zX (X:=Int) (B:=Unit) (R:=Bool) (fun z=>[(0,sA v1),(3,iA z)]) (fun z=>[]) (fun b=>[(0,sA v1)]) (fun b=>[]) (fun r env st=>zaN Tryz.prog Tryz.f117 0 (bA r) [] env st) ho (zo []) ?_ ?_ ?_
  ·
   rintro v9 r h
   replace h:zdD v1 v9=some r:=h
   unfold zdD at h
   refine zi ?_
   refine rg y<|u<|mv y<|u<|mv y<|u<|lnS ti y y<|u<|lss ti y y<|za ?_
   refine ze y (fun hc13=>?_) (fun hc13=>?_)
   ·
    replace h:=bT hc13 h
    refine zg ?_
    refine zi ?_
    refine zr ?_
    obtain ⟨v10,q14,h⟩:=bs h
    obtain ⟨v15,q22,h⟩:=bs h
    refine rg y<|u<|mv y<|u<|mv y<|u<|ixS ti y y y q14<|u<|pc (zmf v10 y) y y y<|u<|nt y<|u<|mv y<|z7 (x:=v15) (j:=5) 16 y y y y y gpn (fun hb15=>by replace q22:=bT hb15 q22;obtain ⟨v14,q21,q22⟩:=bs q22;obtain rfl:=sm q22;exact g y hb15<|mv y<|g y hb15<|eql ti y y<|g y hb15<|mv y<|zdj (x:=v14) (j:=8) 12 y y y y y (gps y y hb15) (fun hb16=>by replace q21:=bF hb16 q21;obtain ⟨v11,q17,q21⟩:=bs q21;obtain ⟨v13,q20,q21⟩:=bs q21;obtain rfl:=sm q21;exact g y hb16<|mv y<|g y hb16<|mv y<|g y hb16<|ixS ti y y y q17<|g y hb16<|pc (znc v11 y) y y y<|g y hb16<|nt y<|g y hb16<|mv y<|z7 (x:=v13) (j:=14) 5 y y y y y (gps y y hb16) (fun hb18=>by replace q20:=bT hb18 q20;obtain ⟨v12,q19,q20⟩:=bs q20;obtain rfl:=sm q20;exact g y hb18<|mv y<|g y hb18<|mv y<|g y hb18<|ixS ti y y y q19<|g y hb18<|pc (zm4 v12 y) y y y<|g y hb18<|nt y<|za (eg [27,28,29,30,31] 5 y y y y)) (fun hb=>(sm (bF hb q20)).symm)<|za (eg [21,22,23,24,25,26,27,28,29,30,31,32] 7 y y y y)) (fun hb=>(sm (bT hb q21)).symm)<|za (eg [18,19,20,21,22,23,24,25,26,27,28,29,30,31,32,33] 4 y y y y)) (fun hb=>(sm (bF hb q22)).symm)<|za ?_
    refine ze y (fun hc23=>?_) (fun hc23=>?_)
    ·
     replace h:=bT hc23 h
     refine rg y<|u<|asg y<|za ?_
     refine zj ?_
     obtain rfl:=sm h
     exact ⟨_,y,_,y,zy []⟩
    ·
     replace h:=bF hc23 h
     refine zg ?_
     refine rl y<|u<|mv y<|u<|add ti y y<|u<|asg y<|za ?_
     obtain rfl:=sm h
     exact ⟨_,y,zo []⟩
   ·
    replace h:=bF hc13 h
    refine zD ?_
    obtain rfl:=sm h
    exact ⟨y,_,y,zo []⟩
  ·
   rintro ⟨⟩ rfl
   replace h:zlv v1=some r:=h
   unfold zlv at h
   refine zw ?_
   refine rg y<|u<|mv y<|u<|lnS ti y y<|u<|geq ti y y<|u<|mv y<|z7 (j:=3) 3 y y y y y gpn (fun hb24=>g y hb24<|mv y<|g y hb24<|lnS ti y y<|g y hb24<|leq ti y y<|za (egA [39,40,41] 3 hb24 y y y y)) ze2<|u<|asg y<|za ?_
   refine zj ?_
   obtain rfl:=sm h
   exact ⟨_,y,zy []⟩
  ·
   rintro r' rfl env st hp
   obtain rfl:=sm h
   exact hp
def zi5(v1:zH):Option (Bool):=
  cond ((decide (v1.Op<1))||(decide (61<v1.Op))) (some false) (cond ((((zeU v1.Op).1)&&(!(zh2 v1.Op v1.A)))||((!((zeU v1.Op).1))&&(!(v1.A == (0:Int))))) (some false) ((cond ((((zeU v1.Op).2.1) == (0:Int))&&(!(v1.C == []))) (some true) ((cond (((zeU v1.Op).2.1) == (1:Int)) ((zfv v1.C).bind fun v2=>some (!v2)) (some false)).bind fun v3=>some v3)).bind fun v4=>(cond v4 (some true) ((cond (((zeU v1.Op).2.1) == (2:Int)) ((znj v1.C).bind fun v5=>some (!v5)) (some false)).bind fun v6=>some v6)).bind fun v7=>cond v7 (some false) (cond ((zeU v1.Op).2.2) ((zjf v1.M).bind fun v8=>some (v8&&(!(v1.M == [36,105,110,105,116])))) (some (v1.M == [])))))
theorem zp5(v1:zH){r:Bool}(h:zi5 v1=some r):zI Tryz.prog 250 [.agg (zv v1)] (bA r):=by
 refine zq Tryz.func250 y kz y y ?_
 unfold zi5 at h
 refine rg y<|u<|bx 0 4 y y y y<|u<|asg y<|za ?_
 refine rg y<|u<|fa ti y y y<|u<|ld ti y y<|u<|pc (zq5 v1.Op y) y y y<|u<|mv y<|u<|ex y y<|u<|ex y y<|u<|ex y y<|u<|asg y<|u<|asg y<|u<|asg y<|za ?_
 refine zi ?_
 refine zr ?_
 refine rg y<|u<|fa ti y y y<|u<|ld ti y y<|u<|lss ti y y<|u<|mv y<|zdj (j:=3) 3 y y y y y gpn (fun hb1=>g y hb1<|fa ti y y y<|g y hb1<|ld ti y y<|g y hb1<|gtr ti y y<|za (egO [18,19,20] 3 hb1 y y y y)) orT<|u<|asg y<|za ?_
 refine ze y (fun hc2=>?_) (fun hc2=>?_)
 ·
  replace h:=bT hc2 h
  refine rg y<|u<|asg y<|za ?_
  refine zj ?_
  obtain rfl:=sm h
  exact ⟨_,y,zy []⟩
 ·
  replace h:=bF hc2 h
  refine rg y<|u<|mv y<|u<|mv y<|z7 (j:=1) 6 y y y y y gpn (fun hb3=>g y hb3<|fa ti y y y<|g y hb3<|ld ti y y<|g y hb3<|fa ti y y y<|g y hb3<|ld ti y y<|g y hb3<|pc (zqh v1.Op v1.A y) y y y<|g y hb3<|nt y<|za (egA [25,26,27,28,29,30] 6 hb3 y y y y)) ze2<|u<|mv y<|zdj (j:=9) 7 y y y y y gpn (fun hb4=>g y hb4<|mv y<|g y hb4<|nt y<|g y hb4<|mv y<|z7 (j:=12) 3 y y y y y (gps y y hb4) (fun hb5=>g y hb5<|fa ti y y y<|g y hb5<|ld ti y y<|g y hb5<|neq ti y y<|za (egA [36,37,38] 3 hb5 y y y y)) ze2<|za (egO [33,34,35,36,37,38,39] 4 hb4 y y y y)) orT<|u<|asg y<|za ?_
  refine ze y (fun hc6=>?_) (fun hc6=>?_)
  ·
   replace h:=bT hc6 h
   refine rg y<|u<|asg y<|za ?_
   refine zj ?_
   obtain rfl:=sm h
   exact ⟨_,y,zy []⟩
  ·
   replace h:=bF hc6 h
   obtain ⟨v4,q12,h⟩:=bs h
   obtain ⟨v7,q17,h⟩:=bs h
   refine rg y<|u<|mv y<|u<|eql ti y y<|u<|mv y<|z7 (j:=2) 3 y y y y y gpn (fun hb7=>g y hb7<|fa ti y y y<|g y hb7<|ld ti y y<|g y hb7<|sne ti y y<|za (egA [45,46,47] 3 hb7 y y y y)) ze2<|u<|mv y<|zdj (x:=v4) (j:=7) 8 y y y y y gpn (fun hb8=>by replace q12:=bF hb8 q12;obtain ⟨v3,q11,q12⟩:=bs q12;obtain rfl:=sm q12;exact g y hb8<|mv y<|g y hb8<|eql ti y y<|g y hb8<|mv y<|z7 (x:=v3) (j:=10) 4 y y y y y (gps y y hb8) (fun hb9=>by replace q11:=bT hb9 q11;obtain ⟨v2,q10,q11⟩:=bs q11;obtain rfl:=sm q11;exact g y hb9<|fa ti y y y<|g y hb9<|ld ti y y<|g y hb9<|pc (zgo v1.C q10) y y y<|g y hb9<|nt y<|za (eg [53,54,55,56] 4 y y y y)) (fun hb=>(sm (bF hb q11)).symm)<|za (eg [50,51,52,53,54,55,56,57] 4 y y y y)) (fun hb=>(sm (bT hb q12)).symm)<|u<|mv y<|zdj (x:=v7) (j:=17) 8 y y y y y gpn (fun hb13=>by replace q17:=bF hb13 q17;obtain ⟨v6,q16,q17⟩:=bs q17;obtain rfl:=sm q17;exact g y hb13<|mv y<|g y hb13<|eql ti y y<|g y hb13<|mv y<|z7 (x:=v6) (j:=20) 4 y y y y y (gps y y hb13) (fun hb14=>by replace q16:=bT hb14 q16;obtain ⟨v5,q15,q16⟩:=bs q16;obtain rfl:=sm q16;exact g y hb14<|fa ti y y y<|g y hb14<|ld ti y y<|g y hb14<|pc (ztr v1.C q15) y y y<|g y hb14<|nt y<|za (eg [63,64,65,66] 4 y y y y)) (fun hb=>(sm (bF hb q16)).symm)<|za (eg [60,61,62,63,64,65,66,67] 4 y y y y)) (fun hb=>(sm (bT hb q17)).symm)<|u<|asg y<|za ?_
   refine ze y (fun hc18=>?_) (fun hc18=>?_)
   ·
    replace h:=bT hc18 h
    refine rg y<|u<|asg y<|za ?_
    refine zj ?_
    obtain rfl:=sm h
    exact ⟨_,y,zy []⟩
   ·
    replace h:=bF hc18 h
    refine rg y<|u<|mv y<|u<|asg y<|za ?_
    refine ze y (fun hc19=>?_) (fun hc19=>?_)
    ·
     replace h:=bT hc19 h
     obtain ⟨v8,q20,h⟩:=bs h
     refine rg y<|u<|fa ti y y y<|u<|ld ti y y<|u<|pc (zlI v1.M q20) y y y<|u<|mv y<|z7 (j:=3) 3 y y y y y gpn (fun hb21=>g y hb21<|fa ti y y y<|g y hb21<|ld ti y y<|g y hb21<|sne ti y y<|za (egA [75,76,77] 3 hb21 y y y y)) ze2<|u<|asg y<|za ?_
     refine zj ?_
     obtain rfl:=sm h
     exact ⟨_,y,zy []⟩
    ·
     replace h:=bF hc19 h
     refine zg ?_
     refine rg y<|u<|fa ti y y y<|u<|ld ti y y<|u<|seq ti y y<|u<|asg y<|za ?_
     refine zj ?_
     obtain rfl:=sm h
     exact ⟨_,y,zy []⟩
def zgs(v2:Bool):Bool:=
  cond v2 (true) (false)
def ziy(v1:Int):Bool:=
  cond (v1 == (20:Int)) (zgs (v1 == (20:Int))) (cond (v1 == (46:Int)) (zgs (v1 == (46:Int))) (cond (v1 == (47:Int)) (zgs (v1 == (47:Int))) (cond (v1 == (48:Int)) (zgs (v1 == (48:Int))) (cond (v1 == (58:Int)) (zgs (v1 == (58:Int))) (zgs (v1 == (61:Int)))))))
theorem zqr(v1:Int){r:Bool}(h:ziy v1=r):zI Tryz.prog 89 [iA v1] (bA r):=by
 refine zq Tryz.func89 y kz y y ?_
 unfold ziy at h
 refine rg y<|u<|asg y<|za ?_
 refine zi ?_
 refine rg y<|u<|mv y<|za ?_
 refine zr ?_
 refine za6 (X:=Bool) (fun z=>[(4,bA z)]) (fun z=>[]) (fun z=>zgs z=r) ?_ ?_
 ·
  refine rg y<|u<|eql ti y y<|u<|asg y<|za ?_
  refine ze y (fun hc1=>?_) (fun hc1=>?_)
  ·
   replace h:=bT hc1 h
   refine zg ?_
   exact ⟨(v1 == (20:Int)),h,zo []⟩
  ·
   replace h:=bF hc1 h
   refine rg y<|u<|eql ti y y<|u<|asg y<|za ?_
   refine ze y (fun hc2=>?_) (fun hc2=>?_)
   ·
    replace h:=bT hc2 h
    refine zg ?_
    exact ⟨(v1 == (46:Int)),h,zo []⟩
   ·
    replace h:=bF hc2 h
    refine rg y<|u<|eql ti y y<|u<|asg y<|za ?_
    refine ze y (fun hc3=>?_) (fun hc3=>?_)
    ·
     replace h:=bT hc3 h
     refine zg ?_
     exact ⟨(v1 == (47:Int)),h,zo []⟩
    ·
     replace h:=bF hc3 h
     refine rg y<|u<|eql ti y y<|u<|asg y<|za ?_
     refine ze y (fun hc4=>?_) (fun hc4=>?_)
     ·
      replace h:=bT hc4 h
      refine zg ?_
      exact ⟨(v1 == (48:Int)),h,zo []⟩
     ·
      replace h:=bF hc4 h
      refine rg y<|u<|eql ti y y<|u<|asg y<|za ?_
      refine ze y (fun hc5=>?_) (fun hc5=>?_)
      ·
       replace h:=bT hc5 h
       refine zg ?_
       exact ⟨(v1 == (58:Int)),h,zo []⟩
      ·
       replace h:=bF hc5 h
       exact rl y<|u<|eql ti y y<|u<|asg y<|za (⟨(v1 == (61:Int)),h,zo []⟩)
 ·
  rintro v2 h
  replace h:zgs v2=r:=h
  unfold zgs at h
  refine ze y (fun hc6=>?_) (fun hc6=>?_)
  ·
   replace h:=bT hc6 h
   refine rg y<|u<|asg y<|za ?_
   refine zj ?_
   obtain rfl:=h
   exact ⟨_,y,zy []⟩
  ·
   replace h:=bF hc6 h
   refine zg ?_
   refine rg y<|u<|asg y<|za ?_
   refine zj ?_
   obtain rfl:=h
   exact ⟨_,y,zy []⟩
def zez(v2:Bool):Bool:=
  cond v2 (true) (false)
def zhQ(v1:Int):Bool:=
  cond (v1 == (20:Int)) (zez (v1 == (20:Int))) (cond (v1 == (46:Int)) (zez (v1 == (46:Int))) (cond (v1 == (47:Int)) (zez (v1 == (47:Int))) (cond (v1 == (48:Int)) (zez (v1 == (48:Int))) (cond (v1 == (58:Int)) (zez (v1 == (58:Int))) (zez (v1 == (61:Int)))))))
theorem zn8(v1:Int){r:Bool}(h:zhQ v1=r):zI Tryz.prog 132 [iA v1] (bA r):=by
 refine zq Tryz.func132 y kz y y ?_
 unfold zhQ at h
 refine rg y<|u<|asg y<|za ?_
 refine zi ?_
 refine rg y<|u<|mv y<|za ?_
 refine zr ?_
 refine za6 (X:=Bool) (fun z=>[(4,bA z)]) (fun z=>[]) (fun z=>zez z=r) ?_ ?_
 ·
  refine rg y<|u<|eql ti y y<|u<|asg y<|za ?_
  refine ze y (fun hc1=>?_) (fun hc1=>?_)
  ·
   replace h:=bT hc1 h
   refine zg ?_
   exact ⟨(v1 == (20:Int)),h,zo []⟩
  ·
   replace h:=bF hc1 h
   refine rg y<|u<|eql ti y y<|u<|asg y<|za ?_
   refine ze y (fun hc2=>?_) (fun hc2=>?_)
   ·
    replace h:=bT hc2 h
    refine zg ?_
    exact ⟨(v1 == (46:Int)),h,zo []⟩
   ·
    replace h:=bF hc2 h
    refine rg y<|u<|eql ti y y<|u<|asg y<|za ?_
    refine ze y (fun hc3=>?_) (fun hc3=>?_)
    ·
     replace h:=bT hc3 h
     refine zg ?_
     exact ⟨(v1 == (47:Int)),h,zo []⟩
    ·
     replace h:=bF hc3 h
     refine rg y<|u<|eql ti y y<|u<|asg y<|za ?_
     refine ze y (fun hc4=>?_) (fun hc4=>?_)
     ·
      replace h:=bT hc4 h
      refine zg ?_
      exact ⟨(v1 == (48:Int)),h,zo []⟩
     ·
      replace h:=bF hc4 h
      refine rg y<|u<|eql ti y y<|u<|asg y<|za ?_
      refine ze y (fun hc5=>?_) (fun hc5=>?_)
      ·
       replace h:=bT hc5 h
       refine zg ?_
       exact ⟨(v1 == (58:Int)),h,zo []⟩
      ·
       replace h:=bF hc5 h
       exact rl y<|u<|eql ti y y<|u<|asg y<|za (⟨(v1 == (61:Int)),h,zo []⟩)
 ·
  rintro v2 h
  replace h:zez v2=r:=h
  unfold zez at h
  refine ze y (fun hc6=>?_) (fun hc6=>?_)
  ·
   replace h:=bT hc6 h
   refine rg y<|u<|asg y<|za ?_
   refine zj ?_
   obtain rfl:=h
   exact ⟨_,y,zy []⟩
  ·
   replace h:=bF hc6 h
   refine zg ?_
   refine rg y<|u<|asg y<|za ?_
   refine zj ?_
   obtain rfl:=h
   exact ⟨_,y,zy []⟩
def zf2(v1:T0):Option (T0×Bool):=
  (zhL v1).bind fun v2=>(cond (!v2) (some true) ((idx v1 0).bind fun v3=>some (!((v3.toNat:Int) == (91:Int))))).bind fun v4=>cond v4 (some ([],false)) ((zj6 v1 1 (length v1:Int)).bind fun v5=>some (v5,true))
theorem zhm(v1:T0){r:T0×Bool}(h:zf2 v1=some r):zI Tryz.prog 135 [sA v1] (.tup [sA r.1,bA r.2]):=by
 refine zq Tryz.func135 y kz y y ?_
 unfold zf2 at h
 refine rg y<|u<|asg y<|u<|asg y<|za ?_
 refine zi ?_
 obtain ⟨v2,q1,h⟩:=bs h
 obtain ⟨v4,q4,h⟩:=bs h
 refine rg y<|u<|mv y<|u<|pc (zha v1 q1) y y y<|u<|nt y<|u<|mv y<|zdj (x:=v4) (j:=3) 3 y y y y y gpn (fun hb2=>by replace q4:=bF hb2 q4;obtain ⟨v3,q3,q4⟩:=bs q4;obtain rfl:=sm q4;exact g y hb2<|mv y<|g y hb2<|ixS ti y y y q3<|g y hb2<|neq ti y y<|za (eg [8,9,10] 3 y y y y)) (fun hb=>(sm (bT hb q4)).symm)<|za ?_
 refine ze y (fun hc5=>?_) (fun hc5=>?_)
 ·
  replace h:=bT hc5 h
  refine rg y<|u<|asg y<|u<|asg y<|za ?_
  refine zj ?_
  obtain rfl:=sm h
  exact ⟨_,y,zy []⟩
 ·
  replace h:=bF hc5 h
  refine zg ?_
  obtain ⟨v5,q6,h⟩:=bs h
  refine rg y<|u<|mv y<|u<|slS (a:=1) (b:=(length v1:Int)) ti y y (zml y q6) y q6<|u<|asg y<|u<|asg y<|za ?_
  refine zj ?_
  obtain rfl:=sm h
  exact ⟨_,y,zy []⟩
structure zt where
  Name:T0
  Type_:T0
  Static:Bool
def zJ(x:zt):List AV:=[sA x.Name,sA x.Type_,bA x.Static]
structure zas where
  At:Int
  Locals:T1
  Stack:T1
def zP(x:zas):List AV:=[iA x.At,.isl 1 (map zf x.Locals),.isl 1 (map zf x.Stack)]
structure zbe where
  From:Int
  To:Int
  At:Int
  C:T0
def zbL(x:zbe):List AV:=[iA x.From,iA x.To,iA x.At,sA x.C]
structure zd where
  Name:T0
  Params:T1
  Ret:T0
  Static:Bool
  Abstract:Bool
  Locals:Int
  Stack:Int
  Code:List zH
  Maps:List zas
  Traps:List zbe
def zh(x:zd):List AV:=[sA x.Name,.isl 1 (map zf x.Params),sA x.Ret,bA x.Static,bA x.Abstract,iA x.Locals,iA x.Stack,.isl 4 (map zv x.Code),.isl 3 (map zP x.Maps),.isl 4 (map zbL x.Traps)]
structure zb where
  Name:T0
  Super:T0
  Interface:Bool
  Impl:T1
  Fields:List zt
  Methods:List zd
def zc(x:zb):List AV:=[sA x.Name,sA x.Super,bA x.Interface,.isl 1 (map zf x.Impl),.isl 3 (map zJ x.Fields),.isl 10 (map zh x.Methods)]
def zjd(v1:zt):Option (Bool):=
  (ziU v1.Name).bind fun v2=>(cond (v2&&(!(v1.Name == [36,105,110,105,116]))) ((zhL v1.Type_).bind fun v3=>some v3) (some false)).bind fun v4=>some v4
theorem zpS(v1:zt){r:Bool}(h:zjd v1=some r):zI Tryz.prog 100 [.agg (zJ v1)] (bA r):=by
 refine zq Tryz.func100 y kz y y ?_
 unfold zjd at h
 refine rg y<|u<|bx 0 3 y y y y<|u<|asg y<|za ?_
 obtain ⟨v2,q1,h⟩:=bs h
 obtain ⟨v4,q5,h⟩:=bs h
 refine rg y<|u<|fa ti y y y<|u<|ld ti y y<|u<|pc (zlq v1.Name q1) y y y<|u<|mv y<|z7 (j:=3) 3 y y y y y gpn (fun hb2=>g y hb2<|fa ti y y y<|g y hb2<|ld ti y y<|g y hb2<|sne ti y y<|za (egA [7,8,9] 3 hb2 y y y y)) ze2<|u<|mv y<|z7 (x:=v4) (j:=8) 3 y y y y y gpn (fun hb3=>by replace q5:=bT hb3 q5;obtain ⟨v3,q4,q5⟩:=bs q5;obtain rfl:=sm q5;exact g y hb3<|fa ti y y y<|g y hb3<|ld ti y y<|g y hb3<|pc (zha v1.Type_ q4) y y y<|za (eg [12,13,14] 3 y y y y)) (fun hb=>(sm (bF hb q5)).symm)<|u<|asg y<|za ?_
 refine zj ?_
 obtain rfl:=sm h
 exact ⟨_,y,zy []⟩
def zdT(v1:zt):T0:=
  v1.Name
theorem zmj(v1:zt){r:T0}(h:zdT v1=r):zI Tryz.prog 99 [.agg (zJ v1)] (sA r):=by
 refine zq Tryz.func99 y kz y y ?_
 unfold zdT at h
 refine rg y<|u<|bx 0 3 y y y y<|u<|asg y<|za ?_
 refine rg y<|u<|fa ti y y y<|u<|ld ti y y<|u<|asg y<|za ?_
 refine zj ?_
 obtain rfl:=h
 exact ⟨_,y,zy []⟩
def zfP(v1:zt)(v2:T0)(v3:T0)(v4:Bool):Bool:=
  ((zdT (zt.mk v2 v3 v4)) == (zdT v1))
theorem zj0(v1:zt)(v2:T0)(v3:T0)(v4:Bool){r:Bool}(h:zfP v1 v2 v3 v4=r):zI Tryz.prog 177 [.agg (zJ v1),.ipt 1 [[.fn (.func 99) [] []]] 0 0,.ipt 3 [[sA v2,sA v3,bA v4]] 0 0] (bA r):=by
 refine zq Tryz.func177 y kz y y ?_
 unfold zfP at h
 refine rg y<|u<|bx 0 3 y y y y<|u<|asg y<|za ?_
 refine rdA [(4,bA ((zdT (zt.mk v2 v3 v4)) == (zdT v1)))] [] [] [7,6,5,4,3,2,1,0] [(4,bA ((zdT (zt.mk v2 v3 v4)) == (zdT v1))),(11,bA ((zdT (zt.mk v2 v3 v4)) == (zdT v1))),(10,sA (zdT v1)),(9,.agg (zJ v1)),(8,.fn (.func 99) [] []),(7,sA (zdT (zt.mk v2 v3 v4))),(6,.agg [sA v2,sA v3,bA v4]),(5,.fn (.func 99) [] [])] 0 (zht ⟨pe,pe,(pb y (pc (zmj v1 y) y y y w)),pe,pe,(pb y (pc (zmj (zt.mk v2 v3 v4) y) y y y w)),pe,pe,t⟩ (zo [])) ?_
 refine zj ?_
 obtain rfl:=h
 exact ⟨_,y,zy []⟩
def za8:Option (Int):=
  some (-1)
def zaa(v1:List zt)(v2:T0)(v3:T0)(v4:Bool)(v7:Int):Option (Sum (Int) (Sum (Unit) (Int))):=
  cond (decide (v7<(length v1:Int))) ((idx v1 v7).bind fun v8=>cond (zfP v8 v2 v3 v4) (some (.inr (.inr v7))) (some (.inl (IntKind.i64.wrap (v7+1))))) (some (.inr (.inl ())))
def zbl(v1:List zt)(v2:T0)(v3:T0)(v4:Bool):Option (Int):=
  (zu (fun z=>zaa v1 v2 v3 v4 z) 0).bind fun o=>zU o (fun b=>za8) some
theorem zfO(v1:List zt)(v2:T0)(v3:T0)(v4:Bool){r:Int}(h:zbl v1 v2 v3 v4=some r):zI Tryz.prog 241 [.isl 3 (map zJ v1),.fn (.func 177) [] [.ipt 1 [[.fn (.func 99) [] []]] 0 0,.ipt 3 [[sA v2,sA v3,bA v4]] 0 0]] (iA r):=by
 refine zq Tryz.func241 y kz y y ?_
 unfold zbl at h
 refine rg y<|u<|asg y<|za ?_
 refine zi ?_
 refine rg y<|u<|mv y<|u<|lnI ti y y<|u<|mv y<|za ?_
 obtain ⟨o,ho,h⟩:=bs h
 refine zX (X:=Int) (B:=Unit) (R:=Int) (fun z=>[(0,.isl 3 (map zJ v1)),(1,.fn (.func 177) [] [.ipt 1 [[.fn (.func 99) [] []]] 0 0,.ipt 3 [[sA v2,sA v3,bA v4]] 0 0]),(7,iA (length v1:Int)),(8,iA z)]) (fun z=>[]) (fun b=>[]) (fun b=>[]) (fun r env st=>zaN Tryz.prog Tryz.f241 0 (iA r) [] env st) ho (zo []) ?_ ?_ ?_
 ·
  rintro v7 r h
  replace h:zaa v1 v2 v3 v4 v7=some r:=h
  unfold zaa at h
  refine rg y<|u<|lss ti y y<|za ?_
  refine zi ?_
  refine ze y (fun hc4=>?_) (fun hc4=>?_)
  ·
   replace h:=bT hc4 h
   refine zg ?_
   refine zi ?_
   refine zr ?_
   refine rg y<|u<|mv y<|u<|asg y<|za ?_
   obtain ⟨v8,q5,h⟩:=bs h
   refine rg y<|u<|mv y<|u<|mv y<|u<|mv y<|u<|ixI ti y ti y y y q5<|u<|ldI ti y (zl q5).2.2 y<|u<|pc (zj0 v8 v2 v3 v4 y) y y y<|za ?_
   refine ze y (fun hc6=>?_) (fun hc6=>?_)
   ·
    replace h:=bT hc6 h
    refine rg y<|u<|mv y<|u<|asg y<|za ?_
    refine zj ?_
    obtain rfl:=sm h
    exact ⟨_,y,_,y,zy []⟩
   ·
    replace h:=bF hc6 h
    refine zg ?_
    refine rl y<|u<|add ti y y<|u<|mv y<|za ?_
    obtain rfl:=sm h
    exact ⟨_,y,zo []⟩
  ·
   replace h:=bF hc4 h
   refine zD ?_
   obtain rfl:=sm h
   exact ⟨y,_,y,zo []⟩
 ·
  rintro ⟨⟩ rfl
  replace h:za8=some r:=h
  unfold za8 at h
  refine zw ?_
  refine rg y<|u<|asg y<|za ?_
  refine zj ?_
  obtain rfl:=sm h
  exact ⟨_,y,zy []⟩
 ·
  rintro r' rfl env st hp
  obtain rfl:=sm h
  exact hp
def zaw(v1:List zt)(v2:T0)(v3:T0)(v4:Bool):Option (Bool):=
  (zbl v1 v2 v3 v4).bind fun v5=>some (decide (0≤v5))
theorem zfm(v1:List zt)(v2:T0)(v3:T0)(v4:Bool){r:Bool}(h:zaw v1 v2 v3 v4=some r):zI Tryz.prog 176 [.isl 3 (map zJ v1),.fn (.func 177) [] [.ipt 1 [[.fn (.func 99) [] []]] 0 0,.ipt 3 [[sA v2,sA v3,bA v4]] 0 0]] (bA r):=by
 refine zq Tryz.func176 y kz y y ?_
 unfold zaw at h
 refine rg y<|u<|asg y<|za ?_
 obtain ⟨v5,q1,h⟩:=bs h
 refine rg y<|u<|mv y<|u<|mv y<|u<|pc (zfO v1 v2 v3 v4 q1) y y y<|u<|geq ti y y<|u<|asg y<|za ?_
 refine zj ?_
 obtain rfl:=sm h
 exact ⟨_,y,zy []⟩
def zfJ(v1:List zt)(v2:Int):Option (Bool):=
  some (decide ((length v1:Int)≤v2))
def zdh(v1:List zt)(v9:Int):Option (Sum (Int) (Sum (Unit) (Bool))):=
  cond (decide (v9<(length v1:Int))) ((idx v1 v9).bind fun v10=>(zjd v10).bind fun v11=>(cond (!v11) (some true) ((zj6 v1 0 v9).bind fun v12=>(zaw v12 v10.Name v10.Type_ v10.Static).bind fun v13=>some v13)).bind fun v14=>cond v14 (some (.inr (.inr false))) (some (.inl (IntKind.i64.wrap (v9+1))))) (some (.inr (.inl ())))
def zd9(v1:List zt)(v2:Int):Option (Bool):=
  (zu (fun z=>zdh v1 z) 0).bind fun o=>zU o (fun b=>zfJ v1 v2) some
theorem zk1(v1:List zt)(v2:Int){r:Bool}(h:zd9 v1 v2=some r):zI Tryz.prog 98 [.isl 3 (map zJ v1),iA v2,.fn (.func 99) [] [],.fn (.func 100) [] []] (bA r):=by
 refine zq Tryz.func98 y kz y y ?_
 unfold zd9 at h
 refine rg y<|u<|bx 0 1 y y y y<|u<|asg y<|za ?_
 refine zi ?_
 refine rg y<|u<|mv y<|u<|lnI ti y y<|u<|mv y<|za ?_
 obtain ⟨o,ho,h⟩:=bs h
 refine zX (X:=Int) (B:=Unit) (R:=Bool) (fun z=>[(0,.isl 3 (map zJ v1)),(1,iA v2),(3,.fn (.func 100) [] []),(6,.mpt 0 0 0),(11,.isl 3 (map zJ v1)),(12,iA (length v1:Int)),(13,iA z)]) (fun z=>[some (1,[[.fn (.func 99) [] []]])]) (fun b=>[(0,.isl 3 (map zJ v1)),(1,iA v2)]) (fun b=>[]) (fun r env st=>zaN Tryz.prog Tryz.f98 0 (bA r) [] env st) ho (zo [.old 0]) ?_ ?_ ?_
 ·
  rintro v9 r h
  replace h:zdh v1 v9=some r:=h
  unfold zdh at h
  refine rg y<|u<|lss ti y y<|za ?_
  refine zi ?_
  refine ze y (fun hc9=>?_) (fun hc9=>?_)
  ·
   replace h:=bT hc9 h
   refine zg ?_
   refine zi ?_
   refine zr ?_
   obtain ⟨v10,q10,h⟩:=bs h
   refine rg y<|u<|mv y<|u<|ixI ti y ti y y y q10<|u<|ldI ti y (zl q10).2.2 y<|u<|al 1 ti y<|u<|asg y<|u<|sto ti y y y<|za ?_
   obtain ⟨v11,q11,h⟩:=bs h
   obtain ⟨v14,q15,h⟩:=bs h
   refine rg y<|u<|mv y<|u<|ld ti y y<|u<|pc (zpS v10 q11) y y y<|u<|nt y<|u<|mv y<|zdj (x:=v14) (j:=4) 5 y y y y y gpn (fun hb12=>by replace q15:=bF hb12 q15;obtain ⟨v12,q13,q15⟩:=bs q15;obtain ⟨v13,q14,q15⟩:=bs q15;obtain rfl:=sm q15;exact g y hb12<|mv y<|g y hb12<|mv y<|g y hb12<|slI (a:=0) (b:=v9) ti y ti y y y (zon y q13) q13<|g y hb12<|mf y y<|g y hb12<|pcs (zfm v12 v10.Name v10.Type_ v10.Static q14) y y (.cons (si y) (.cons (zhX t ⟨(zcR y ⟨(si y),t⟩),(zcR y ⟨(si y),(si y),(si y),t⟩),t⟩) .nil)) zcD<|za (eg [23,24,25,26,27] 5 y y y y)) (fun hb=>(sm (bT hb q15)).symm)<|za ?_
   refine ze y (fun hc16=>?_) (fun hc16=>?_)
   ·
    replace h:=bT hc16 h
    refine rg y<|u<|asg y<|za ?_
    refine zj ?_
    obtain rfl:=sm h
    exact ⟨_,y,_,y,zy []⟩
   ·
    replace h:=bF hc16 h
    refine zg ?_
    refine rl y<|u<|add ti y y<|u<|mv y<|za ?_
    obtain rfl:=sm h
    exact ⟨_,y,zo [.old 0]⟩
  ·
   replace h:=bF hc9 h
   refine zD ?_
   obtain rfl:=sm h
   exact ⟨y,_,y,zo []⟩
 ·
  rintro ⟨⟩ rfl
  replace h:zfJ v1 v2=some r:=h
  unfold zfJ at h
  refine zw ?_
  refine rg y<|u<|mv y<|u<|lnI ti y y<|u<|mv y<|u<|leq ti y y<|u<|asg y<|za ?_
  refine zj ?_
  obtain rfl:=sm h
  exact ⟨_,y,zy []⟩
 ·
  rintro r' rfl env st hp
  obtain rfl:=sm h
  exact hp
def ziF(v1:T0):Option (Bool):=
  (zhL v1).bind fun v2=>some (!v2)
theorem zov(v1:T0){r:Bool}(h:ziF v1=some r):zI Tryz.prog 245 [sA v1,.ipt 1 [[.fn (.func 102) [] []]] 0 0] (bA r):=by
 refine zq Tryz.func245 y kz y y ?_
 unfold ziF at h
 refine rg y<|u<|asg y<|za ?_
 obtain ⟨v2,q1,h⟩:=bs h
 refine rg y<|u<|ld ti y y<|u<|mv y<|u<|pc (zha v1 q1) y y y<|u<|nt y<|u<|asg y<|za ?_
 refine zj ?_
 obtain rfl:=sm h
 exact ⟨_,y,zy []⟩
def zbT:Option (Int):=
  some (-1)
def zaA(v1:T1)(v5:Int):Option (Sum (Int) (Sum (Unit) (Int))):=
  cond (decide (v5<(length v1:Int))) ((idx v1 v5).bind fun v6=>(ziF v6).bind fun v7=>cond v7 (some (.inr (.inr v5))) (some (.inl (IntKind.i64.wrap (v5+1))))) (some (.inr (.inl ())))
def zct(v1:T1):Option (Int):=
  (zu (fun z=>zaA v1 z) 0).bind fun o=>zU o (fun b=>zbT) some
theorem zhu(v1:T1){r:Int}(h:zct v1=some r):zI Tryz.prog 110 [.isl 1 (map zf v1),.fn (.func 245) [] [.ipt 1 [[.fn (.func 102) [] []]] 0 0]] (iA r):=by
 refine zq Tryz.func110 y kz y y ?_
 unfold zct at h
 refine rg y<|u<|asg y<|za ?_
 refine zi ?_
 refine rg y<|u<|mv y<|u<|lnI ti y y<|u<|mv y<|za ?_
 obtain ⟨o,ho,h⟩:=bs h
 refine zX (X:=Int) (B:=Unit) (R:=Int) (fun z=>[(0,.isl 1 (map zf v1)),(1,.fn (.func 245) [] [.ipt 1 [[.fn (.func 102) [] []]] 0 0]),(7,iA (length v1:Int)),(8,iA z)]) (fun z=>[]) (fun b=>[]) (fun b=>[]) (fun r env st=>zaN Tryz.prog Tryz.f110 0 (iA r) [] env st) ho (zo []) ?_ ?_ ?_
 ·
  rintro v5 r h
  replace h:zaA v1 v5=some r:=h
  unfold zaA at h
  refine rg y<|u<|lss ti y y<|za ?_
  refine zi ?_
  refine ze y (fun hc5=>?_) (fun hc5=>?_)
  ·
   replace h:=bT hc5 h
   refine zg ?_
   refine zi ?_
   refine zr ?_
   refine rg y<|u<|mv y<|u<|asg y<|za ?_
   obtain ⟨v6,q6,h⟩:=bs h
   obtain ⟨v7,q7,h⟩:=bs h
   refine rg y<|u<|mv y<|u<|mv y<|u<|mv y<|u<|ixI ti y ti y y y q6<|u<|ldI ti y (zl q6).2.2 y<|u<|pc (zov v6 q7) y y y<|za ?_
   refine ze y (fun hc8=>?_) (fun hc8=>?_)
   ·
    replace h:=bT hc8 h
    refine rg y<|u<|mv y<|u<|asg y<|za ?_
    refine zj ?_
    obtain rfl:=sm h
    exact ⟨_,y,_,y,zy []⟩
   ·
    replace h:=bF hc8 h
    refine zg ?_
    refine rl y<|u<|add ti y y<|u<|mv y<|za ?_
    obtain rfl:=sm h
    exact ⟨_,y,zo []⟩
  ·
   replace h:=bF hc5 h
   refine zD ?_
   obtain rfl:=sm h
   exact ⟨y,_,y,zo []⟩
 ·
  rintro ⟨⟩ rfl
  replace h:zbT=some r:=h
  unfold zbT at h
  refine zw ?_
  refine rg y<|u<|asg y<|za ?_
  refine zj ?_
  obtain rfl:=sm h
  exact ⟨_,y,zy []⟩
 ·
  rintro r' rfl env st hp
  obtain rfl:=sm h
  exact hp
def zbV(v1:T1):Option (Bool):=
  (zct v1).bind fun v2=>some (decide (0≤v2))
theorem zgR(v1:T1){r:Bool}(h:zbV v1=some r):zI Tryz.prog 56 [.isl 1 (map zf v1),.fn (.func 245) [] [.ipt 1 [[.fn (.func 102) [] []]] 0 0]] (bA r):=by
 refine zq Tryz.func56 y kz y y ?_
 unfold zbV at h
 refine rg y<|u<|asg y<|za ?_
 obtain ⟨v2,q1,h⟩:=bs h
 refine rg y<|u<|mv y<|u<|mv y<|u<|pc (zhu v1 q1) y y y<|u<|geq ti y y<|u<|asg y<|za ?_
 refine zj ?_
 obtain rfl:=sm h
 exact ⟨_,y,zy []⟩
def zi7(v1:T1):Option (Bool):=
  (zbV v1).bind fun v2=>some (!v2)
theorem zp7(v1:T1){r:Bool}(h:zi7 v1=some r):zI Tryz.prog 183 [.isl 1 (map zf v1),.fn (.func 102) [] []] (bA r):=by
 refine zq Tryz.func183 y kz y y ?_
 unfold zi7 at h
 refine rg y<|u<|bx 0 1 y y y y<|u<|asg y<|za ?_
 obtain ⟨v2,q1,h⟩:=bs h
 refine rg y<|u<|mv y<|u<|mf y y<|u<|pcs (zgR v1 q1) y y (.cons (si y) (.cons (zhX t ⟨(zcR y ⟨(si y),t⟩),t⟩) .nil)) zcD<|u<|nt y<|u<|asg y<|za ?_
 refine zj ?_
 obtain rfl:=sm h
 exact ⟨_,y,zy []⟩
def zny(v1:T0):Option (Bool):=
  (cond (v1 == [86]) (some true) ((zhL v1).bind fun v2=>some v2)).bind fun v3=>some v3
theorem zth(v1:T0){r:Bool}(h:zny v1=some r):zI Tryz.prog 184 [sA v1] (bA r):=by
 refine zq Tryz.func184 y kz y y ?_
 unfold zny at h
 refine rg y<|u<|asg y<|za ?_
 obtain ⟨v3,q3,h⟩:=bs h
 refine rg y<|u<|mv y<|u<|seq ti y y<|u<|mv y<|zdj (x:=v3) (j:=2) 2 y y y y y gpn (fun hb1=>by replace q3:=bF hb1 q3;obtain ⟨v2,q2,q3⟩:=bs q3;obtain rfl:=sm q3;exact g y hb1<|mv y<|g y hb1<|pc (zha v1 q2) y y y<|za (eg [6,7] 2 y y y y)) (fun hb=>(sm (bT hb q3)).symm)<|u<|asg y<|za ?_
 refine zj ?_
 obtain rfl:=sm h
 exact ⟨_,y,zy []⟩
def zgg(v1:zd):Bool:=
  (((((!v1.Static)&&(!(v1.Name == [36,105,110,105,116])))&&(v1.Locals == (0:Int)))&&(v1.Stack == (0:Int)))&&((IntKind.i64.wrap ((IntKind.i64.wrap ((length v1.Code:Int)+(length v1.Maps:Int)))+(length v1.Traps:Int))) == (0:Int)))
theorem zp4(v1:zd){r:Bool}(h:zgg v1=r):zI Tryz.prog 185 [.agg (zh v1)] (bA r):=by
 refine zq Tryz.func185 y kz y y ?_
 unfold zgg at h
 refine rg y<|u<|bx 0 10 y y y y<|u<|asg y<|za ?_
 refine rg y<|u<|fa ti y y y<|u<|ld ti y y<|u<|nt y<|u<|mv y<|z7 (j:=3) 3 y y y y y gpn (fun hb1=>g y hb1<|fa ti y y y<|g y hb1<|ld ti y y<|g y hb1<|sne ti y y<|za (egA [7,8,9] 3 hb1 y y y y)) ze2<|u<|mv y<|z7 (j:=8) 3 y y y y y gpn (fun hb2=>g y hb2<|fa ti y y y<|g y hb2<|ld ti y y<|g y hb2<|eql ti y y<|za (egA [12,13,14] 3 hb2 y y y y)) ze2<|u<|mv y<|z7 (j:=13) 3 y y y y y gpn (fun hb3=>g y hb3<|fa ti y y y<|g y hb3<|ld ti y y<|g y hb3<|eql ti y y<|za (egA [17,18,19] 3 hb3 y y y y)) ze2<|u<|mv y<|z7 (j:=18) 12 y y y y y gpn (fun hb4=>g y hb4<|fa ti y y y<|g y hb4<|ld ti y y<|g y hb4<|lnI ti y y<|g y hb4<|fa ti y y y<|g y hb4<|ld ti y y<|g y hb4<|lnI ti y y<|g y hb4<|add ti y y<|g y hb4<|fa ti y y y<|g y hb4<|ld ti y y<|g y hb4<|lnI ti y y<|g y hb4<|add ti y y<|g y hb4<|eql ti y y<|za (egA [22,23,24,25,26,27,28,29,30,31,32,33] 12 hb4 y y y y)) ze2<|u<|asg y<|za ?_
 refine zj ?_
 obtain rfl:=h
 exact ⟨_,y,zy []⟩
def z8(v1:zd):Int:=
  cond v1.Static ((length v1.Params:Int)) ((IntKind.i64.wrap ((length v1.Params:Int)+1)))
theorem zhD(v1:zd){r:Int}(h:z8 v1=r):zI Tryz.prog 187 [.agg (zh v1)] (iA r):=by
 refine zq Tryz.func187 y kz y y ?_
 unfold z8 at h
 refine rg y<|u<|bx 0 10 y y y y<|u<|asg y<|za ?_
 refine zi ?_
 refine rg y<|u<|fa ti y y y<|u<|ld ti y y<|za ?_
 refine ze y (fun hc1=>?_) (fun hc1=>?_)
 ·
  replace h:=bT hc1 h
  refine rg y<|u<|fa ti y y y<|u<|ld ti y y<|u<|lnI ti y y<|u<|asg y<|za ?_
  refine zj ?_
  obtain rfl:=h
  exact ⟨_,y,zy []⟩
 ·
  replace h:=bF hc1 h
  refine zg ?_
  refine rg y<|u<|fa ti y y y<|u<|ld ti y y<|u<|lnI ti y y<|u<|add ti y y<|u<|asg y<|za ?_
  refine zj ?_
  obtain rfl:=h
  exact ⟨_,y,zy []⟩
def zn(v1:Int)(v2:Int)(v3:Int):Bool:=
  ((decide (v2≤v1))&&(decide (v1≤v3)))
theorem zaO(v1:Int)(v2:Int)(v3:Int){r:Bool}(h:zn v1 v2 v3=r):zI Tryz.prog 186 [iA v1,iA v2,iA v3] (bA r):=by
 refine zq Tryz.func186 y kz y y ?_
 unfold zn at h
 refine rg y<|u<|asg y<|za ?_
 refine rg y<|u<|mv y<|u<|mv y<|u<|geq ti y y<|u<|mv y<|z7 (j:=3) 3 y y y y y gpn (fun hb1=>g y hb1<|mv y<|g y hb1<|mv y<|g y hb1<|leq ti y y<|za (egA [11,12,13] 3 hb1 y y y y)) ze2<|u<|asg y<|za ?_
 refine zj ?_
 obtain rfl:=h
 exact ⟨_,y,zy []⟩
def zeJ(v1:zH)(v2:Int):Option (Bool):=
  (zr9 v1).bind fun v3=>some ((!v3)||((zeK v1.Op)&&(decide (v2≤v1.A))))
theorem zkN(v1:zH)(v2:Int){r:Bool}(h:zeJ v1 v2=some r):zI Tryz.prog 246 [.agg (zv v1),.ipt 1 [[iA v2]] 0 0] (bA r):=by
 refine zq Tryz.func246 y kz y y ?_
 unfold zeJ at h
 refine rg y<|u<|bx 0 4 y y y y<|u<|asg y<|za ?_
 obtain ⟨v3,q1,h⟩:=bs h
 refine rg y<|u<|ld ti y y<|u<|pc (zwx v1 q1) y y y<|u<|nt y<|u<|mv y<|zdj (j:=3) 9 y y y y y gpn (fun hb2=>g y hb2<|fa ti y y y<|g y hb2<|ld ti y y<|g y hb2<|pc (zmq v1.Op y) y y y<|g y hb2<|mv y<|z7 (j:=7) 4 y y y y y (gps y y hb2) (fun hb3=>g y hb3<|fa ti y y y<|g y hb3<|ld ti y y<|g y hb3<|ld ti y y<|g y hb3<|geq ti y y<|za (egA [12,13,14,15] 4 hb3 y y y y)) ze2<|za (egO [8,9,10,11,12,13,14,15,16] 5 hb2 y y y y)) orT<|u<|asg y<|za ?_
 refine zj ?_
 obtain rfl:=sm h
 exact ⟨_,y,zy []⟩
def zbF:Option (Int):=
  some (-1)
def zar(v1:List zH)(v2:Int)(v6:Int):Option (Sum (Int) (Sum (Unit) (Int))):=
  cond (decide (v6<(length v1:Int))) ((idx v1 v6).bind fun v7=>(zeJ v7 v2).bind fun v8=>cond v8 (some (.inr (.inr v6))) (some (.inl (IntKind.i64.wrap (v6+1))))) (some (.inr (.inl ())))
def zb4(v1:List zH)(v2:Int):Option (Int):=
  (zu (fun z=>zar v1 v2 z) 0).bind fun o=>zU o (fun b=>zbF) some
theorem zhf(v1:List zH)(v2:Int){r:Int}(h:zb4 v1 v2=some r):zI Tryz.prog 264 [.isl 4 (map zv v1),.fn (.func 246) [] [.ipt 1 [[iA v2]] 0 0]] (iA r):=by
 refine zq Tryz.func264 y kz y y ?_
 unfold zb4 at h
 refine rg y<|u<|asg y<|za ?_
 refine zi ?_
 refine rg y<|u<|mv y<|u<|lnI ti y y<|u<|mv y<|za ?_
 obtain ⟨o,ho,h⟩:=bs h
 refine zX (X:=Int) (B:=Unit) (R:=Int) (fun z=>[(0,.isl 4 (map zv v1)),(1,.fn (.func 246) [] [.ipt 1 [[iA v2]] 0 0]),(7,iA (length v1:Int)),(8,iA z)]) (fun z=>[]) (fun b=>[]) (fun b=>[]) (fun r env st=>zaN Tryz.prog Tryz.f264 0 (iA r) [] env st) ho (zo []) ?_ ?_ ?_
 ·
  rintro v6 r h
  replace h:zar v1 v2 v6=some r:=h
  unfold zar at h
  refine rg y<|u<|lss ti y y<|za ?_
  refine zi ?_
  refine ze y (fun hc5=>?_) (fun hc5=>?_)
  ·
   replace h:=bT hc5 h
   refine zg ?_
   refine zi ?_
   refine zr ?_
   refine rg y<|u<|mv y<|u<|asg y<|za ?_
   obtain ⟨v7,q6,h⟩:=bs h
   obtain ⟨v8,q7,h⟩:=bs h
   refine rg y<|u<|mv y<|u<|mv y<|u<|mv y<|u<|ixI ti y ti y y y q6<|u<|ldI ti y (zl q6).2.2 y<|u<|pc (zkN v7 v2 q7) y y y<|za ?_
   refine ze y (fun hc8=>?_) (fun hc8=>?_)
   ·
    replace h:=bT hc8 h
    refine rg y<|u<|mv y<|u<|asg y<|za ?_
    refine zj ?_
    obtain rfl:=sm h
    exact ⟨_,y,_,y,zy []⟩
   ·
    replace h:=bF hc8 h
    refine zg ?_
    refine rl y<|u<|add ti y y<|u<|mv y<|za ?_
    obtain rfl:=sm h
    exact ⟨_,y,zo []⟩
  ·
   replace h:=bF hc5 h
   refine zD ?_
   obtain rfl:=sm h
   exact ⟨y,_,y,zo []⟩
 ·
  rintro ⟨⟩ rfl
  replace h:zbF=some r:=h
  unfold zbF at h
  refine zw ?_
  refine rg y<|u<|asg y<|za ?_
  refine zj ?_
  obtain rfl:=sm h
  exact ⟨_,y,zy []⟩
 ·
  rintro r' rfl env st hp
  obtain rfl:=sm h
  exact hp
def zaV(v1:List zH)(v2:Int):Option (Bool):=
  (zb4 v1 v2).bind fun v3=>some (decide (0≤v3))
theorem zgq(v1:List zH)(v2:Int){r:Bool}(h:zaV v1 v2=some r):zI Tryz.prog 221 [.isl 4 (map zv v1),.fn (.func 246) [] [.ipt 1 [[iA v2]] 0 0]] (bA r):=by
 refine zq Tryz.func221 y kz y y ?_
 unfold zaV at h
 refine rg y<|u<|asg y<|za ?_
 obtain ⟨v3,q1,h⟩:=bs h
 refine rg y<|u<|mv y<|u<|mv y<|u<|pc (zhf v1 v2 q1) y y y<|u<|geq ti y y<|u<|asg y<|za ?_
 refine zj ?_
 obtain rfl:=sm h
 exact ⟨_,y,zy []⟩
def zep(v1:zd):Option (Bool):=
  (cond (!(zn (length v1.Code:Int) 1 100)) (some true) ((idx v1.Code (IntKind.i64.wrap ((length v1.Code:Int)-1))).bind fun v2=>some (!(ziy v2.Op)))).bind fun v3=>cond v3 (some false) ((zaV v1.Code (length v1.Code:Int)).bind fun v4=>some (!v4))
theorem zgc(v1:zd){r:Bool}(h:zep v1=some r):zI Tryz.prog 188 [.agg (zh v1)] (bA r):=by
 refine zq Tryz.func188 y kz y y ?_
 unfold zep at h
 refine rg y<|u<|bx 0 10 y y y y<|u<|asg y<|za ?_
 refine rg y<|u<|fa ti y y y<|u<|ld ti y y<|u<|lnI ti y y<|u<|al 1 ti y<|u<|sto ti y y y<|za ?_
 refine zi ?_
 obtain ⟨v3,q3,h⟩:=bs h
 refine rg y<|u<|ld ti y y<|u<|pc (zaO (length v1.Code:Int) 1 100 y) y y y<|u<|nt y<|u<|mv y<|zdj (x:=v3) (j:=3) 9 y y y y y gpn (fun hb1=>by replace q3:=bF hb1 q3;obtain ⟨v2,q2,q3⟩:=bs q3;obtain rfl:=sm q3;exact g y hb1<|fa ti y y y<|g y hb1<|ld ti y y<|g y hb1<|ld ti y y<|g y hb1<|sub ti y y<|g y hb1<|ixI ti y ti y y y q2<|g y hb1<|fa ti y y y<|g y hb1<|ldI ti y (zl q2).2.2 y<|g y hb1<|pc (zqr v2.Op y) y y y<|g y hb1<|nt y<|za (eg [11,12,13,14,15,16,17,18,19] 9 y y y y)) (fun hb=>(sm (bT hb q3)).symm)<|za ?_
 refine ze y (fun hc4=>?_) (fun hc4=>?_)
 ·
  replace h:=bT hc4 h
  refine rg y<|u<|asg y<|za ?_
  refine zj ?_
  obtain rfl:=sm h
  exact ⟨_,y,zy []⟩
 ·
  replace h:=bF hc4 h
  refine zg ?_
  obtain ⟨v4,q5,h⟩:=bs h
  refine rg y<|u<|fa ti y y y<|u<|ld ti y y<|u<|mf y y<|u<|pcs (zgq v1.Code (length v1.Code:Int) q5) y y (.cons (si y) (.cons (zhX t ⟨(zcR y ⟨(si y),t⟩),t⟩) .nil)) zcD<|u<|nt y<|u<|asg y<|za ?_
  refine zj ?_
  obtain rfl:=sm h
  exact ⟨_,y,zy []⟩
def zjV(v1:T0):Option (Bool):=
  (cond (((v1 == [73])||(v1 == [78]))||(v1 == [84])) (some true) ((zjl v1).bind fun v2=>some v2)).bind fun v3=>some v3
theorem zqM(v1:T0){r:Bool}(h:zjV v1=some r):zI Tryz.prog 248 [sA v1] (bA r):=by
 refine zq Tryz.func248 y kz y y ?_
 unfold zjV at h
 refine rg y<|u<|asg y<|za ?_
 obtain ⟨v3,q5,h⟩:=bs h
 refine rg y<|u<|mv y<|u<|seq ti y y<|u<|mv y<|zdj (j:=2) 2 y y y y y gpn (fun hb1=>g y hb1<|mv y<|g y hb1<|seq ti y y<|za (egO [6,7] 2 hb1 y y y y)) orT<|u<|mv y<|zdj (j:=6) 2 y y y y y gpn (fun hb2=>g y hb2<|mv y<|g y hb2<|seq ti y y<|za (egO [10,11] 2 hb2 y y y y)) orT<|u<|mv y<|zdj (x:=v3) (j:=10) 2 y y y y y gpn (fun hb3=>by replace q5:=bF hb3 q5;obtain ⟨v2,q4,q5⟩:=bs q5;obtain rfl:=sm q5;exact g y hb3<|mv y<|g y hb3<|pc (zkd v1 q4) y y y<|za (eg [14,15] 2 y y y y)) (fun hb=>(sm (bT hb q5)).symm)<|u<|asg y<|za ?_
 refine zj ?_
 obtain rfl:=sm h
 exact ⟨_,y,zy []⟩
def zgV(v1:T0):Option (Bool):=
  (zjV v1).bind fun v2=>some (!v2)
theorem zmF(v1:T0){r:Bool}(h:zgV v1=some r):zI Tryz.prog 245 [sA v1,.ipt 1 [[.fn (.func 248) [] []]] 0 0] (bA r):=by
 refine zq Tryz.func245 y kz y y ?_
 unfold zgV at h
 refine rg y<|u<|asg y<|za ?_
 obtain ⟨v2,q1,h⟩:=bs h
 refine rg y<|u<|ld ti y y<|u<|mv y<|u<|pc (zqM v1 q1) y y y<|u<|nt y<|u<|asg y<|za ?_
 refine zj ?_
 obtain rfl:=sm h
 exact ⟨_,y,zy []⟩
def zbs:Option (Int):=
  some (-1)
def zai(v1:T1)(v5:Int):Option (Sum (Int) (Sum (Unit) (Int))):=
  cond (decide (v5<(length v1:Int))) ((idx v1 v5).bind fun v6=>(zgV v6).bind fun v7=>cond v7 (some (.inr (.inr v5))) (some (.inl (IntKind.i64.wrap (v5+1))))) (some (.inr (.inl ())))
def zbR(v1:T1):Option (Int):=
  (zu (fun z=>zai v1 z) 0).bind fun o=>zU o (fun b=>zbs) some
theorem zgI(v1:T1){r:Int}(h:zbR v1=some r):zI Tryz.prog 110 [.isl 1 (map zf v1),.fn (.func 245) [] [.ipt 1 [[.fn (.func 248) [] []]] 0 0]] (iA r):=by
 refine zq Tryz.func110 y kz y y ?_
 unfold zbR at h
 refine rg y<|u<|asg y<|za ?_
 refine zi ?_
 refine rg y<|u<|mv y<|u<|lnI ti y y<|u<|mv y<|za ?_
 obtain ⟨o,ho,h⟩:=bs h
 refine zX (X:=Int) (B:=Unit) (R:=Int) (fun z=>[(0,.isl 1 (map zf v1)),(1,.fn (.func 245) [] [.ipt 1 [[.fn (.func 248) [] []]] 0 0]),(7,iA (length v1:Int)),(8,iA z)]) (fun z=>[]) (fun b=>[]) (fun b=>[]) (fun r env st=>zaN Tryz.prog Tryz.f110 0 (iA r) [] env st) ho (zo []) ?_ ?_ ?_
 ·
  rintro v5 r h
  replace h:zai v1 v5=some r:=h
  unfold zai at h
  refine rg y<|u<|lss ti y y<|za ?_
  refine zi ?_
  refine ze y (fun hc5=>?_) (fun hc5=>?_)
  ·
   replace h:=bT hc5 h
   refine zg ?_
   refine zi ?_
   refine zr ?_
   refine rg y<|u<|mv y<|u<|asg y<|za ?_
   obtain ⟨v6,q6,h⟩:=bs h
   obtain ⟨v7,q7,h⟩:=bs h
   refine rg y<|u<|mv y<|u<|mv y<|u<|mv y<|u<|ixI ti y ti y y y q6<|u<|ldI ti y (zl q6).2.2 y<|u<|pc (zmF v6 q7) y y y<|za ?_
   refine ze y (fun hc8=>?_) (fun hc8=>?_)
   ·
    replace h:=bT hc8 h
    refine rg y<|u<|mv y<|u<|asg y<|za ?_
    refine zj ?_
    obtain rfl:=sm h
    exact ⟨_,y,_,y,zy []⟩
   ·
    replace h:=bF hc8 h
    refine zg ?_
    refine rl y<|u<|add ti y y<|u<|mv y<|za ?_
    obtain rfl:=sm h
    exact ⟨_,y,zo []⟩
  ·
   replace h:=bF hc5 h
   refine zD ?_
   obtain rfl:=sm h
   exact ⟨y,_,y,zo []⟩
 ·
  rintro ⟨⟩ rfl
  replace h:zbs=some r:=h
  unfold zbs at h
  refine zw ?_
  refine rg y<|u<|asg y<|za ?_
  refine zj ?_
  obtain rfl:=sm h
  exact ⟨_,y,zy []⟩
 ·
  rintro r' rfl env st hp
  obtain rfl:=sm h
  exact hp
def zbp(v1:T1):Option (Bool):=
  (zbR v1).bind fun v2=>some (decide (0≤v2))
theorem zgi(v1:T1){r:Bool}(h:zbp v1=some r):zI Tryz.prog 56 [.isl 1 (map zf v1),.fn (.func 245) [] [.ipt 1 [[.fn (.func 248) [] []]] 0 0]] (bA r):=by
 refine zq Tryz.func56 y kz y y ?_
 unfold zbp at h
 refine rg y<|u<|asg y<|za ?_
 obtain ⟨v2,q1,h⟩:=bs h
 refine rg y<|u<|mv y<|u<|mv y<|u<|pc (zgI v1 q1) y y y<|u<|geq ti y y<|u<|asg y<|za ?_
 refine zj ?_
 obtain rfl:=sm h
 exact ⟨_,y,zy []⟩
def zfz(v1:T1):Option (Bool):=
  (zbp v1).bind fun v2=>some (!v2)
theorem zjX(v1:T1){r:Bool}(h:zfz v1=some r):zI Tryz.prog 183 [.isl 1 (map zf v1),.fn (.func 248) [] []] (bA r):=by
 refine zq Tryz.func183 y kz y y ?_
 unfold zfz at h
 refine rg y<|u<|bx 0 1 y y y y<|u<|asg y<|za ?_
 obtain ⟨v2,q1,h⟩:=bs h
 refine rg y<|u<|mv y<|u<|mf y y<|u<|pcs (zgi v1 q1) y y (.cons (si y) (.cons (zhX t ⟨(zcR y ⟨(si y),t⟩),t⟩) .nil)) zcD<|u<|nt y<|u<|asg y<|za ?_
 refine zj ?_
 obtain rfl:=sm h
 exact ⟨_,y,zy []⟩
def zcA:Option (Int):=
  some (-1)
def za7(v1:T1)(v2:T0)(v5:Int):Option (Sum (Int) (Sum (Unit) (Int))):=
  cond (decide (v5<(length v1:Int))) ((idx v1 v5).bind fun v6=>cond (v2 == v6) (some (.inr (.inr v5))) (some (.inl (IntKind.i64.wrap (v5+1))))) (some (.inr (.inl ())))
def zdf(v1:T1)(v2:T0):Option (Int):=
  (zu (fun z=>za7 v1 v2 z) 0).bind fun o=>zU o (fun b=>zcA) some
theorem zit(v1:T1)(v2:T0){r:Int}(h:zdf v1 v2=some r):zI Tryz.prog 193 [.isl 1 (map zf v1),sA v2] (iA r):=by
 refine zq Tryz.func193 y kz y y ?_
 unfold zdf at h
 refine rg y<|u<|asg y<|za ?_
 refine zi ?_
 refine rg y<|u<|mv y<|u<|lnI ti y y<|u<|mv y<|za ?_
 obtain ⟨o,ho,h⟩:=bs h
 refine zX (X:=Int) (B:=Unit) (R:=Int) (fun z=>[(0,.isl 1 (map zf v1)),(1,sA v2),(7,iA (length v1:Int)),(8,iA z)]) (fun z=>[]) (fun b=>[]) (fun b=>[]) (fun r env st=>zaN Tryz.prog Tryz.f193 0 (iA r) [] env st) ho (zo []) ?_ ?_ ?_
 ·
  rintro v5 r h
  replace h:za7 v1 v2 v5=some r:=h
  unfold za7 at h
  refine rg y<|u<|lss ti y y<|za ?_
  refine zi ?_
  refine ze y (fun hc4=>?_) (fun hc4=>?_)
  ·
   replace h:=bT hc4 h
   refine zg ?_
   refine zi ?_
   refine zr ?_
   refine rg y<|u<|mv y<|u<|asg y<|za ?_
   obtain ⟨v6,q5,h⟩:=bs h
   refine rg y<|u<|mv y<|u<|mv y<|u<|mv y<|u<|ixI ti y ti y y y q5<|u<|ldI ti y (zl q5).2.2 y<|u<|seq ti y y<|za ?_
   refine ze y (fun hc6=>?_) (fun hc6=>?_)
   ·
    replace h:=bT hc6 h
    refine rg y<|u<|mv y<|u<|asg y<|za ?_
    refine zj ?_
    obtain rfl:=sm h
    exact ⟨_,y,_,y,zy []⟩
   ·
    replace h:=bF hc6 h
    refine zg ?_
    refine rl y<|u<|add ti y y<|u<|mv y<|za ?_
    obtain rfl:=sm h
    exact ⟨_,y,zo []⟩
  ·
   replace h:=bF hc4 h
   refine zD ?_
   obtain rfl:=sm h
   exact ⟨y,_,y,zo []⟩
 ·
  rintro ⟨⟩ rfl
  replace h:zcA=some r:=h
  unfold zcA at h
  refine zw ?_
  refine rg y<|u<|asg y<|za ?_
  refine zj ?_
  obtain rfl:=sm h
  exact ⟨_,y,zy []⟩
 ·
  rintro r' rfl env st hp
  obtain rfl:=sm h
  exact hp
def zK(v1:T1)(v2:T0):Option (Bool):=
  (zdf v1 v2).bind fun v3=>some (decide (0≤v3))
theorem zaH(v1:T1)(v2:T0){r:Bool}(h:zK v1 v2=some r):zI Tryz.prog 113 [.isl 1 (map zf v1),sA v2] (bA r):=by
 refine zq Tryz.func113 y kz y y ?_
 unfold zK at h
 refine rg y<|u<|asg y<|za ?_
 obtain ⟨v3,q1,h⟩:=bs h
 refine rg y<|u<|mv y<|u<|mv y<|u<|pc (zit v1 v2 q1) y y y<|u<|geq ti y y<|u<|asg y<|za ?_
 refine zj ?_
 obtain rfl:=sm h
 exact ⟨_,y,zy []⟩
def zkK(v1:zd):Option (Bool):=
  some (decide ((length v1.Maps:Int)≤100))
def zeA(v1:zd)(v12:Int)(v13:zas)(v15:Bool):Option (Sum (Int) (Sum (Unit) (Bool))):=
  cond v15 (some (.inr (.inr false))) ((cond ((!((length v13.Locals:Int) == v1.Locals))||(decide (v1.Stack<(length v13.Stack:Int)))) (some true) ((zfz v13.Locals).bind fun v16=>some (!v16))).bind fun v17=>(cond v17 (some true) ((zfz v13.Stack).bind fun v18=>some (!v18))).bind fun v19=>(cond v19 (some true) ((zK v13.Stack [84]).bind fun v20=>some v20)).bind fun v21=>cond v21 (some (.inr (.inr false))) (some (.inl (IntKind.i64.wrap (v12+1)))))
def zev(v1:zd)(v12:Int):Option (Sum (Int) (Sum (Unit) (Bool))):=
  cond (decide (v12<(length v1.Maps:Int))) ((idx v1.Maps v12).bind fun v13=>cond (!(zn v13.At 0 (IntKind.i64.wrap ((length v1.Code:Int)-1)))) (zeA v1 v12 v13 true) (cond (decide (0<v12)) ((idx v1.Maps (IntKind.i64.wrap (v12-1))).bind fun v14=>zeA v1 v12 v13 (decide (v13.At≤v14.At))) (zeA v1 v12 v13 false))) (some (.inr (.inl ())))
def zjO(v1:zd):Option (Bool):=
  (zu (fun z=>zev v1 z) 0).bind fun o=>zU o (fun b=>zkK v1) some
theorem zni(v1:zd){r:Bool}(h:zjO v1=some r):zI Tryz.prog 189 [.agg (zh v1)] (bA r):=by
 refine zq Tryz.func189 y kz y y ?_
 unfold zjO at h
 refine rg y<|u<|bx 0 10 y y y y<|u<|asg y<|za ?_
 refine zi ?_
 refine rg y<|u<|fa ti y y y<|u<|ld ti y y<|u<|lnI ti y y<|u<|mv y<|za ?_
 obtain ⟨o,ho,h⟩:=bs h
 refine zX (X:=Int) (B:=Unit) (R:=Bool) (fun z=>[(1,.mpt 0 0 0),(6,.isl 3 (map zP v1.Maps)),(7,iA (length v1.Maps:Int)),(8,iA z)]) (fun z=>[some (10,[(zh v1)])]) (fun b=>[(1,.mpt 0 0 0)]) (fun b=>[some (10,[(zh v1)])]) (fun r env st=>zaN Tryz.prog Tryz.f189 0 (bA r) [] env st) ho (zo [.old 0]) ?_ ?_ ?_
 ·
  rintro v12 r h
  replace h:zev v1 v12=some r:=h
  unfold zev at h
  refine rg y<|u<|lss ti y y<|za ?_
  refine zi ?_
  refine ze y (fun hc18=>?_) (fun hc18=>?_)
  ·
   replace h:=bT hc18 h
   refine zg ?_
   refine zi ?_
   refine zr ?_
   obtain ⟨v13,q19,h⟩:=bs h
   refine rg y<|u<|mv y<|u<|ixI ti y ti y y y q19<|u<|ldI ti y (zl q19).2.2 y<|u<|al 1 ti y<|u<|asg y<|u<|sto ti y y y<|za ?_
   refine zi ?_
   refine za6 (X:=Bool) (fun z=>[(1,.mpt 0 0 0),(4,.mpt 1 0 0),(6,.isl 3 (map zP v1.Maps)),(7,iA (length v1.Maps:Int)),(8,iA v12),(36,bA z)]) (fun z=>[some (10,[(zh v1)]),some (3,[(zP v13)])]) (fun z=>zeA v1 v12 v13 z=some r) ?_ ?_
   ·
    rcases bb (!(zn v13.At 0 (IntKind.i64.wrap ((length v1.Code:Int)-1)))) with hb20 |hb20
    ·
     replace h:=bT hb20 h
     exact zae [] [23,22,21,20,19,18,17,16,15,14,13,12,11,10,9,8,7,6,5,4,3,2,1,0] [(36,bA true),(35,.lit undef),(34,.lit undef),(33,.lit undef),(32,.lit undef),(31,.lit undef),(30,.lit undef),(29,.lit undef),(28,.lit undef),(27,.lit undef),(26,.lit undef),(25,.lit undef),(24,.lit undef),(23,.lit undef),(22,.lit undef),(21,bA (!(zn v13.At 0 (IntKind.i64.wrap ((length v1.Code:Int)-1))))),(20,bA (!(zn v13.At 0 (IntKind.i64.wrap ((length v1.Code:Int)-1))))),(19,bA (zn v13.At 0 (IntKind.i64.wrap ((length v1.Code:Int)-1)))),(18,iA (IntKind.i64.wrap ((length v1.Code:Int)-1))),(17,iA (length v1.Code:Int)),(16,.isl 4 (map zv v1.Code)),(15,.mpt 0 0 7),(14,iA v13.At),(13,.mpt 1 0 0)] 0 kz kz y kz (zht ⟨pe,pe,pe,pe,pe,pe,pe,pe,pe,pe,pe,pe,pe,pe,pe,pe,pe,(pb y (pc (zaO v13.At 0 (IntKind.i64.wrap ((length v1.Code:Int)-1)) y) y y y w)),(pb y (sub ti y y w)),(pb y (lnI ti y y w)),pe,pe,pe,pe,t⟩ ⟨true,h,zo [.old 0,.old 1]⟩)
    ·
     replace h:=bF hb20 h
     rcases bb (decide (0<v12)) with hb21 |hb21
     ·
      replace h:=bT hb21 h
      obtain ⟨v14,q22,h⟩:=bs h
      exact zae [] [23,22,21,20,19,18,17,16,15,14,13,12,11,10,9,8,7,6,5,4,3,2,1,0] [(36,bA (decide (v13.At≤v14.At))),(35,bA (decide (v13.At≤v14.At))),(34,bA (decide (v13.At≤v14.At))),(33,iA v13.At),(32,.mpt 1 0 0),(31,iA v14.At),(30,.ipt 3 (map zP v1.Maps) (Int.toNat (IntKind.i64.wrap (v12-1))) 0),(29,.ipt 3 (map zP v1.Maps) (Int.toNat (IntKind.i64.wrap (v12-1))) 0),(28,iA (IntKind.i64.wrap (v12-1))),(27,iA v12),(26,.isl 3 (map zP v1.Maps)),(25,.mpt 0 0 8),(24,bA (decide (0<v12))),(23,bA (decide (0<v12))),(22,iA v12),(21,bA (!(zn v13.At 0 (IntKind.i64.wrap ((length v1.Code:Int)-1))))),(20,bA (!(zn v13.At 0 (IntKind.i64.wrap ((length v1.Code:Int)-1))))),(19,bA (zn v13.At 0 (IntKind.i64.wrap ((length v1.Code:Int)-1)))),(18,iA (IntKind.i64.wrap ((length v1.Code:Int)-1))),(17,iA (length v1.Code:Int)),(16,.isl 4 (map zv v1.Code)),(15,.mpt 0 0 7),(14,iA v13.At),(13,.mpt 1 0 0)] 0 kz kz y kz (zht ⟨pe,pe,pe,pe,pe,(fun _=>pag (b:=(decide (0<v12))) y y y y hb21 y (ldI ti y (zl q22).2.2 y<|w)),pe,(fun _=>pag (b:=(decide (0<v12))) y y y y hb21 y (ixI ti y ti y y y q22<|w)),(fun _=>pag (b:=(decide (0<v12))) y y y y hb21 y (sub ti y y<|w)),pe,pe,pe,pe,pe,pe,pe,pe,(pb y (pc (zaO v13.At 0 (IntKind.i64.wrap ((length v1.Code:Int)-1)) y) y y y w)),(pb y (sub ti y y w)),(pb y (lnI ti y y w)),pe,pe,pe,pe,t⟩ ⟨(decide (v13.At≤v14.At)),h,zo [.old 0,.old 1]⟩)
     ·
      replace h:=bF hb21 h
      exact zae [] [23,22,21,20,19,18,17,16,15,14,13,12,11,10,9,8,7,6,5,4,3,2,1,0] [(36,bA false),(35,bA false),(34,.lit undef),(33,.lit undef),(32,.lit undef),(31,.lit undef),(30,.lit undef),(29,.lit undef),(28,.lit undef),(27,.lit undef),(26,.lit undef),(25,.lit undef),(24,bA (decide (0<v12))),(23,bA (decide (0<v12))),(22,iA v12),(21,bA (!(zn v13.At 0 (IntKind.i64.wrap ((length v1.Code:Int)-1))))),(20,bA (!(zn v13.At 0 (IntKind.i64.wrap ((length v1.Code:Int)-1))))),(19,bA (zn v13.At 0 (IntKind.i64.wrap ((length v1.Code:Int)-1)))),(18,iA (IntKind.i64.wrap ((length v1.Code:Int)-1))),(17,iA (length v1.Code:Int)),(16,.isl 4 (map zv v1.Code)),(15,.mpt 0 0 7),(14,iA v13.At),(13,.mpt 1 0 0)] 0 kz kz y kz (zht ⟨pe,pe,pe,pe,pe,pe,pe,pe,pe,pe,pe,pe,pe,pe,pe,pe,pe,(pb y (pc (zaO v13.At 0 (IntKind.i64.wrap ((length v1.Code:Int)-1)) y) y y y w)),(pb y (sub ti y y w)),(pb y (lnI ti y y w)),pe,pe,pe,pe,t⟩ ⟨false,h,zo [.old 0,.old 1]⟩)
   ·
    rintro v15 h
    replace h:zeA v1 v12 v13 v15=some r:=h
    unfold zeA at h
    refine ze y (fun hc23=>?_) (fun hc23=>?_)
    ·
     replace h:=bT hc23 h
     refine rg y<|u<|asg y<|za ?_
     refine zj ?_
     obtain rfl:=sm h
     exact ⟨_,y,_,y,zy []⟩
    ·
     replace h:=bF hc23 h
     refine zg ?_
     obtain ⟨v17,q27,h⟩:=bs h
     obtain ⟨v19,q30,h⟩:=bs h
     obtain ⟨v21,q33,h⟩:=bs h
     refine rg y<|u<|fa ti y y y<|u<|ld ti y y<|u<|lnI ti y y<|u<|fa ti y y y<|u<|ld ti y y<|u<|neq ti y y<|u<|mv y<|zdj (j:=6) 6 y y y y y gpn (fun hb24=>g y hb24<|fa ti y y y<|g y hb24<|ld ti y y<|g y hb24<|lnI ti y y<|g y hb24<|fa ti y y y<|g y hb24<|ld ti y y<|g y hb24<|gtr ti y y<|za (egO [44,45,46,47,48,49] 6 hb24 y y y y)) orT<|u<|mv y<|zdj (x:=v17) (j:=14) 4 y y y y y gpn (fun hb25=>by replace q27:=bF hb25 q27;obtain ⟨v16,q26,q27⟩:=bs q27;obtain rfl:=sm q27;exact g y hb25<|fa ti y y y<|g y hb25<|ld ti y y<|g y hb25<|pc (zjX v13.Locals q26) y y y<|g y hb25<|nt y<|za (eg [52,53,54,55] 4 y y y y)) (fun hb=>(sm (bT hb q27)).symm)<|u<|mv y<|zdj (x:=v19) (j:=20) 4 y y y y y gpn (fun hb28=>by replace q30:=bF hb28 q30;obtain ⟨v18,q29,q30⟩:=bs q30;obtain rfl:=sm q30;exact g y hb28<|fa ti y y y<|g y hb28<|ld ti y y<|g y hb28<|pc (zjX v13.Stack q29) y y y<|g y hb28<|nt y<|za (eg [58,59,60,61] 4 y y y y)) (fun hb=>(sm (bT hb q30)).symm)<|u<|mv y<|zdj (x:=v21) (j:=26) 3 y y y y y gpn (fun hb31=>by replace q33:=bF hb31 q33;obtain ⟨v20,q32,q33⟩:=bs q33;obtain rfl:=sm q33;exact g y hb31<|fa ti y y y<|g y hb31<|ld ti y y<|g y hb31<|pc (zaH v13.Stack [84] q32) y y y<|za (eg [64,65,66] 3 y y y y)) (fun hb=>(sm (bT hb q33)).symm)<|za ?_
     refine ze y (fun hc34=>?_) (fun hc34=>?_)
     ·
      replace h:=bT hc34 h
      refine rg y<|u<|asg y<|za ?_
      refine zj ?_
      obtain rfl:=sm h
      exact ⟨_,y,_,y,zy []⟩
     ·
      replace h:=bF hc34 h
      refine zg ?_
      refine rl y<|u<|add ti y y<|u<|mv y<|za ?_
      obtain rfl:=sm h
      exact ⟨_,y,zo [.old 0]⟩
  ·
   replace h:=bF hc18 h
   refine zD ?_
   obtain rfl:=sm h
   exact ⟨y,_,y,zo [.old 0]⟩
 ·
  rintro ⟨⟩ rfl
  replace h:zkK v1=some r:=h
  unfold zkK at h
  refine zw ?_
  refine rg y<|u<|fa ti y y y<|u<|ld ti y y<|u<|lnI ti y y<|u<|leq ti y y<|u<|asg y<|za ?_
  refine zj ?_
  obtain rfl:=sm h
  exact ⟨_,y,zy []⟩
 ·
  rintro r' rfl env st hp
  obtain rfl:=sm h
  exact hp
def ziK(v1:zbe)(v2:T0)(v3:T1)(v4:T0)(v5:Bool)(v6:Bool)(v7:Int)(v8:Int)(v9:List zH)(v10:List zas)(v11:List zbe):Option (Bool):=
  (cond ((((decide (v1.From<0))||(decide (v1.To≤v1.From)))||(decide ((length v9:Int)<v1.To)))||(!(zn v1.At 0 (IntKind.i64.wrap ((length v9:Int)-1))))) (some true) ((cond (!(v1.C == [])) ((zfw v1.C).bind fun v12=>some (!v12)) (some false)).bind fun v13=>some v13)).bind fun v14=>some v14
theorem zoE(v1:zbe)(v2:T0)(v3:T1)(v4:T0)(v5:Bool)(v6:Bool)(v7:Int)(v8:Int)(v9:List zH)(v10:List zas)(v11:List zbe){r:Bool}(h:ziK v1 v2 v3 v4 v5 v6 v7 v8 v9 v10 v11=some r):zI Tryz.prog 249 [.agg (zbL v1),.ipt 10 [[sA v2,.isl 1 (map zf v3),sA v4,bA v5,bA v6,iA v7,iA v8,.isl 4 (map zv v9),.isl 3 (map zP v10),.isl 4 (map zbL v11)]] 0 0] (bA r):=by
 refine zq Tryz.func249 y kz y y ?_
 unfold ziK at h
 refine rg y<|u<|bx 0 4 y y y y<|u<|asg y<|za ?_
 obtain ⟨v14,q8,h⟩:=bs h
 refine rg y<|u<|fa ti y y y<|u<|ld ti y y<|u<|lss ti y y<|u<|mv y<|zdj (j:=3) 5 y y y y y gpn (fun hb1=>g y hb1<|fa ti y y y<|g y hb1<|ld ti y y<|g y hb1<|fa ti y y y<|g y hb1<|ld ti y y<|g y hb1<|geq ti y y<|za (egO [8,9,10,11,12] 5 hb1 y y y y)) orT<|u<|mv y<|zdj (j:=10) 6 y y y y y gpn (fun hb2=>g y hb2<|fa ti y y y<|g y hb2<|ld ti y y<|g y hb2<|fa ti y y y<|g y hb2<|ld ti y y<|g y hb2<|lnI ti y y<|g y hb2<|gtr ti y y<|za (egO [15,16,17,18,19,20] 6 hb2 y y y y)) orT<|u<|mv y<|zdj (j:=18) 8 y y y y y gpn (fun hb3=>g y hb3<|fa ti y y y<|g y hb3<|ld ti y y<|g y hb3<|fa ti y y y<|g y hb3<|ld ti y y<|g y hb3<|lnI ti y y<|g y hb3<|sub ti y y<|g y hb3<|pc (zaO v1.At 0 (IntKind.i64.wrap ((length v9:Int)-1)) y) y y y<|g y hb3<|nt y<|za (egO [23,24,25,26,27,28,29,30] 8 hb3 y y y y)) orT<|u<|mv y<|zdj (x:=v14) (j:=28) 9 y y y y y gpn (fun hb4=>by replace q8:=bF hb4 q8;obtain ⟨v13,q7,q8⟩:=bs q8;obtain rfl:=sm q8;exact g y hb4<|fa ti y y y<|g y hb4<|ld ti y y<|g y hb4<|sne ti y y<|g y hb4<|mv y<|z7 (x:=v13) (j:=32) 4 y y y y y (gps y y hb4) (fun hb5=>by replace q7:=bT hb5 q7;obtain ⟨v12,q6,q7⟩:=bs q7;obtain rfl:=sm q7;exact g y hb5<|fa ti y y y<|g y hb5<|ld ti y y<|g y hb5<|pc (zgw v1.C q6) y y y<|g y hb5<|nt y<|za (eg [37,38,39,40] 4 y y y y)) (fun hb=>(sm (bF hb q7)).symm)<|za (eg [33,34,35,36,37,38,39,40,41] 5 y y y y)) (fun hb=>(sm (bT hb q8)).symm)<|u<|asg y<|za ?_
 refine zj ?_
 obtain rfl:=sm h
 exact ⟨_,y,zy []⟩
def zbh:Option (Int):=
  some (-1)
def zag(v1:List zbe)(v2:T0)(v3:T1)(v4:T0)(v5:Bool)(v6:Bool)(v7:Int)(v8:Int)(v9:List zH)(v10:List zas)(v11:List zbe)(v15:Int):Option (Sum (Int) (Sum (Unit) (Int))):=
  cond (decide (v15<(length v1:Int))) ((idx v1 v15).bind fun v16=>(ziK v16 v2 v3 v4 v5 v6 v7 v8 v9 v10 v11).bind fun v17=>cond v17 (some (.inr (.inr v15))) (some (.inl (IntKind.i64.wrap (v15+1))))) (some (.inr (.inl ())))
def zbK(v1:List zbe)(v2:T0)(v3:T1)(v4:T0)(v5:Bool)(v6:Bool)(v7:Int)(v8:Int)(v9:List zH)(v10:List zas)(v11:List zbe):Option (Int):=
  (zu (fun z=>zag v1 v2 v3 v4 v5 v6 v7 v8 v9 v10 v11 z) 0).bind fun o=>zU o (fun b=>zbh) some
theorem zgC(v1:List zbe)(v2:T0)(v3:T1)(v4:T0)(v5:Bool)(v6:Bool)(v7:Int)(v8:Int)(v9:List zH)(v10:List zas)(v11:List zbe){r:Int}(h:zbK v1 v2 v3 v4 v5 v6 v7 v8 v9 v10 v11=some r):zI Tryz.prog 263 [.isl 4 (map zbL v1),.fn (.func 249) [] [.ipt 10 [[sA v2,.isl 1 (map zf v3),sA v4,bA v5,bA v6,iA v7,iA v8,.isl 4 (map zv v9),.isl 3 (map zP v10),.isl 4 (map zbL v11)]] 0 0]] (iA r):=by
 refine zq Tryz.func263 y kz y y ?_
 unfold zbK at h
 refine rg y<|u<|asg y<|za ?_
 refine zi ?_
 refine rg y<|u<|mv y<|u<|lnI ti y y<|u<|mv y<|za ?_
 obtain ⟨o,ho,h⟩:=bs h
 refine zX (X:=Int) (B:=Unit) (R:=Int) (fun z=>[(0,.isl 4 (map zbL v1)),(1,.fn (.func 249) [] [.ipt 10 [[sA v2,.isl 1 (map zf v3),sA v4,bA v5,bA v6,iA v7,iA v8,.isl 4 (map zv v9),.isl 3 (map zP v10),.isl 4 (map zbL v11)]] 0 0]),(7,iA (length v1:Int)),(8,iA z)]) (fun z=>[]) (fun b=>[]) (fun b=>[]) (fun r env st=>zaN Tryz.prog Tryz.f263 0 (iA r) [] env st) ho (zo []) ?_ ?_ ?_
 ·
  rintro v15 r h
  replace h:zag v1 v2 v3 v4 v5 v6 v7 v8 v9 v10 v11 v15=some r:=h
  unfold zag at h
  refine rg y<|u<|lss ti y y<|za ?_
  refine zi ?_
  refine ze y (fun hc5=>?_) (fun hc5=>?_)
  ·
   replace h:=bT hc5 h
   refine zg ?_
   refine zi ?_
   refine zr ?_
   refine rg y<|u<|mv y<|u<|asg y<|za ?_
   obtain ⟨v16,q6,h⟩:=bs h
   obtain ⟨v17,q7,h⟩:=bs h
   refine rg y<|u<|mv y<|u<|mv y<|u<|mv y<|u<|ixI ti y ti y y y q6<|u<|ldI ti y (zl q6).2.2 y<|u<|pc (zoE v16 v2 v3 v4 v5 v6 v7 v8 v9 v10 v11 q7) y y y<|za ?_
   refine ze y (fun hc8=>?_) (fun hc8=>?_)
   ·
    replace h:=bT hc8 h
    refine rg y<|u<|mv y<|u<|asg y<|za ?_
    refine zj ?_
    obtain rfl:=sm h
    exact ⟨_,y,_,y,zy []⟩
   ·
    replace h:=bF hc8 h
    refine zg ?_
    refine rl y<|u<|add ti y y<|u<|mv y<|za ?_
    obtain rfl:=sm h
    exact ⟨_,y,zo []⟩
  ·
   replace h:=bF hc5 h
   refine zD ?_
   obtain rfl:=sm h
   exact ⟨y,_,y,zo []⟩
 ·
  rintro ⟨⟩ rfl
  replace h:zbh=some r:=h
  unfold zbh at h
  refine zw ?_
  refine rg y<|u<|asg y<|za ?_
  refine zj ?_
  obtain rfl:=sm h
  exact ⟨_,y,zy []⟩
 ·
  rintro r' rfl env st hp
  obtain rfl:=sm h
  exact hp
def zbi(v1:List zbe)(v2:T0)(v3:T1)(v4:T0)(v5:Bool)(v6:Bool)(v7:Int)(v8:Int)(v9:List zH)(v10:List zas)(v11:List zbe):Option (Bool):=
  (zbK v1 v2 v3 v4 v5 v6 v7 v8 v9 v10 v11).bind fun v12=>some (decide (0≤v12))
theorem zfL(v1:List zbe)(v2:T0)(v3:T1)(v4:T0)(v5:Bool)(v6:Bool)(v7:Int)(v8:Int)(v9:List zH)(v10:List zas)(v11:List zbe){r:Bool}(h:zbi v1 v2 v3 v4 v5 v6 v7 v8 v9 v10 v11=some r):zI Tryz.prog 219 [.isl 4 (map zbL v1),.fn (.func 249) [] [.ipt 10 [[sA v2,.isl 1 (map zf v3),sA v4,bA v5,bA v6,iA v7,iA v8,.isl 4 (map zv v9),.isl 3 (map zP v10),.isl 4 (map zbL v11)]] 0 0]] (bA r):=by
 refine zq Tryz.func219 y kz y y ?_
 unfold zbi at h
 refine rg y<|u<|asg y<|za ?_
 obtain ⟨v12,q1,h⟩:=bs h
 refine rg y<|u<|mv y<|u<|mv y<|u<|pc (zgC v1 v2 v3 v4 v5 v6 v7 v8 v9 v10 v11 q1) y y y<|u<|geq ti y y<|u<|asg y<|za ?_
 refine zj ?_
 obtain rfl:=sm h
 exact ⟨_,y,zy []⟩
def zi4(v1:zd):Option (Bool):=
  (zbi v1.Traps v1.Name v1.Params v1.Ret v1.Static v1.Abstract v1.Locals v1.Stack v1.Code v1.Maps v1.Traps).bind fun v2=>some ((!v2)&&(decide ((length v1.Traps:Int)≤6)))
theorem zp9(v1:zd){r:Bool}(h:zi4 v1=some r):zI Tryz.prog 190 [.agg (zh v1)] (bA r):=by
 refine zq Tryz.func190 y kz y y ?_
 unfold zi4 at h
 refine rg y<|u<|bx 0 10 y y y y<|u<|asg y<|za ?_
 obtain ⟨v2,q1,h⟩:=bs h
 refine rg y<|u<|fa ti y y y<|u<|ld ti y y<|u<|mf y y<|u<|pcs (zfL v1.Traps v1.Name v1.Params v1.Ret v1.Static v1.Abstract v1.Locals v1.Stack v1.Code v1.Maps v1.Traps q1) y y (.cons (si y) (.cons (zhX t ⟨(zcR y ⟨(si y),(si y),(si y),(si y),(si y),(si y),(si y),(si y),(si y),(si y),t⟩),t⟩) .nil)) zcD<|u<|asg y<|za ?_
 refine rg y<|u<|mv y<|u<|nt y<|u<|mv y<|z7 (j:=2) 4 y y y y y gpn (fun hb2=>g y hb2<|fa ti y y y<|g y hb2<|ld ti y y<|g y hb2<|lnI ti y y<|g y hb2<|leq ti y y<|za (egA [11,12,13,14] 4 hb2 y y y y)) ze2<|u<|asg y<|za ?_
 refine zj ?_
 obtain rfl:=sm h
 exact ⟨_,y,zy []⟩
def zdF(v10:Bool):Option (Bool):=
  some v10
def zim(v1:zd):Option (Bool):=
  (ziU v1.Name).bind fun v2=>(cond ((!v2)||(decide (6<(length v1.Params:Int)))) (some true) ((zi7 v1.Params).bind fun v3=>some (!v3))).bind fun v4=>(cond v4 (some true) ((zny v1.Ret).bind fun v5=>some (!v5))).bind fun v6=>cond v6 (some false) (cond v1.Abstract (some (zgg v1)) (cond ((v1.Name == [36,105,110,105,116])&&(((!v1.Static)||(decide (0<(length v1.Params:Int))))||(!(v1.Ret == [86])))) (some false) (cond (zn v1.Locals (z8 v1) 16) (cond (zn v1.Stack 0 16) ((zep v1).bind fun v7=>cond v7 ((zjO v1).bind fun v8=>cond v8 ((zi4 v1).bind fun v9=>zdF v9) (zdF false)) (zdF false)) (zdF false)) (zdF false))))
theorem zpL(v1:zd){r:Bool}(h:zim v1=some r):zI Tryz.prog 106 [.agg (zh v1)] (bA r):=by
 refine zq Tryz.func106 y kz y y ?_
 unfold zim at h
 refine rg y<|u<|bx 0 10 y y y y<|u<|asg y<|za ?_
 refine zi ?_
 obtain ⟨v2,q1,h⟩:=bs h
 obtain ⟨v4,q5,h⟩:=bs h
 obtain ⟨v6,q8,h⟩:=bs h
 refine rg y<|u<|fa ti y y y<|u<|ld ti y y<|u<|pc (zlq v1.Name q1) y y y<|u<|nt y<|u<|mv y<|zdj (j:=4) 4 y y y y y gpn (fun hb2=>g y hb2<|fa ti y y y<|g y hb2<|ld ti y y<|g y hb2<|lnI ti y y<|g y hb2<|gtr ti y y<|za (egO [8,9,10,11] 4 hb2 y y y y)) orT<|u<|mv y<|zdj (x:=v4) (j:=10) 4 y y y y y gpn (fun hb3=>by replace q5:=bF hb3 q5;obtain ⟨v3,q4,q5⟩:=bs q5;obtain rfl:=sm q5;exact g y hb3<|fa ti y y y<|g y hb3<|ld ti y y<|g y hb3<|pc (zp7 v1.Params q4) y y y<|g y hb3<|nt y<|za (eg [14,15,16,17] 4 y y y y)) (fun hb=>(sm (bT hb q5)).symm)<|u<|mv y<|zdj (x:=v6) (j:=16) 4 y y y y y gpn (fun hb6=>by replace q8:=bF hb6 q8;obtain ⟨v5,q7,q8⟩:=bs q8;obtain rfl:=sm q8;exact g y hb6<|fa ti y y y<|g y hb6<|ld ti y y<|g y hb6<|pc (zth v1.Ret q7) y y y<|g y hb6<|nt y<|za (eg [20,21,22,23] 4 y y y y)) (fun hb=>(sm (bT hb q8)).symm)<|za ?_
 refine ze y (fun hc9=>?_) (fun hc9=>?_)
 ·
  replace h:=bT hc9 h
  refine rg y<|u<|asg y<|za ?_
  refine zj ?_
  obtain rfl:=sm h
  exact ⟨_,y,zy []⟩
 ·
  replace h:=bF hc9 h
  refine zg ?_
  refine zi ?_
  refine rg y<|u<|fa ti y y y<|u<|ld ti y y<|za ?_
  refine ze y (fun hc10=>?_) (fun hc10=>?_)
  ·
   replace h:=bT hc10 h
   refine rg y<|u<|ld ti y y<|u<|pc (zp4 v1 y) y y y<|u<|asg y<|za ?_
   refine zj ?_
   obtain rfl:=sm h
   exact ⟨_,y,zy []⟩
  ·
   replace h:=bF hc10 h
   refine zg ?_
   refine zi ?_
   refine rg y<|u<|fa ti y y y<|u<|ld ti y y<|u<|seq ti y y<|u<|mv y<|z7 (j:=3) 14 y y y y y gpn (fun hb11=>g y hb11<|fa ti y y y<|g y hb11<|ld ti y y<|g y hb11<|nt y<|g y hb11<|mv y<|zdj (j:=7) 4 y y y y y (gps y y hb11) (fun hb12=>g y hb12<|fa ti y y y<|g y hb12<|ld ti y y<|g y hb12<|lnI ti y y<|g y hb12<|gtr ti y y<|za (egO [37,38,39,40] 4 hb12 y y y y)) orT<|g y hb11<|mv y<|zdj (j:=13) 3 y y y y y (gps y y hb11) (fun hb13=>g y hb13<|fa ti y y y<|g y hb13<|ld ti y y<|g y hb13<|sne ti y y<|za (egO [43,44,45] 3 hb13 y y y y)) orT<|za (egA [33,34,35,36,37,38,39,40,41,42,43,44,45,46] 7 hb11 y y y y)) ze2<|za ?_
   refine ze y (fun hc14=>?_) (fun hc14=>?_)
   ·
    replace h:=bT hc14 h
    refine rg y<|u<|asg y<|za ?_
    refine zj ?_
    obtain rfl:=sm h
    exact ⟨_,y,zy []⟩
   ·
    replace h:=bF hc14 h
    refine zg ?_
    refine za6 (X:=Bool) (fun z=>[(2,bA z)]) (fun z=>[]) (fun z=>zdF z=some r) ?_ ?_
    ·
     rcases bb (zn v1.Locals (z8 v1) 16) with hb15 |hb15
     ·
      replace h:=bT hb15 h
      rcases bb (zn v1.Stack 0 16) with hb16 |hb16
      ·
       replace h:=bT hb16 h
       obtain ⟨v7,q17,h⟩:=bs h
       rcases bb v7 with hb18 |hb18
       ·
        replace h:=bT hb18 h
        obtain ⟨v8,q19,h⟩:=bs h
        rcases bb v8 with hb20 |hb20
        ·
         replace h:=bT hb20 h
         obtain ⟨v9,q21,h⟩:=bs h
         exact zae [] [22,21,20,19,18,17,16,15,14,13,12,11,10,9,8,7,6,5,4,3,2,1,0] [(2,bA v9),(69,bA v9),(68,bA v9),(67,.agg (zh v1)),(66,bA v8),(65,bA v8),(64,bA v8),(63,.agg (zh v1)),(62,bA v7),(61,bA v7),(60,bA v7),(59,.agg (zh v1)),(58,bA (zn v1.Stack 0 16)),(57,bA (zn v1.Stack 0 16)),(56,bA (zn v1.Stack 0 16)),(55,iA v1.Stack),(54,.mpt 0 0 6),(53,bA (zn v1.Locals (z8 v1) 16)),(52,bA (zn v1.Locals (z8 v1) 16)),(51,iA (z8 v1)),(50,.agg (zh v1)),(49,iA v1.Locals),(48,.mpt 0 0 5)] 0 kz kz y kz (zht ⟨pe,pe,(fun _=>pag (b:=v8) y y y y hb20 y (pc (zp9 v1 q21) y y y<|w)),pe,pe,pe,(fun _=>pag (b:=v7) y y y y hb18 y (pc (zni v1 q19) y y y<|w)),pe,pe,pe,(fun _=>pag (b:=(zn v1.Stack 0 16)) y y y y hb16 y (pc (zgc v1 q17) y y y<|w)),pe,pe,pe,(fun _=>pag (b:=(zn v1.Locals (z8 v1) 16)) y y y y hb15 y (pc (zaO v1.Stack 0 16 y) y y y<|w)),pe,pe,pe,(pb y (pc (zaO v1.Locals (z8 v1) 16 y) y y y w)),(pb y (pc (zhD v1 y) y y y w)),pe,pe,pe,t⟩ ⟨v9,h,zo []⟩)
        ·
         replace h:=bF hb20 h
         exact zae [] [22,21,20,19,18,17,16,15,14,13,12,11,10,9,8,7,6,5,4,3,2,1,0] [(2,bA false),(69,bA false),(68,.lit undef),(67,.lit undef),(66,bA v8),(65,bA v8),(64,bA v8),(63,.agg (zh v1)),(62,bA v7),(61,bA v7),(60,bA v7),(59,.agg (zh v1)),(58,bA (zn v1.Stack 0 16)),(57,bA (zn v1.Stack 0 16)),(56,bA (zn v1.Stack 0 16)),(55,iA v1.Stack),(54,.mpt 0 0 6),(53,bA (zn v1.Locals (z8 v1) 16)),(52,bA (zn v1.Locals (z8 v1) 16)),(51,iA (z8 v1)),(50,.agg (zh v1)),(49,iA v1.Locals),(48,.mpt 0 0 5)] 0 kz kz y kz (zht ⟨pe,pe,pe,pe,pe,pe,(fun _=>pag (b:=v7) y y y y hb18 y (pc (zni v1 q19) y y y<|w)),pe,pe,pe,(fun _=>pag (b:=(zn v1.Stack 0 16)) y y y y hb16 y (pc (zgc v1 q17) y y y<|w)),pe,pe,pe,(fun _=>pag (b:=(zn v1.Locals (z8 v1) 16)) y y y y hb15 y (pc (zaO v1.Stack 0 16 y) y y y<|w)),pe,pe,pe,(pb y (pc (zaO v1.Locals (z8 v1) 16 y) y y y w)),(pb y (pc (zhD v1 y) y y y w)),pe,pe,pe,t⟩ ⟨false,h,zo []⟩)
       ·
        replace h:=bF hb18 h
        exact zae [] [22,21,20,19,18,17,16,15,14,13,12,11,10,9,8,7,6,5,4,3,2,1,0] [(2,bA false),(69,bA false),(68,.lit undef),(67,.lit undef),(66,bA false),(65,bA false),(64,.lit undef),(63,.lit undef),(62,bA v7),(61,bA v7),(60,bA v7),(59,.agg (zh v1)),(58,bA (zn v1.Stack 0 16)),(57,bA (zn v1.Stack 0 16)),(56,bA (zn v1.Stack 0 16)),(55,iA v1.Stack),(54,.mpt 0 0 6),(53,bA (zn v1.Locals (z8 v1) 16)),(52,bA (zn v1.Locals (z8 v1) 16)),(51,iA (z8 v1)),(50,.agg (zh v1)),(49,iA v1.Locals),(48,.mpt 0 0 5)] 0 kz kz y kz (zht ⟨pe,pe,pe,pe,pe,pe,pe,pe,pe,pe,(fun _=>pag (b:=(zn v1.Stack 0 16)) y y y y hb16 y (pc (zgc v1 q17) y y y<|w)),pe,pe,pe,(fun _=>pag (b:=(zn v1.Locals (z8 v1) 16)) y y y y hb15 y (pc (zaO v1.Stack 0 16 y) y y y<|w)),pe,pe,pe,(pb y (pc (zaO v1.Locals (z8 v1) 16 y) y y y w)),(pb y (pc (zhD v1 y) y y y w)),pe,pe,pe,t⟩ ⟨false,h,zo []⟩)
      ·
       replace h:=bF hb16 h
       exact zae [] [22,21,20,19,18,17,16,15,14,13,12,11,10,9,8,7,6,5,4,3,2,1,0] [(2,bA false),(69,bA false),(68,.lit undef),(67,.lit undef),(66,bA false),(65,bA false),(64,.lit undef),(63,.lit undef),(62,bA false),(61,bA false),(60,.lit undef),(59,.lit undef),(58,bA (zn v1.Stack 0 16)),(57,bA (zn v1.Stack 0 16)),(56,bA (zn v1.Stack 0 16)),(55,iA v1.Stack),(54,.mpt 0 0 6),(53,bA (zn v1.Locals (z8 v1) 16)),(52,bA (zn v1.Locals (z8 v1) 16)),(51,iA (z8 v1)),(50,.agg (zh v1)),(49,iA v1.Locals),(48,.mpt 0 0 5)] 0 kz kz y kz (zht ⟨pe,pe,pe,pe,pe,pe,pe,pe,pe,pe,pe,pe,pe,pe,(fun _=>pag (b:=(zn v1.Locals (z8 v1) 16)) y y y y hb15 y (pc (zaO v1.Stack 0 16 y) y y y<|w)),pe,pe,pe,(pb y (pc (zaO v1.Locals (z8 v1) 16 y) y y y w)),(pb y (pc (zhD v1 y) y y y w)),pe,pe,pe,t⟩ ⟨false,h,zo []⟩)
     ·
      replace h:=bF hb15 h
      exact zae [] [22,21,20,19,18,17,16,15,14,13,12,11,10,9,8,7,6,5,4,3,2,1,0] [(2,bA false),(69,bA false),(68,.lit undef),(67,.lit undef),(66,bA false),(65,bA false),(64,.lit undef),(63,.lit undef),(62,bA false),(61,bA false),(60,.lit undef),(59,.lit undef),(58,bA false),(57,bA false),(56,.lit undef),(55,.lit undef),(54,.lit undef),(53,bA (zn v1.Locals (z8 v1) 16)),(52,bA (zn v1.Locals (z8 v1) 16)),(51,iA (z8 v1)),(50,.agg (zh v1)),(49,iA v1.Locals),(48,.mpt 0 0 5)] 0 kz kz y kz (zht ⟨pe,pe,pe,pe,pe,pe,pe,pe,pe,pe,pe,pe,pe,pe,pe,pe,pe,pe,(pb y (pc (zaO v1.Locals (z8 v1) 16 y) y y y w)),(pb y (pc (zhD v1 y) y y y w)),pe,pe,pe,t⟩ ⟨false,h,zo []⟩)
    ·
     rintro v10 h
     replace h:zdF v10=some r:=h
     unfold zdF at h
     refine zj ?_
     obtain rfl:=sm h
     exact ⟨_,y,zy []⟩
def zkj(v1:zd)(v2:T0)(v3:T0)(v4:Bool)(v5:T1)(v6:List zt)(v7:List zd):Option (Bool):=
  (cond (v1.Abstract == v4) ((zim v1).bind fun v8=>some v8) (some false)).bind fun v9=>some v9
theorem zp6(v1:zd)(v2:T0)(v3:T0)(v4:Bool)(v5:T1)(v6:List zt)(v7:List zd){r:Bool}(h:zkj v1 v2 v3 v4 v5 v6 v7=some r):zI Tryz.prog 105 [.agg (zh v1),.ipt 6 [[sA v2,sA v3,bA v4,.isl 1 (map zf v5),.isl 3 (map zJ v6),.isl 10 (map zh v7)]] 0 0] (bA r):=by
 refine zq Tryz.func105 y kz y y ?_
 unfold zkj at h
 refine rg y<|u<|bx 0 10 y y y y<|u<|asg y<|za ?_
 obtain ⟨v9,q3,h⟩:=bs h
 refine rg y<|u<|fa ti y y y<|u<|ld ti y y<|u<|fa ti y y y<|u<|ld ti y y<|u<|beq ti y y y<|u<|mv y<|z7 (x:=v9) (j:=5) 2 y y y y y gpn (fun hb1=>by replace q3:=bT hb1 q3;obtain ⟨v8,q2,q3⟩:=bs q3;obtain rfl:=sm q3;exact g y hb1<|ld ti y y<|g y hb1<|pc (zpL v1 q2) y y y<|za (eg [10,11] 2 y y y y)) (fun hb=>(sm (bF hb q3)).symm)<|u<|asg y<|za ?_
 refine zj ?_
 obtain rfl:=sm h
 exact ⟨_,y,zy []⟩
def zdV(v1:zd):T0:=
  v1.Name
theorem zmk(v1:zd){r:T0}(h:zdV v1=r):zI Tryz.prog 104 [.agg (zh v1)] (sA r):=by
 refine zq Tryz.func104 y kz y y ?_
 unfold zdV at h
 refine rg y<|u<|bx 0 10 y y y y<|u<|asg y<|za ?_
 refine rg y<|u<|fa ti y y y<|u<|ld ti y y<|u<|asg y<|za ?_
 refine zj ?_
 obtain rfl:=h
 exact ⟨_,y,zy []⟩
def zfA(v1:zd)(v2:T0)(v3:T1)(v4:T0)(v5:Bool)(v6:Bool)(v7:Int)(v8:Int)(v9:List zH)(v10:List zas)(v11:List zbe):Bool:=
  ((zdV (zd.mk v2 v3 v4 v5 v6 v7 v8 v9 v10 v11)) == (zdV v1))
theorem zjv(v1:zd)(v2:T0)(v3:T1)(v4:T0)(v5:Bool)(v6:Bool)(v7:Int)(v8:Int)(v9:List zH)(v10:List zas)(v11:List zbe){r:Bool}(h:zfA v1 v2 v3 v4 v5 v6 v7 v8 v9 v10 v11=r):zI Tryz.prog 182 [.agg (zh v1),.ipt 1 [[.fn (.func 104) [] []]] 0 0,.ipt 10 [[sA v2,.isl 1 (map zf v3),sA v4,bA v5,bA v6,iA v7,iA v8,.isl 4 (map zv v9),.isl 3 (map zP v10),.isl 4 (map zbL v11)]] 0 0] (bA r):=by
 refine zq Tryz.func182 y kz y y ?_
 unfold zfA at h
 refine rg y<|u<|bx 0 10 y y y y<|u<|asg y<|za ?_
 refine rdA [(4,bA ((zdV (zd.mk v2 v3 v4 v5 v6 v7 v8 v9 v10 v11)) == (zdV v1)))] [] [] [7,6,5,4,3,2,1,0] [(4,bA ((zdV (zd.mk v2 v3 v4 v5 v6 v7 v8 v9 v10 v11)) == (zdV v1))),(11,bA ((zdV (zd.mk v2 v3 v4 v5 v6 v7 v8 v9 v10 v11)) == (zdV v1))),(10,sA (zdV v1)),(9,.agg (zh v1)),(8,.fn (.func 104) [] []),(7,sA (zdV (zd.mk v2 v3 v4 v5 v6 v7 v8 v9 v10 v11))),(6,.agg [sA v2,.isl 1 (map zf v3),sA v4,bA v5,bA v6,iA v7,iA v8,.isl 4 (map zv v9),.isl 3 (map zP v10),.isl 4 (map zbL v11)]),(5,.fn (.func 104) [] [])] 0 (zht ⟨pe,pe,(pb y (pc (zmk v1 y) y y y w)),pe,pe,(pb y (pc (zmk (zd.mk v2 v3 v4 v5 v6 v7 v8 v9 v10 v11) y) y y y w)),pe,pe,t⟩ (zo [])) ?_
 refine zj ?_
 obtain rfl:=h
 exact ⟨_,y,zy []⟩
def zaZ:Option (Int):=
  some (-1)
def z2(v1:List zd)(v2:T0)(v3:T1)(v4:T0)(v5:Bool)(v6:Bool)(v7:Int)(v8:Int)(v9:List zH)(v10:List zas)(v11:List zbe)(v14:Int):Option (Sum (Int) (Sum (Unit) (Int))):=
  cond (decide (v14<(length v1:Int))) ((idx v1 v14).bind fun v15=>cond (zfA v15 v2 v3 v4 v5 v6 v7 v8 v9 v10 v11) (some (.inr (.inr v14))) (some (.inl (IntKind.i64.wrap (v14+1))))) (some (.inr (.inl ())))
def zbf(v1:List zd)(v2:T0)(v3:T1)(v4:T0)(v5:Bool)(v6:Bool)(v7:Int)(v8:Int)(v9:List zH)(v10:List zas)(v11:List zbe):Option (Int):=
  (zu (fun z=>z2 v1 v2 v3 v4 v5 v6 v7 v8 v9 v10 v11 z) 0).bind fun o=>zU o (fun b=>zaZ) some
theorem zfG(v1:List zd)(v2:T0)(v3:T1)(v4:T0)(v5:Bool)(v6:Bool)(v7:Int)(v8:Int)(v9:List zH)(v10:List zas)(v11:List zbe){r:Int}(h:zbf v1 v2 v3 v4 v5 v6 v7 v8 v9 v10 v11=some r):zI Tryz.prog 244 [.isl 10 (map zh v1),.fn (.func 182) [] [.ipt 1 [[.fn (.func 104) [] []]] 0 0,.ipt 10 [[sA v2,.isl 1 (map zf v3),sA v4,bA v5,bA v6,iA v7,iA v8,.isl 4 (map zv v9),.isl 3 (map zP v10),.isl 4 (map zbL v11)]] 0 0]] (iA r):=by
 refine zq Tryz.func244 y kz y y ?_
 unfold zbf at h
 refine rg y<|u<|asg y<|za ?_
 refine zi ?_
 refine rg y<|u<|mv y<|u<|lnI ti y y<|u<|mv y<|za ?_
 obtain ⟨o,ho,h⟩:=bs h
 refine zX (X:=Int) (B:=Unit) (R:=Int) (fun z=>[(0,.isl 10 (map zh v1)),(1,.fn (.func 182) [] [.ipt 1 [[.fn (.func 104) [] []]] 0 0,.ipt 10 [[sA v2,.isl 1 (map zf v3),sA v4,bA v5,bA v6,iA v7,iA v8,.isl 4 (map zv v9),.isl 3 (map zP v10),.isl 4 (map zbL v11)]] 0 0]),(7,iA (length v1:Int)),(8,iA z)]) (fun z=>[]) (fun b=>[]) (fun b=>[]) (fun r env st=>zaN Tryz.prog Tryz.f244 0 (iA r) [] env st) ho (zo []) ?_ ?_ ?_
 ·
  rintro v14 r h
  replace h:z2 v1 v2 v3 v4 v5 v6 v7 v8 v9 v10 v11 v14=some r:=h
  unfold z2 at h
  refine rg y<|u<|lss ti y y<|za ?_
  refine zi ?_
  refine ze y (fun hc4=>?_) (fun hc4=>?_)
  ·
   replace h:=bT hc4 h
   refine zg ?_
   refine zi ?_
   refine zr ?_
   refine rg y<|u<|mv y<|u<|asg y<|za ?_
   obtain ⟨v15,q5,h⟩:=bs h
   refine rg y<|u<|mv y<|u<|mv y<|u<|mv y<|u<|ixI ti y ti y y y q5<|u<|ldI ti y (zl q5).2.2 y<|u<|pc (zjv v15 v2 v3 v4 v5 v6 v7 v8 v9 v10 v11 y) y y y<|za ?_
   refine ze y (fun hc6=>?_) (fun hc6=>?_)
   ·
    replace h:=bT hc6 h
    refine rg y<|u<|mv y<|u<|asg y<|za ?_
    refine zj ?_
    obtain rfl:=sm h
    exact ⟨_,y,_,y,zy []⟩
   ·
    replace h:=bF hc6 h
    refine zg ?_
    refine rl y<|u<|add ti y y<|u<|mv y<|za ?_
    obtain rfl:=sm h
    exact ⟨_,y,zo []⟩
  ·
   replace h:=bF hc4 h
   refine zD ?_
   obtain rfl:=sm h
   exact ⟨y,_,y,zo []⟩
 ·
  rintro ⟨⟩ rfl
  replace h:zaZ=some r:=h
  unfold zaZ at h
  refine zw ?_
  refine rg y<|u<|asg y<|za ?_
  refine zj ?_
  obtain rfl:=sm h
  exact ⟨_,y,zy []⟩
 ·
  rintro r' rfl env st hp
  obtain rfl:=sm h
  exact hp
def zao(v1:List zd)(v2:T0)(v3:T1)(v4:T0)(v5:Bool)(v6:Bool)(v7:Int)(v8:Int)(v9:List zH)(v10:List zas)(v11:List zbe):Option (Bool):=
  (zbf v1 v2 v3 v4 v5 v6 v7 v8 v9 v10 v11).bind fun v12=>some (decide (0≤v12))
theorem zeX(v1:List zd)(v2:T0)(v3:T1)(v4:T0)(v5:Bool)(v6:Bool)(v7:Int)(v8:Int)(v9:List zH)(v10:List zas)(v11:List zbe){r:Bool}(h:zao v1 v2 v3 v4 v5 v6 v7 v8 v9 v10 v11=some r):zI Tryz.prog 181 [.isl 10 (map zh v1),.fn (.func 182) [] [.ipt 1 [[.fn (.func 104) [] []]] 0 0,.ipt 10 [[sA v2,.isl 1 (map zf v3),sA v4,bA v5,bA v6,iA v7,iA v8,.isl 4 (map zv v9),.isl 3 (map zP v10),.isl 4 (map zbL v11)]] 0 0]] (bA r):=by
 refine zq Tryz.func181 y kz y y ?_
 unfold zao at h
 refine rg y<|u<|asg y<|za ?_
 obtain ⟨v12,q1,h⟩:=bs h
 refine rg y<|u<|mv y<|u<|mv y<|u<|pc (zfG v1 v2 v3 v4 v5 v6 v7 v8 v9 v10 v11 q1) y y y<|u<|geq ti y y<|u<|asg y<|za ?_
 refine zj ?_
 obtain rfl:=sm h
 exact ⟨_,y,zy []⟩
def zfe(v1:List zd)(v2:Int):Option (Bool):=
  some (decide ((length v1:Int)≤v2))
def zcT(v1:List zd)(v3:T0)(v4:T0)(v5:Bool)(v6:T1)(v7:List zt)(v8:List zd)(v15:Int):Option (Sum (Int) (Sum (Unit) (Bool))):=
  cond (decide (v15<(length v1:Int))) ((idx v1 v15).bind fun v16=>(zkj v16 v3 v4 v5 v6 v7 v8).bind fun v17=>(cond (!v17) (some true) ((zj6 v1 0 v15).bind fun v18=>(zao v18 v16.Name v16.Params v16.Ret v16.Static v16.Abstract v16.Locals v16.Stack v16.Code v16.Maps v16.Traps).bind fun v19=>some v19)).bind fun v20=>cond v20 (some (.inr (.inr false))) (some (.inl (IntKind.i64.wrap (v15+1))))) (some (.inr (.inl ())))
def zdY(v1:List zd)(v2:Int)(v3:T0)(v4:T0)(v5:Bool)(v6:T1)(v7:List zt)(v8:List zd):Option (Bool):=
  (zu (fun z=>zcT v1 v3 v4 v5 v6 v7 v8 z) 0).bind fun o=>zU o (fun b=>zfe v1 v2) some
theorem zku(v1:List zd)(v2:Int)(v3:T0)(v4:T0)(v5:Bool)(v6:T1)(v7:List zt)(v8:List zd){r:Bool}(h:zdY v1 v2 v3 v4 v5 v6 v7 v8=some r):zI Tryz.prog 103 [.isl 10 (map zh v1),iA v2,.fn (.func 104) [] [],.fn (.func 105) [] [.ipt 6 [[sA v3,sA v4,bA v5,.isl 1 (map zf v6),.isl 3 (map zJ v7),.isl 10 (map zh v8)]] 0 0]] (bA r):=by
 refine zq Tryz.func103 y kz y y ?_
 unfold zdY at h
 refine rg y<|u<|bx 0 1 y y y y<|u<|asg y<|za ?_
 refine zi ?_
 refine rg y<|u<|mv y<|u<|lnI ti y y<|u<|mv y<|za ?_
 obtain ⟨o,ho,h⟩:=bs h
 refine zX (X:=Int) (B:=Unit) (R:=Bool) (fun z=>[(0,.isl 10 (map zh v1)),(1,iA v2),(3,.fn (.func 105) [] [.ipt 6 [[sA v3,sA v4,bA v5,.isl 1 (map zf v6),.isl 3 (map zJ v7),.isl 10 (map zh v8)]] 0 0]),(6,.mpt 0 0 0),(11,.isl 10 (map zh v1)),(12,iA (length v1:Int)),(13,iA z)]) (fun z=>[some (1,[[.fn (.func 104) [] []]])]) (fun b=>[(0,.isl 10 (map zh v1)),(1,iA v2)]) (fun b=>[]) (fun r env st=>zaN Tryz.prog Tryz.f103 0 (bA r) [] env st) ho (zo [.old 0]) ?_ ?_ ?_
 ·
  rintro v15 r h
  replace h:zcT v1 v3 v4 v5 v6 v7 v8 v15=some r:=h
  unfold zcT at h
  refine rg y<|u<|lss ti y y<|za ?_
  refine zi ?_
  refine ze y (fun hc9=>?_) (fun hc9=>?_)
  ·
   replace h:=bT hc9 h
   refine zg ?_
   refine zi ?_
   refine zr ?_
   obtain ⟨v16,q10,h⟩:=bs h
   refine rg y<|u<|mv y<|u<|ixI ti y ti y y y q10<|u<|ldI ti y (zl q10).2.2 y<|u<|al 1 ti y<|u<|asg y<|u<|sto ti y y y<|za ?_
   obtain ⟨v17,q11,h⟩:=bs h
   obtain ⟨v20,q15,h⟩:=bs h
   refine rg y<|u<|mv y<|u<|ld ti y y<|u<|pc (zp6 v16 v3 v4 v5 v6 v7 v8 q11) y y y<|u<|nt y<|u<|mv y<|zdj (x:=v20) (j:=4) 5 y y y y y gpn (fun hb12=>by replace q15:=bF hb12 q15;obtain ⟨v18,q13,q15⟩:=bs q15;obtain ⟨v19,q14,q15⟩:=bs q15;obtain rfl:=sm q15;exact g y hb12<|mv y<|g y hb12<|mv y<|g y hb12<|slI (a:=0) (b:=v15) ti y ti y y y (zon y q13) q13<|g y hb12<|mf y y<|g y hb12<|pcs (zeX v18 v16.Name v16.Params v16.Ret v16.Static v16.Abstract v16.Locals v16.Stack v16.Code v16.Maps v16.Traps q14) y y (.cons (si y) (.cons (zhX t ⟨(zcR y ⟨(si y),t⟩),(zcR y ⟨(si y),(si y),(si y),(si y),(si y),(si y),(si y),(si y),(si y),(si y),t⟩),t⟩) .nil)) zcD<|za (eg [23,24,25,26,27] 5 y y y y)) (fun hb=>(sm (bT hb q15)).symm)<|za ?_
   refine ze y (fun hc16=>?_) (fun hc16=>?_)
   ·
    replace h:=bT hc16 h
    refine rg y<|u<|asg y<|za ?_
    refine zj ?_
    obtain rfl:=sm h
    exact ⟨_,y,_,y,zy []⟩
   ·
    replace h:=bF hc16 h
    refine zg ?_
    refine rl y<|u<|add ti y y<|u<|mv y<|za ?_
    obtain rfl:=sm h
    exact ⟨_,y,zo [.old 0]⟩
  ·
   replace h:=bF hc9 h
   refine zD ?_
   obtain rfl:=sm h
   exact ⟨y,_,y,zo []⟩
 ·
  rintro ⟨⟩ rfl
  replace h:zfe v1 v2=some r:=h
  unfold zfe at h
  refine zw ?_
  refine rg y<|u<|mv y<|u<|lnI ti y y<|u<|mv y<|u<|leq ti y y<|u<|asg y<|za ?_
  refine zj ?_
  obtain rfl:=sm h
  exact ⟨_,y,zy []⟩
 ·
  rintro r' rfl env st hp
  obtain rfl:=sm h
  exact hp
def zek(v1:T0):T0:=
  v1
theorem zm6(v1:T0){r:T0}(h:zek v1=r):zI Tryz.prog 109 [sA v1] (sA r):=by
 refine zq Tryz.func109 y kz y y ?_
 unfold zek at h
 refine rg y<|u<|asg y<|za ?_
 refine rg y<|u<|mv y<|u<|asg y<|za ?_
 refine zj ?_
 obtain rfl:=h
 exact ⟨_,y,zy []⟩
def zhw(v1:T0)(v2:T0):Bool:=
  ((zek v2) == (zek v1))
theorem zlm(v1:T0)(v2:T0){r:Bool}(h:zhw v1 v2=r):zI Tryz.prog 192 [sA v1,.ipt 1 [[.fn (.func 109) [] []]] 0 0,.ipt 1 [[sA v2]] 0 0] (bA r):=by
 refine zq Tryz.func192 y kz y y ?_
 unfold zhw at h
 refine rg y<|u<|asg y<|za ?_
 refine rdA [(4,bA ((zek v2) == (zek v1)))] [] [] [7,6,5,4,3,2,1,0] [(4,bA ((zek v2) == (zek v1))),(11,bA ((zek v2) == (zek v1))),(10,sA (zek v1)),(9,sA v1),(8,.fn (.func 109) [] []),(7,sA (zek v2)),(6,sA v2),(5,.fn (.func 109) [] [])] 0 (zht ⟨pe,pe,(pb y (pc (zm6 v1 y) y y y w)),pe,pe,(pb y (pc (zm6 v2 y) y y y w)),pe,pe,t⟩ (zo [])) ?_
 refine zj ?_
 obtain rfl:=h
 exact ⟨_,y,zy []⟩
def zbn:Option (Int):=
  some (-1)
def zaj(v1:T1)(v2:T0)(v5:Int):Option (Sum (Int) (Sum (Unit) (Int))):=
  cond (decide (v5<(length v1:Int))) ((idx v1 v5).bind fun v6=>cond (zhw v6 v2) (some (.inr (.inr v5))) (some (.inl (IntKind.i64.wrap (v5+1))))) (some (.inr (.inl ())))
def zbS(v1:T1)(v2:T0):Option (Int):=
  (zu (fun z=>zaj v1 v2 z) 0).bind fun o=>zU o (fun b=>zbn) some
theorem zgH(v1:T1)(v2:T0){r:Int}(h:zbS v1 v2=some r):zI Tryz.prog 110 [.isl 1 (map zf v1),.fn (.func 192) [] [.ipt 1 [[.fn (.func 109) [] []]] 0 0,.ipt 1 [[sA v2]] 0 0]] (iA r):=by
 refine zq Tryz.func110 y kz y y ?_
 unfold zbS at h
 refine rg y<|u<|asg y<|za ?_
 refine zi ?_
 refine rg y<|u<|mv y<|u<|lnI ti y y<|u<|mv y<|za ?_
 obtain ⟨o,ho,h⟩:=bs h
 refine zX (X:=Int) (B:=Unit) (R:=Int) (fun z=>[(0,.isl 1 (map zf v1)),(1,.fn (.func 192) [] [.ipt 1 [[.fn (.func 109) [] []]] 0 0,.ipt 1 [[sA v2]] 0 0]),(7,iA (length v1:Int)),(8,iA z)]) (fun z=>[]) (fun b=>[]) (fun b=>[]) (fun r env st=>zaN Tryz.prog Tryz.f110 0 (iA r) [] env st) ho (zo []) ?_ ?_ ?_
 ·
  rintro v5 r h
  replace h:zaj v1 v2 v5=some r:=h
  unfold zaj at h
  refine rg y<|u<|lss ti y y<|za ?_
  refine zi ?_
  refine ze y (fun hc4=>?_) (fun hc4=>?_)
  ·
   replace h:=bT hc4 h
   refine zg ?_
   refine zi ?_
   refine zr ?_
   refine rg y<|u<|mv y<|u<|asg y<|za ?_
   obtain ⟨v6,q5,h⟩:=bs h
   refine rg y<|u<|mv y<|u<|mv y<|u<|mv y<|u<|ixI ti y ti y y y q5<|u<|ldI ti y (zl q5).2.2 y<|u<|pc (zlm v6 v2 y) y y y<|za ?_
   refine ze y (fun hc6=>?_) (fun hc6=>?_)
   ·
    replace h:=bT hc6 h
    refine rg y<|u<|mv y<|u<|asg y<|za ?_
    refine zj ?_
    obtain rfl:=sm h
    exact ⟨_,y,_,y,zy []⟩
   ·
    replace h:=bF hc6 h
    refine zg ?_
    refine rl y<|u<|add ti y y<|u<|mv y<|za ?_
    obtain rfl:=sm h
    exact ⟨_,y,zo []⟩
  ·
   replace h:=bF hc4 h
   refine zD ?_
   obtain rfl:=sm h
   exact ⟨y,_,y,zo []⟩
 ·
  rintro ⟨⟩ rfl
  replace h:zbn=some r:=h
  unfold zbn at h
  refine zw ?_
  refine rg y<|u<|asg y<|za ?_
  refine zj ?_
  obtain rfl:=sm h
  exact ⟨_,y,zy []⟩
 ·
  rintro r' rfl env st hp
  obtain rfl:=sm h
  exact hp
def zaM(v1:T1)(v2:T0):Option (Bool):=
  (zbS v1 v2).bind fun v3=>some (decide (0≤v3))
theorem zf6(v1:T1)(v2:T0){r:Bool}(h:zaM v1 v2=some r):zI Tryz.prog 56 [.isl 1 (map zf v1),.fn (.func 192) [] [.ipt 1 [[.fn (.func 109) [] []]] 0 0,.ipt 1 [[sA v2]] 0 0]] (bA r):=by
 refine zq Tryz.func56 y kz y y ?_
 unfold zaM at h
 refine rg y<|u<|asg y<|za ?_
 obtain ⟨v3,q1,h⟩:=bs h
 refine rg y<|u<|mv y<|u<|mv y<|u<|pc (zgH v1 v2 q1) y y y<|u<|geq ti y y<|u<|asg y<|za ?_
 refine zj ?_
 obtain rfl:=sm h
 exact ⟨_,y,zy []⟩
def zhd(v1:T1)(v2:Int):Option (Bool):=
  some (decide ((length v1:Int)≤v2))
def zea(v1:T1)(v9:Int):Option (Sum (Int) (Sum (Unit) (Bool))):=
  cond (decide (v9<(length v1:Int))) ((idx v1 v9).bind fun v10=>(zfw v10).bind fun v11=>(cond (!v11) (some true) ((zj6 v1 0 v9).bind fun v12=>(zaM v12 v10).bind fun v13=>some v13)).bind fun v14=>cond v14 (some (.inr (.inr false))) (some (.inl (IntKind.i64.wrap (v9+1))))) (some (.inr (.inl ())))
def zfl(v1:T1)(v2:Int):Option (Bool):=
  (zu (fun z=>zea v1 z) 0).bind fun o=>zU o (fun b=>zhd v1 v2) some
theorem zmP(v1:T1)(v2:Int){r:Bool}(h:zfl v1 v2=some r):zI Tryz.prog 108 [.isl 1 (map zf v1),iA v2,.fn (.func 109) [] [],.fn (.func 107) [] []] (bA r):=by
 refine zq Tryz.func108 y kz y y ?_
 unfold zfl at h
 refine rg y<|u<|bx 0 1 y y y y<|u<|asg y<|za ?_
 refine zi ?_
 refine rg y<|u<|mv y<|u<|lnI ti y y<|u<|mv y<|za ?_
 obtain ⟨o,ho,h⟩:=bs h
 refine zX (X:=Int) (B:=Unit) (R:=Bool) (fun z=>[(0,.isl 1 (map zf v1)),(1,iA v2),(3,.fn (.func 107) [] []),(6,.mpt 0 0 0),(11,.isl 1 (map zf v1)),(12,iA (length v1:Int)),(13,iA z)]) (fun z=>[some (1,[[.fn (.func 109) [] []]])]) (fun b=>[(0,.isl 1 (map zf v1)),(1,iA v2)]) (fun b=>[]) (fun r env st=>zaN Tryz.prog Tryz.f108 0 (bA r) [] env st) ho (zo [.old 0]) ?_ ?_ ?_
 ·
  rintro v9 r h
  replace h:zea v1 v9=some r:=h
  unfold zea at h
  refine rg y<|u<|lss ti y y<|za ?_
  refine zi ?_
  refine ze y (fun hc9=>?_) (fun hc9=>?_)
  ·
   replace h:=bT hc9 h
   refine zg ?_
   refine zi ?_
   refine zr ?_
   obtain ⟨v10,q10,h⟩:=bs h
   refine rg y<|u<|mv y<|u<|ixI ti y ti y y y q10<|u<|ldI ti y (zl q10).2.2 y<|u<|al 1 ti y<|u<|asg y<|u<|sto ti y y y<|za ?_
   obtain ⟨v11,q11,h⟩:=bs h
   obtain ⟨v14,q15,h⟩:=bs h
   refine rg y<|u<|mv y<|u<|ld ti y y<|u<|pc (zgw v10 q11) y y y<|u<|nt y<|u<|mv y<|zdj (x:=v14) (j:=4) 5 y y y y y gpn (fun hb12=>by replace q15:=bF hb12 q15;obtain ⟨v12,q13,q15⟩:=bs q15;obtain ⟨v13,q14,q15⟩:=bs q15;obtain rfl:=sm q15;exact g y hb12<|mv y<|g y hb12<|mv y<|g y hb12<|slI (a:=0) (b:=v9) ti y ti y y y (zon y q13) q13<|g y hb12<|mf y y<|g y hb12<|pcs (zf6 v12 v10 q14) y y (.cons (si y) (.cons (zhX t ⟨(zcR y ⟨(si y),t⟩),(zcR y ⟨(si y),t⟩),t⟩) .nil)) zcD<|za (eg [23,24,25,26,27] 5 y y y y)) (fun hb=>(sm (bT hb q15)).symm)<|za ?_
   refine ze y (fun hc16=>?_) (fun hc16=>?_)
   ·
    replace h:=bT hc16 h
    refine rg y<|u<|asg y<|za ?_
    refine zj ?_
    obtain rfl:=sm h
    exact ⟨_,y,_,y,zy []⟩
   ·
    replace h:=bF hc16 h
    refine zg ?_
    refine rl y<|u<|add ti y y<|u<|mv y<|za ?_
    obtain rfl:=sm h
    exact ⟨_,y,zo [.old 0]⟩
  ·
   replace h:=bF hc9 h
   refine zD ?_
   obtain rfl:=sm h
   exact ⟨y,_,y,zo []⟩
 ·
  rintro ⟨⟩ rfl
  replace h:zhd v1 v2=some r:=h
  unfold zhd at h
  refine zw ?_
  refine rg y<|u<|mv y<|u<|lnI ti y y<|u<|mv y<|u<|leq ti y y<|u<|asg y<|za ?_
  refine zj ?_
  obtain rfl:=sm h
  exact ⟨_,y,zy []⟩
 ·
  rintro r' rfl env st hp
  obtain rfl:=sm h
  exact hp
def zlc(v1:zb):Option (Bool):=
  cond (v1.Interface&&((!(v1.Super == [79,98,106,101,99,116]))||(decide (0<(length v1.Fields:Int))))) (some false) ((zd9 v1.Fields 8).bind fun v2=>(zdY v1.Methods 8 v1.Name v1.Super v1.Interface v1.Impl v1.Fields v1.Methods).bind fun v3=>(zfw v1.Name).bind fun v4=>(cond v4 ((zfw v1.Super).bind fun v5=>some v5) (some false)).bind fun v6=>(cond v6 ((zfl v1.Impl 4).bind fun v7=>some v7) (some false)).bind fun v8=>some ((v8&&v2)&&v3))
theorem zrI(v1:zb){r:Bool}(h:zlc v1=some r):zI Tryz.prog 55 [.agg (zc v1)] (bA r):=by
 refine zq Tryz.func55 y kz y y ?_
 unfold zlc at h
 refine rg y<|u<|bx 0 6 y y y y<|u<|asg y<|za ?_
 refine zi ?_
 refine rg y<|u<|fa ti y y y<|u<|ld ti y y<|u<|mv y<|z7 (j:=2) 9 y y y y y gpn (fun hb1=>g y hb1<|fa ti y y y<|g y hb1<|ld ti y y<|g y hb1<|sne ti y y<|g y hb1<|mv y<|zdj (j:=6) 4 y y y y y (gps y y hb1) (fun hb2=>g y hb2<|fa ti y y y<|g y hb2<|ld ti y y<|g y hb2<|lnI ti y y<|g y hb2<|gtr ti y y<|za (egO [12,13,14,15] 4 hb2 y y y y)) orT<|za (egA [8,9,10,11,12,13,14,15,16] 5 hb1 y y y y)) ze2<|za ?_
 refine ze y (fun hc3=>?_) (fun hc3=>?_)
 ·
  replace h:=bT hc3 h
  refine rg y<|u<|asg y<|za ?_
  refine zj ?_
  obtain rfl:=sm h
  exact ⟨_,y,zy []⟩
 ·
  replace h:=bF hc3 h
  refine zg ?_
  obtain ⟨v2,q4,h⟩:=bs h
  refine rg y<|u<|fa ti y y y<|u<|ld ti y y<|u<|pc (zk1 v1.Fields 8 q4) y y y<|u<|asg y<|za ?_
  obtain ⟨v3,q5,h⟩:=bs h
  refine rg y<|u<|fa ti y y y<|u<|ld ti y y<|u<|mf y y<|u<|pcs (zku v1.Methods 8 v1.Name v1.Super v1.Interface v1.Impl v1.Fields v1.Methods q5) y y (.cons (si y) (.cons (si y) (.cons (si y) (.cons (zhX t ⟨(zcR y ⟨(si y),(si y),(si y),(si y),(si y),(si y),t⟩),t⟩) .nil)))) zcD<|u<|asg y<|za ?_
  obtain ⟨v4,q6,h⟩:=bs h
  obtain ⟨v6,q9,h⟩:=bs h
  obtain ⟨v8,q12,h⟩:=bs h
  refine rg y<|u<|fa ti y y y<|u<|ld ti y y<|u<|pc (zgw v1.Name q6) y y y<|u<|mv y<|z7 (x:=v6) (j:=3) 3 y y y y y gpn (fun hb7=>by replace q9:=bT hb7 q9;obtain ⟨v5,q8,q9⟩:=bs q9;obtain rfl:=sm q9;exact g y hb7<|fa ti y y y<|g y hb7<|ld ti y y<|g y hb7<|pc (zgw v1.Super q8) y y y<|za (eg [29,30,31] 3 y y y y)) (fun hb=>(sm (bF hb q9)).symm)<|u<|mv y<|z7 (x:=v8) (j:=8) 3 y y y y y gpn (fun hb10=>by replace q12:=bT hb10 q12;obtain ⟨v7,q11,q12⟩:=bs q12;obtain rfl:=sm q12;exact g y hb10<|fa ti y y y<|g y hb10<|ld ti y y<|g y hb10<|pc (zmP v1.Impl 4 q11) y y y<|za (eg [34,35,36] 3 y y y y)) (fun hb=>(sm (bF hb q12)).symm)<|u<|mv y<|z7 (j:=13) 1 y y y y y gpn (fun hb13=>g y hb13<|mv y<|za (egA [39] 1 hb13 y y y y)) ze2<|u<|mv y<|z7 (j:=16) 1 y y y y y gpn (fun hb14=>g y hb14<|mv y<|za (egA [42] 1 hb14 y y y y)) ze2<|u<|asg y<|za ?_
  refine zj ?_
  obtain rfl:=sm h
  exact ⟨_,y,zy []⟩
def zjx(v1:zd)(v2:T0):Bool:=
  (v1.Name == v2)
theorem zn5(v1:zd)(v2:T0){r:Bool}(h:zjx v1 v2=r):zI Tryz.prog 268 [.agg (zh v1),.ipt 1 [[sA v2]] 0 0] (bA r):=by
 refine zq Tryz.func268 y kz y y ?_
 unfold zjx at h
 refine rg y<|u<|bx 0 10 y y y y<|u<|asg y<|za ?_
 refine rg y<|u<|fa ti y y y<|u<|ld ti y y<|u<|ld ti y y<|u<|seq ti y y<|u<|asg y<|za ?_
 refine zj ?_
 obtain rfl:=h
 exact ⟨_,y,zy []⟩
def zaE:Option (Int):=
  some (-1)
def zT(v1:List zd)(v2:T0)(v5:Int):Option (Sum (Int) (Sum (Unit) (Int))):=
  cond (decide (v5<(length v1:Int))) ((idx v1 v5).bind fun v6=>cond (zjx v6 v2) (some (.inr (.inr v5))) (some (.inl (IntKind.i64.wrap (v5+1))))) (some (.inr (.inl ())))
def za2(v1:List zd)(v2:T0):Option (Int):=
  (zu (fun z=>zT v1 v2 z) 0).bind fun o=>zU o (fun b=>zaE) some
theorem zeY(v1:List zd)(v2:T0){r:Int}(h:za2 v1 v2=some r):zI Tryz.prog 244 [.isl 10 (map zh v1),.fn (.func 268) [] [.ipt 1 [[sA v2]] 0 0]] (iA r):=by
 refine zq Tryz.func244 y kz y y ?_
 unfold za2 at h
 refine rg y<|u<|asg y<|za ?_
 refine zi ?_
 refine rg y<|u<|mv y<|u<|lnI ti y y<|u<|mv y<|za ?_
 obtain ⟨o,ho,h⟩:=bs h
 refine zX (X:=Int) (B:=Unit) (R:=Int) (fun z=>[(0,.isl 10 (map zh v1)),(1,.fn (.func 268) [] [.ipt 1 [[sA v2]] 0 0]),(7,iA (length v1:Int)),(8,iA z)]) (fun z=>[]) (fun b=>[]) (fun b=>[]) (fun r env st=>zaN Tryz.prog Tryz.f244 0 (iA r) [] env st) ho (zo []) ?_ ?_ ?_
 ·
  rintro v5 r h
  replace h:zT v1 v2 v5=some r:=h
  unfold zT at h
  refine rg y<|u<|lss ti y y<|za ?_
  refine zi ?_
  refine ze y (fun hc4=>?_) (fun hc4=>?_)
  ·
   replace h:=bT hc4 h
   refine zg ?_
   refine zi ?_
   refine zr ?_
   refine rg y<|u<|mv y<|u<|asg y<|za ?_
   obtain ⟨v6,q5,h⟩:=bs h
   refine rg y<|u<|mv y<|u<|mv y<|u<|mv y<|u<|ixI ti y ti y y y q5<|u<|ldI ti y (zl q5).2.2 y<|u<|pc (zn5 v6 v2 y) y y y<|za ?_
   refine ze y (fun hc6=>?_) (fun hc6=>?_)
   ·
    replace h:=bT hc6 h
    refine rg y<|u<|mv y<|u<|asg y<|za ?_
    refine zj ?_
    obtain rfl:=sm h
    exact ⟨_,y,_,y,zy []⟩
   ·
    replace h:=bF hc6 h
    refine zg ?_
    refine rl y<|u<|add ti y y<|u<|mv y<|za ?_
    obtain rfl:=sm h
    exact ⟨_,y,zo []⟩
  ·
   replace h:=bF hc4 h
   refine zD ?_
   obtain rfl:=sm h
   exact ⟨y,_,y,zo []⟩
 ·
  rintro ⟨⟩ rfl
  replace h:zaE=some r:=h
  unfold zaE at h
  refine zw ?_
  refine rg y<|u<|asg y<|za ?_
  refine zj ?_
  obtain rfl:=sm h
  exact ⟨_,y,zy []⟩
 ·
  rintro r' rfl env st hp
  obtain rfl:=sm h
  exact hp
def zfW(v1:zb)(v2:T0):Option (Int):=
  (za2 v1.Methods v2).bind fun v3=>some v3
theorem zlx(v1:zb)(v2:T0){r:Int}(h:zfW v1 v2=some r):zI Tryz.prog 232 [.agg (zc v1),sA v2] (iA r):=by
 refine zq Tryz.func232 y kz y y ?_
 unfold zfW at h
 refine rg y<|u<|bx 0 6 y y y y<|u<|bx 1 1 y y y y<|u<|asg y<|za ?_
 obtain ⟨v3,q1,h⟩:=bs h
 refine rg y<|u<|fa ti y y y<|u<|ld ti y y<|u<|mf y y<|u<|pcs (zeY v1.Methods v2 q1) y y (.cons (si y) (.cons (zhX t ⟨(zcR y ⟨(si y),t⟩),t⟩) .nil)) zcD<|u<|asg y<|za ?_
 refine zj ?_
 obtain rfl:=sm h
 exact ⟨_,y,zy []⟩
def zkv(v1:zt)(v2:T0):Bool:=
  (v1.Name == v2)
theorem zoA(v1:zt)(v2:T0){r:Bool}(h:zkv v1 v2=r):zI Tryz.prog 269 [.agg (zJ v1),.ipt 1 [[sA v2]] 0 0] (bA r):=by
 refine zq Tryz.func269 y kz y y ?_
 unfold zkv at h
 refine rg y<|u<|bx 0 3 y y y y<|u<|asg y<|za ?_
 refine rg y<|u<|fa ti y y y<|u<|ld ti y y<|u<|ld ti y y<|u<|seq ti y y<|u<|asg y<|za ?_
 refine zj ?_
 obtain rfl:=h
 exact ⟨_,y,zy []⟩
def zaR:Option (Int):=
  some (-1)
def zY(v1:List zt)(v2:T0)(v5:Int):Option (Sum (Int) (Sum (Unit) (Int))):=
  cond (decide (v5<(length v1:Int))) ((idx v1 v5).bind fun v6=>cond (zkv v6 v2) (some (.inr (.inr v5))) (some (.inl (IntKind.i64.wrap (v5+1))))) (some (.inr (.inl ())))
def za9(v1:List zt)(v2:T0):Option (Int):=
  (zu (fun z=>zY v1 v2 z) 0).bind fun o=>zU o (fun b=>zaR) some
theorem zfp(v1:List zt)(v2:T0){r:Int}(h:za9 v1 v2=some r):zI Tryz.prog 241 [.isl 3 (map zJ v1),.fn (.func 269) [] [.ipt 1 [[sA v2]] 0 0]] (iA r):=by
 refine zq Tryz.func241 y kz y y ?_
 unfold za9 at h
 refine rg y<|u<|asg y<|za ?_
 refine zi ?_
 refine rg y<|u<|mv y<|u<|lnI ti y y<|u<|mv y<|za ?_
 obtain ⟨o,ho,h⟩:=bs h
 refine zX (X:=Int) (B:=Unit) (R:=Int) (fun z=>[(0,.isl 3 (map zJ v1)),(1,.fn (.func 269) [] [.ipt 1 [[sA v2]] 0 0]),(7,iA (length v1:Int)),(8,iA z)]) (fun z=>[]) (fun b=>[]) (fun b=>[]) (fun r env st=>zaN Tryz.prog Tryz.f241 0 (iA r) [] env st) ho (zo []) ?_ ?_ ?_
 ·
  rintro v5 r h
  replace h:zY v1 v2 v5=some r:=h
  unfold zY at h
  refine rg y<|u<|lss ti y y<|za ?_
  refine zi ?_
  refine ze y (fun hc4=>?_) (fun hc4=>?_)
  ·
   replace h:=bT hc4 h
   refine zg ?_
   refine zi ?_
   refine zr ?_
   refine rg y<|u<|mv y<|u<|asg y<|za ?_
   obtain ⟨v6,q5,h⟩:=bs h
   refine rg y<|u<|mv y<|u<|mv y<|u<|mv y<|u<|ixI ti y ti y y y q5<|u<|ldI ti y (zl q5).2.2 y<|u<|pc (zoA v6 v2 y) y y y<|za ?_
   refine ze y (fun hc6=>?_) (fun hc6=>?_)
   ·
    replace h:=bT hc6 h
    refine rg y<|u<|mv y<|u<|asg y<|za ?_
    refine zj ?_
    obtain rfl:=sm h
    exact ⟨_,y,_,y,zy []⟩
   ·
    replace h:=bF hc6 h
    refine zg ?_
    refine rl y<|u<|add ti y y<|u<|mv y<|za ?_
    obtain rfl:=sm h
    exact ⟨_,y,zo []⟩
  ·
   replace h:=bF hc4 h
   refine zD ?_
   obtain rfl:=sm h
   exact ⟨y,_,y,zo []⟩
 ·
  rintro ⟨⟩ rfl
  replace h:zaR=some r:=h
  unfold zaR at h
  refine zw ?_
  refine rg y<|u<|asg y<|za ?_
  refine zj ?_
  obtain rfl:=sm h
  exact ⟨_,y,zy []⟩
 ·
  rintro r' rfl env st hp
  obtain rfl:=sm h
  exact hp
def zjb(v1:zb)(v2:T0):Option (Int):=
  (za9 v1.Fields v2).bind fun v3=>some v3
theorem zqd(v1:zb)(v2:T0){r:Int}(h:zjb v1 v2=some r):zI Tryz.prog 233 [.agg (zc v1),sA v2] (iA r):=by
 refine zq Tryz.func233 y kz y y ?_
 unfold zjb at h
 refine rg y<|u<|bx 0 6 y y y y<|u<|bx 1 1 y y y y<|u<|asg y<|za ?_
 obtain ⟨v3,q1,h⟩:=bs h
 refine rg y<|u<|fa ti y y y<|u<|ld ti y y<|u<|mf y y<|u<|pcs (zfp v1.Fields v2 q1) y y (.cons (si y) (.cons (zhX t ⟨(zcR y ⟨(si y),t⟩),t⟩) .nil)) zcD<|u<|asg y<|za ?_
 refine zj ?_
 obtain rfl:=sm h
 exact ⟨_,y,zy []⟩
def ziE:Option (Int):=
  some (-1)
def zgr(v1:zb)(v2:T0)(v5:Int):Option (Sum (Int) (Sum (Unit) (Int))):=
  cond (decide (v5<(length v1.Fields:Int))) ((idx v1.Fields v5).bind fun v6=>cond (v6.Name == v2) (some (.inr (.inr v5))) (some (.inl (IntKind.i64.wrap (v5+1))))) (some (.inr (.inl ())))
def ziN(v1:zb)(v2:T0):Option (Int):=
  (zu (fun z=>zgr v1 v2 z) 0).bind fun o=>zU o (fun b=>ziE) some
theorem zm2(v1:zb)(v2:T0){r:Int}(h:ziN v1 v2=some r):zI Tryz.prog 118 [.agg (zc v1),sA v2] (iA r):=by
 refine zq Tryz.func118 y kz y y ?_
 unfold ziN at h
 refine rg y<|u<|bx 0 6 y y y y<|u<|asg y<|za ?_
 refine zi ?_
 refine rg y<|u<|asg y<|za ?_
 obtain ⟨o,ho,h⟩:=bs h
 refine zX (X:=Int) (B:=Unit) (R:=Int) (fun z=>[(1,sA v2),(2,.mpt 0 0 0),(5,iA z)]) (fun z=>[some (6,[(zc v1)])]) (fun b=>[]) (fun b=>[]) (fun r env st=>zaN Tryz.prog Tryz.f118 0 (iA r) [] env st) ho (zo [.old 0]) ?_ ?_ ?_
 ·
  rintro v5 r h
  replace h:zgr v1 v2 v5=some r:=h
  unfold zgr at h
  refine zi ?_
  refine rg y<|u<|mv y<|u<|fa ti y y y<|u<|ld ti y y<|u<|lnI ti y y<|u<|lss ti y y<|za ?_
  refine ze y (fun hc4=>?_) (fun hc4=>?_)
  ·
   replace h:=bT hc4 h
   refine zg ?_
   refine zi ?_
   refine zr ?_
   obtain ⟨v6,q5,h⟩:=bs h
   refine rg y<|u<|fa ti y y y<|u<|ld ti y y<|u<|mv y<|u<|ixI ti y ti y y y q5<|u<|fa ti y y y<|u<|ldI ti y (zl q5).2.2 y<|u<|mv y<|u<|seq ti y y<|za ?_
   refine ze y (fun hc6=>?_) (fun hc6=>?_)
   ·
    replace h:=bT hc6 h
    refine rg y<|u<|mv y<|u<|asg y<|za ?_
    refine zj ?_
    obtain rfl:=sm h
    exact ⟨_,y,_,y,zy []⟩
   ·
    replace h:=bF hc6 h
    refine zg ?_
    refine rl y<|u<|mv y<|u<|add ti y y<|u<|asg y<|za ?_
    obtain rfl:=sm h
    exact ⟨_,y,zo [.old 0]⟩
  ·
   replace h:=bF hc4 h
   refine zD ?_
   obtain rfl:=sm h
   exact ⟨y,_,y,zo []⟩
 ·
  rintro ⟨⟩ rfl
  replace h:ziE=some r:=h
  unfold ziE at h
  refine zw ?_
  refine rg y<|u<|asg y<|za ?_
  refine zj ?_
  obtain rfl:=sm h
  exact ⟨_,y,zy []⟩
 ·
  rintro r' rfl env st hp
  obtain rfl:=sm h
  exact hp
def zic:Option (Int):=
  some (-1)
def zfy(v1:zb)(v2:T0)(v5:Int):Option (Sum (Int) (Sum (Unit) (Int))):=
  cond (decide (v5<(length v1.Methods:Int))) ((idx v1.Methods v5).bind fun v6=>cond (v6.Name == v2) (some (.inr (.inr v5))) (some (.inl (IntKind.i64.wrap (v5+1))))) (some (.inr (.inl ())))
def zg6(v1:zb)(v2:T0):Option (Int):=
  (zu (fun z=>zfy v1 v2 z) 0).bind fun o=>zU o (fun b=>zic) some
theorem zjw(v1:zb)(v2:T0){r:Int}(h:zg6 v1 v2=some r):zI Tryz.prog 119 [.agg (zc v1),sA v2] (iA r):=by
 refine zq Tryz.func119 y kz y y ?_
 unfold zg6 at h
 refine rg y<|u<|bx 0 6 y y y y<|u<|asg y<|za ?_
 refine zi ?_
 refine rg y<|u<|asg y<|za ?_
 obtain ⟨o,ho,h⟩:=bs h
 refine zX (X:=Int) (B:=Unit) (R:=Int) (fun z=>[(1,sA v2),(2,.mpt 0 0 0),(5,iA z)]) (fun z=>[some (6,[(zc v1)])]) (fun b=>[]) (fun b=>[]) (fun r env st=>zaN Tryz.prog Tryz.f119 0 (iA r) [] env st) ho (zo [.old 0]) ?_ ?_ ?_
 ·
  rintro v5 r h
  replace h:zfy v1 v2 v5=some r:=h
  unfold zfy at h
  refine zi ?_
  refine rg y<|u<|mv y<|u<|fa ti y y y<|u<|ld ti y y<|u<|lnI ti y y<|u<|lss ti y y<|za ?_
  refine ze y (fun hc4=>?_) (fun hc4=>?_)
  ·
   replace h:=bT hc4 h
   refine zg ?_
   refine zi ?_
   refine zr ?_
   obtain ⟨v6,q5,h⟩:=bs h
   refine rg y<|u<|fa ti y y y<|u<|ld ti y y<|u<|mv y<|u<|ixI ti y ti y y y q5<|u<|fa ti y y y<|u<|ldI ti y (zl q5).2.2 y<|u<|mv y<|u<|seq ti y y<|za ?_
   refine ze y (fun hc6=>?_) (fun hc6=>?_)
   ·
    replace h:=bT hc6 h
    refine rg y<|u<|mv y<|u<|asg y<|za ?_
    refine zj ?_
    obtain rfl:=sm h
    exact ⟨_,y,_,y,zy []⟩
   ·
    replace h:=bF hc6 h
    refine zg ?_
    refine rl y<|u<|mv y<|u<|add ti y y<|u<|asg y<|za ?_
    obtain rfl:=sm h
    exact ⟨_,y,zo [.old 0]⟩
  ·
   replace h:=bF hc4 h
   refine zD ?_
   obtain rfl:=sm h
   exact ⟨y,_,y,zo []⟩
 ·
  rintro ⟨⟩ rfl
  replace h:zic=some r:=h
  unfold zic at h
  refine zw ?_
  refine rg y<|u<|asg y<|za ?_
  refine zj ?_
  obtain rfl:=sm h
  exact ⟨_,y,zy []⟩
 ·
  rintro r' rfl env st hp
  obtain rfl:=sm h
  exact hp
def zna(v1:T0):Option (Bool):=
  (cond (v1 == [86]) (some true) ((zgn v1).bind fun v2=>some v2)).bind fun v3=>some v3
theorem zty(v1:T0){r:Bool}(h:zna v1=some r):zI Tryz.prog 195 [sA v1] (bA r):=by
 refine zq Tryz.func195 y kz y y ?_
 unfold zna at h
 refine rg y<|u<|asg y<|za ?_
 obtain ⟨v3,q3,h⟩:=bs h
 refine rg y<|u<|mv y<|u<|seq ti y y<|u<|mv y<|zdj (x:=v3) (j:=2) 2 y y y y y gpn (fun hb1=>by replace q3:=bF hb1 q3;obtain ⟨v2,q2,q3⟩:=bs q3;obtain rfl:=sm q3;exact g y hb1<|mv y<|g y hb1<|pc (zfh v1 q2) y y y<|za (eg [6,7] 2 y y y y)) (fun hb=>(sm (bT hb q3)).symm)<|u<|asg y<|za ?_
 refine zj ?_
 obtain rfl:=sm h
 exact ⟨_,y,zy []⟩
def zlH:Option (Bool):=
  some true
def ze6(v1:zd)(v15:Int):Option (Sum (Int) (Sum (Unit) (Bool))):=
  cond (decide (v15<(length v1.Traps:Int))) ((idx v1.Traps v15).bind fun v16=>(cond (((((decide (v16.From<0))||(decide (v16.To≤v16.From)))||(decide ((length v1.Code:Int)<v16.To)))||(decide (v16.At<0)))||(decide ((length v1.Code:Int)≤v16.At))) (some true) ((cond (!(v16.C == [])) ((zfv v16.C).bind fun v17=>some (!v17)) (some false)).bind fun v18=>some v18)).bind fun v19=>cond v19 (some (.inr (.inr false))) (some (.inl (IntKind.i64.wrap (v15+1))))) (some (.inr (.inl ())))
def zhj(v1:zd):Option (Bool):=
  (zu (fun z=>ze6 v1 z) 0).bind fun o=>zU o (fun b=>zlH) some
def ze3(v1:zd)(v7:Int):Option (Sum (Int) (Sum (Unit) (Bool))):=
  cond (decide (v7<(length v1.Code:Int))) ((idx v1.Code v7).bind fun v8=>(zi5 v8).bind fun v9=>cond ((!v9)||((zhZ v8.Op)&&(decide ((length v1.Code:Int)≤v8.A)))) (some (.inr (.inr false))) (some (.inl (IntKind.i64.wrap (v7+1))))) (some (.inr (.inl ())))
def zlu(v1:zd):Option (Bool):=
  (cond ((decide ((length v1.Code:Int)<1))||(decide (100<(length v1.Code:Int)))) (some true) ((idx v1.Code (IntKind.i64.wrap ((length v1.Code:Int)-1))).bind fun v2=>some (!(zhQ v2.Op)))).bind fun v3=>cond (v3||(decide (6<(length v1.Traps:Int)))) (some false) ((zu (fun z=>ze3 v1 z) 0).bind fun o=>zU o (fun b=>zhj v1) some)
theorem zsR(v1:zd){r:Bool}(h:zlu v1=some r):zI Tryz.prog 196 [.agg (zh v1)] (bA r):=by
 refine zq Tryz.func196 y kz y y ?_
 unfold zlu at h
 refine rg y<|u<|bx 0 10 y y y y<|u<|asg y<|za ?_
 refine rg y<|u<|fa ti y y y<|u<|ld ti y y<|u<|lnI ti y y<|u<|asg y<|za ?_
 refine zi ?_
 obtain ⟨v3,q4,h⟩:=bs h
 refine rg y<|u<|mv y<|u<|lss ti y y<|u<|mv y<|zdj (j:=2) 2 y y y y y gpn (fun hb1=>g y hb1<|mv y<|g y hb1<|gtr ti y y<|za (egO [14,15] 2 hb1 y y y y)) orT<|u<|mv y<|zdj (x:=v3) (j:=6) 9 y y y y y gpn (fun hb2=>by replace q4:=bF hb2 q4;obtain ⟨v2,q3,q4⟩:=bs q4;obtain rfl:=sm q4;exact g y hb2<|fa ti y y y<|g y hb2<|ld ti y y<|g y hb2<|mv y<|g y hb2<|sub ti y y<|g y hb2<|ixI ti y ti y y y q3<|g y hb2<|fa ti y y y<|g y hb2<|ldI ti y (zl q3).2.2 y<|g y hb2<|pc (zn8 v2.Op y) y y y<|g y hb2<|nt y<|za (eg [18,19,20,21,22,23,24,25,26] 9 y y y y)) (fun hb=>(sm (bT hb q4)).symm)<|u<|mv y<|zdj (j:=17) 4 y y y y y gpn (fun hb5=>g y hb5<|fa ti y y y<|g y hb5<|ld ti y y<|g y hb5<|lnI ti y y<|g y hb5<|gtr ti y y<|za (egO [29,30,31,32] 4 hb5 y y y y)) orT<|za ?_
 refine ze y (fun hc6=>?_) (fun hc6=>?_)
 ·
  replace h:=bT hc6 h
  refine rg y<|u<|asg y<|za ?_
  refine zj ?_
  obtain rfl:=sm h
  exact ⟨_,y,zy []⟩
 ·
  replace h:=bF hc6 h
  refine zg ?_
  refine zi ?_
  refine rg y<|u<|asg y<|za ?_
  obtain ⟨o,ho,h⟩:=bs h
  refine zX (X:=Int) (B:=Unit) (R:=Bool) (fun z=>[(1,.mpt 0 0 0),(3,iA (length v1.Code:Int)),(4,iA z)]) (fun z=>[some (10,[(zh v1)])]) (fun b=>[(1,.mpt 0 0 0),(3,iA (length v1.Code:Int))]) (fun b=>[some (10,[(zh v1)])]) (fun r env st=>zaN Tryz.prog Tryz.f196 0 (bA r) [] env st) ho (zo [.old 0]) ?_ ?_ ?_
  ·
   rintro v7 r h
   replace h:ze3 v1 v7=some r:=h
   unfold ze3 at h
   refine zi ?_
   refine rg y<|u<|mv y<|u<|mv y<|u<|lss ti y y<|za ?_
   refine ze y (fun hc13=>?_) (fun hc13=>?_)
   ·
    replace h:=bT hc13 h
    refine zg ?_
    refine zi ?_
    refine zr ?_
    obtain ⟨v8,q14,h⟩:=bs h
    refine rg y<|u<|fa ti y y y<|u<|ld ti y y<|u<|mv y<|u<|ixI ti y ti y y y q14<|u<|ldI ti y (zl q14).2.2 y<|u<|al 1 ti y<|u<|sto ti y y y<|za ?_
    obtain ⟨v9,q15,h⟩:=bs h
    refine rg y<|u<|ld ti y y<|u<|pc (zp5 v8 q15) y y y<|u<|nt y<|u<|mv y<|zdj (j:=3) 9 y y y y y gpn (fun hb16=>g y hb16<|fa ti y y y<|g y hb16<|ld ti y y<|g y hb16<|pc (zkL v8.Op y) y y y<|g y hb16<|mv y<|z7 (j:=7) 4 y y y y y (gps y y hb16) (fun hb17=>g y hb17<|fa ti y y y<|g y hb17<|ld ti y y<|g y hb17<|mv y<|g y hb17<|geq ti y y<|za (egA [52,53,54,55] 4 hb17 y y y y)) ze2<|za (egO [48,49,50,51,52,53,54,55,56] 5 hb16 y y y y)) orT<|za ?_
    refine ze y (fun hc18=>?_) (fun hc18=>?_)
    ·
     replace h:=bT hc18 h
     refine rg y<|u<|asg y<|za ?_
     refine zj ?_
     obtain rfl:=sm h
     exact ⟨_,y,_,y,zy []⟩
    ·
     replace h:=bF hc18 h
     refine zg ?_
     refine rl y<|u<|mv y<|u<|add ti y y<|u<|asg y<|za ?_
     obtain rfl:=sm h
     exact ⟨_,y,zo [.old 0]⟩
   ·
    replace h:=bF hc13 h
    refine zD ?_
    obtain rfl:=sm h
    exact ⟨y,_,y,zo [.old 0]⟩
  ·
   rintro ⟨⟩ rfl
   replace h:zhj v1=some r:=h
   unfold zhj at h
   refine zw ?_
   refine zi ?_
   refine rg y<|u<|asg y<|za ?_
   obtain ⟨o,ho,h⟩:=bs h
   refine zX (X:=Int) (B:=Unit) (R:=Bool) (fun z=>[(1,.mpt 0 0 0),(3,iA (length v1.Code:Int)),(6,iA z)]) (fun z=>[some (10,[(zh v1)])]) (fun b=>[]) (fun b=>[]) (fun r env st=>zaN Tryz.prog Tryz.f196 0 (bA r) [] env st) ho (zo [.old 0]) ?_ ?_ ?_
   ·
    rintro v15 r h
    replace h:ze6 v1 v15=some r:=h
    unfold ze6 at h
    refine zi ?_
    refine rg y<|u<|mv y<|u<|fa ti y y y<|u<|ld ti y y<|u<|lnI ti y y<|u<|lss ti y y<|za ?_
    refine ze y (fun hc31=>?_) (fun hc31=>?_)
    ·
     replace h:=bT hc31 h
     refine zg ?_
     refine zi ?_
     refine zr ?_
     obtain ⟨v16,q32,h⟩:=bs h
     refine rg y<|u<|fa ti y y y<|u<|ld ti y y<|u<|mv y<|u<|ixI ti y ti y y y q32<|u<|ldI ti y (zl q32).2.2 y<|u<|al 1 ti y<|u<|sto ti y y y<|za ?_
     obtain ⟨v19,q41,h⟩:=bs h
     refine rg y<|u<|fa ti y y y<|u<|ld ti y y<|u<|lss ti y y<|u<|mv y<|zdj (j:=3) 5 y y y y y gpn (fun hb33=>g y hb33<|fa ti y y y<|g y hb33<|ld ti y y<|g y hb33<|fa ti y y y<|g y hb33<|ld ti y y<|g y hb33<|geq ti y y<|za (egO [74,75,76,77,78] 5 hb33 y y y y)) orT<|u<|mv y<|zdj (j:=10) 4 y y y y y gpn (fun hb34=>g y hb34<|fa ti y y y<|g y hb34<|ld ti y y<|g y hb34<|mv y<|g y hb34<|gtr ti y y<|za (egO [81,82,83,84] 4 hb34 y y y y)) orT<|u<|mv y<|zdj (j:=16) 3 y y y y y gpn (fun hb35=>g y hb35<|fa ti y y y<|g y hb35<|ld ti y y<|g y hb35<|lss ti y y<|za (egO [87,88,89] 3 hb35 y y y y)) orT<|u<|mv y<|zdj (j:=21) 4 y y y y y gpn (fun hb36=>g y hb36<|fa ti y y y<|g y hb36<|ld ti y y<|g y hb36<|mv y<|g y hb36<|geq ti y y<|za (egO [92,93,94,95] 4 hb36 y y y y)) orT<|u<|mv y<|zdj (x:=v19) (j:=27) 9 y y y y y gpn (fun hb37=>by replace q41:=bF hb37 q41;obtain ⟨v18,q40,q41⟩:=bs q41;obtain rfl:=sm q41;exact g y hb37<|fa ti y y y<|g y hb37<|ld ti y y<|g y hb37<|sne ti y y<|g y hb37<|mv y<|z7 (x:=v18) (j:=31) 4 y y y y y (gps y y hb37) (fun hb38=>by replace q40:=bT hb38 q40;obtain ⟨v17,q39,q40⟩:=bs q40;obtain rfl:=sm q40;exact g y hb38<|fa ti y y y<|g y hb38<|ld ti y y<|g y hb38<|pc (zgo v16.C q39) y y y<|g y hb38<|nt y<|za (eg [102,103,104,105] 4 y y y y)) (fun hb=>(sm (bF hb q40)).symm)<|za (eg [98,99,100,101,102,103,104,105,106] 5 y y y y)) (fun hb=>(sm (bT hb q41)).symm)<|za ?_
     refine ze y (fun hc42=>?_) (fun hc42=>?_)
     ·
      replace h:=bT hc42 h
      refine rg y<|u<|asg y<|za ?_
      refine zj ?_
      obtain rfl:=sm h
      exact ⟨_,y,_,y,zy []⟩
     ·
      replace h:=bF hc42 h
      refine zg ?_
      refine rl y<|u<|mv y<|u<|add ti y y<|u<|asg y<|za ?_
      obtain rfl:=sm h
      exact ⟨_,y,zo [.old 0]⟩
    ·
     replace h:=bF hc31 h
     refine zD ?_
     obtain rfl:=sm h
     exact ⟨y,_,y,zo []⟩
   ·
    rintro ⟨⟩ rfl
    replace h:zlH=some r:=h
    unfold zlH at h
    refine zw ?_
    refine rg y<|u<|asg y<|za ?_
    refine zj ?_
    obtain rfl:=sm h
    exact ⟨_,y,zy []⟩
   ·
    rintro r' rfl env st hp
    obtain rfl:=sm h
    exact hp
  ·
   rintro r' rfl env st hp
   obtain rfl:=sm h
   exact hp
def zko:Option (Bool):=
  some true
def zkr(v22:Int):Option (Sum (Int) (Sum (Unit) (Bool))):=
  some (.inl (IntKind.i64.wrap (v22+1)))
def zeo(v23:zas)(v38:Int):Option (Sum (Int) (Sum (Unit) (Bool))):=
  cond (decide (v38<(length v23.Stack:Int))) ((idx v23.Stack v38).bind fun v39=>(cond (!(v39 == [78])) ((zgn v39).bind fun v40=>some (!v40)) (some false)).bind fun v41=>cond v41 (some (.inr (.inr false))) (some (.inl (IntKind.i64.wrap (v38+1))))) (some (.inr (.inl ())))
def zih(v22:Int)(v23:zas):Option (Sum (Int) (Sum (Unit) (Bool))):=
  (zu (fun z=>zeo v23 z) 0).bind fun o=>zU o (fun b=>zkr v22) (fun r=>some (.inr (.inr r)))
def zeC(v23:zas)(v30:Int):Option (Sum (Int) (Sum (Unit) (Bool))):=
  cond (decide (v30<(length v23.Locals:Int))) ((idx v23.Locals v30).bind fun v31=>(cond ((!(v31 == [84]))&&(!(v31 == [78]))) ((zgn v31).bind fun v32=>some (!v32)) (some false)).bind fun v33=>cond v33 (some (.inr (.inr false))) (some (.inl (IntKind.i64.wrap (v30+1))))) (some (.inr (.inl ())))
def zcr(v22:Int)(v23:zas)(v25:Bool):Option (Sum (Int) (Sum (Unit) (Bool))):=
  cond v25 (some (.inr (.inr false))) ((zu (fun z=>zeC v23 z) 0).bind fun o=>zU o (fun b=>zih v22 v23) (fun r=>some (.inr (.inr r))))
def zey(v1:zd)(v22:Int):Option (Sum (Int) (Sum (Unit) (Bool))):=
  cond (decide (v22<(length v1.Maps:Int))) ((idx v1.Maps v22).bind fun v23=>cond (decide (v23.At<0)) (zcr v22 v23 true) (cond (decide ((length v1.Code:Int)≤v23.At)) (zcr v22 v23 true) (cond (decide (0<v22)) ((idx v1.Maps (IntKind.i64.wrap (v22-1))).bind fun v24=>cond (decide (v23.At≤v24.At)) (zcr v22 v23 true) (cond (!((length v23.Locals:Int) == v1.Locals)) (zcr v22 v23 true) (zcr v22 v23 (decide (v1.Stack<(length v23.Stack:Int)))))) (cond (!((length v23.Locals:Int) == v1.Locals)) (zcr v22 v23 true) (zcr v22 v23 (decide (v1.Stack<(length v23.Stack:Int)))))))) (some (.inr (.inl ())))
def zle(v1:zd):Option (Bool):=
  cond (decide (100<(length v1.Maps:Int))) (some false) ((zu (fun z=>zey v1 z) 0).bind fun o=>zU o (fun b=>zko) some)
theorem zsB(v1:zd){r:Bool}(h:zle v1=some r):zI Tryz.prog 197 [.agg (zh v1)] (bA r):=by
 refine zq Tryz.func197 y kz y y ?_
 unfold zle at h
 refine rg y<|u<|bx 0 10 y y y y<|u<|asg y<|za ?_
 refine zi ?_
 refine rg y<|u<|fa ti y y y<|u<|ld ti y y<|u<|lnI ti y y<|u<|gtr ti y y<|za ?_
 refine ze y (fun hc1=>?_) (fun hc1=>?_)
 ·
  replace h:=bT hc1 h
  refine rg y<|u<|asg y<|za ?_
  refine zj ?_
  obtain rfl:=sm h
  exact ⟨_,y,zy []⟩
 ·
  replace h:=bF hc1 h
  refine zg ?_
  refine zi ?_
  refine rg y<|u<|asg y<|za ?_
  obtain ⟨o,ho,h⟩:=bs h
  refine zX (X:=Int) (B:=Unit) (R:=Bool) (fun z=>[(1,.mpt 0 0 0),(3,iA z)]) (fun z=>[some (10,[(zh v1)])]) (fun b=>[]) (fun b=>[]) (fun r env st=>zaN Tryz.prog Tryz.f197 0 (bA r) [] env st) ho (zo [.old 0]) ?_ ?_ ?_
  ·
   rintro v22 r h
   replace h:zey v1 v22=some r:=h
   unfold zey at h
   refine zi ?_
   refine rg y<|u<|mv y<|u<|fa ti y y y<|u<|ld ti y y<|u<|lnI ti y y<|u<|lss ti y y<|za ?_
   refine ze y (fun hc38=>?_) (fun hc38=>?_)
   ·
    replace h:=bT hc38 h
    refine zg ?_
    refine zi ?_
    refine zr ?_
    obtain ⟨v23,q39,h⟩:=bs h
    refine rg y<|u<|fa ti y y y<|u<|ld ti y y<|u<|mv y<|u<|ixI ti y ti y y y q39<|u<|ldI ti y (zl q39).2.2 y<|u<|al 1 ti y<|u<|sto ti y y y<|za ?_
    refine zi ?_
    refine za6 (X:=Bool) (fun z=>[(1,.mpt 0 0 0),(3,iA v22),(4,.mpt 1 0 0),(67,bA z)]) (fun z=>[some (10,[(zh v1)]),some (3,[(zP v23)])]) (fun z=>zcr v22 v23 z=some r) ?_ ?_
    ·
     rcases bb (decide (v23.At<0)) with hb40 |hb40
     ·
      replace h:=bT hb40 h
      exact zae [] [42,41,40,39,38,37,36,35,34,33,32,31,30,29,28,27,26,25,24,23,22,21,20,19,18,17,16,15,14,13,12,11,10,9,8,7,6,5,4,3,2,1,0] [(67,bA true),(66,.lit undef),(65,.lit undef),(64,.lit undef),(63,.lit undef),(62,.lit undef),(61,.lit undef),(60,bA true),(59,bA true),(58,.lit undef),(57,.lit undef),(56,.lit undef),(55,.lit undef),(54,.lit undef),(53,.lit undef),(52,bA true),(51,bA true),(50,.lit undef),(49,.lit undef),(48,.lit undef),(47,.lit undef),(46,.lit undef),(45,.lit undef),(44,.lit undef),(43,.lit undef),(42,.lit undef),(41,.lit undef),(40,.lit undef),(39,.lit undef),(38,.lit undef),(37,.lit undef),(36,bA true),(35,bA true),(34,.lit undef),(33,.lit undef),(32,.lit undef),(31,.lit undef),(30,.lit undef),(29,.lit undef),(28,bA (decide (v23.At<0))),(27,bA (decide (v23.At<0))),(26,iA v23.At),(25,.mpt 1 0 0)] 0 kz kz y kz (zhW ⟨true,h,zo [.old 0,.old 1]⟩)
     ·
      replace h:=bF hb40 h
      rcases bb (decide ((length v1.Code:Int)≤v23.At)) with hb41 |hb41
      ·
       replace h:=bT hb41 h
       exact zae [] [42,41,40,39,38,37,36,35,34,33,32,31,30,29,28,27,26,25,24,23,22,21,20,19,18,17,16,15,14,13,12,11,10,9,8,7,6,5,4,3,2,1,0] [(67,bA true),(66,.lit undef),(65,.lit undef),(64,.lit undef),(63,.lit undef),(62,.lit undef),(61,.lit undef),(60,bA true),(59,bA true),(58,.lit undef),(57,.lit undef),(56,.lit undef),(55,.lit undef),(54,.lit undef),(53,.lit undef),(52,bA true),(51,bA true),(50,.lit undef),(49,.lit undef),(48,.lit undef),(47,.lit undef),(46,.lit undef),(45,.lit undef),(44,.lit undef),(43,.lit undef),(42,.lit undef),(41,.lit undef),(40,.lit undef),(39,.lit undef),(38,.lit undef),(37,.lit undef),(36,bA (decide ((length v1.Code:Int)≤v23.At))),(35,bA (decide ((length v1.Code:Int)≤v23.At))),(34,bA (decide ((length v1.Code:Int)≤v23.At))),(33,iA (length v1.Code:Int)),(32,.isl 4 (map zv v1.Code)),(31,.mpt 0 0 7),(30,iA v23.At),(29,.mpt 1 0 0),(28,bA (decide (v23.At<0))),(27,bA (decide (v23.At<0))),(26,iA v23.At),(25,.mpt 1 0 0)] 0 kz kz y kz (zht ⟨pe,pe,pe,pe,pe,pe,pe,pe,pe,pe,pe,pe,pe,pe,pe,pe,pe,pe,pe,pe,pe,pe,pe,pe,pe,pe,pe,pe,pe,pe,pe,pe,pe,pe,(fun _=>pag (b:=(decide (v23.At<0))) y y y y hb40 y (lnI ti y y<|w)),pe,pe,pe,pe,pe,pe,pe,pe,t⟩ ⟨true,h,zo [.old 0,.old 1]⟩)
      ·
       replace h:=bF hb41 h
       rcases bb (decide (0<v22)) with hb42 |hb42
       ·
        replace h:=bT hb42 h
        obtain ⟨v24,q43,h⟩:=bs h
        rcases bb (decide (v23.At≤v24.At)) with hb44 |hb44
        ·
         replace h:=bT hb44 h
         exact zae [] [42,41,40,39,38,37,36,35,34,33,32,31,30,29,28,27,26,25,24,23,22,21,20,19,18,17,16,15,14,13,12,11,10,9,8,7,6,5,4,3,2,1,0] [(67,bA true),(66,.lit undef),(65,.lit undef),(64,.lit undef),(63,.lit undef),(62,.lit undef),(61,.lit undef),(60,bA true),(59,bA true),(58,.lit undef),(57,.lit undef),(56,.lit undef),(55,.lit undef),(54,.lit undef),(53,.lit undef),(52,bA (decide (v23.At≤v24.At))),(51,bA (decide (v23.At≤v24.At))),(50,bA (decide (v23.At≤v24.At))),(49,bA (decide (v23.At≤v24.At))),(48,iA v24.At),(47,.ipt 3 (map zP v1.Maps) (Int.toNat (IntKind.i64.wrap (v22-1))) 0),(46,.ipt 3 (map zP v1.Maps) (Int.toNat (IntKind.i64.wrap (v22-1))) 0),(45,iA (IntKind.i64.wrap (v22-1))),(44,iA v22),(43,.isl 3 (map zP v1.Maps)),(42,.mpt 0 0 8),(41,iA v23.At),(40,.mpt 1 0 0),(39,bA (decide (0<v22))),(38,bA (decide (0<v22))),(37,iA v22),(36,bA (decide ((length v1.Code:Int)≤v23.At))),(35,bA (decide ((length v1.Code:Int)≤v23.At))),(34,bA (decide ((length v1.Code:Int)≤v23.At))),(33,iA (length v1.Code:Int)),(32,.isl 4 (map zv v1.Code)),(31,.mpt 0 0 7),(30,iA v23.At),(29,.mpt 1 0 0),(28,bA (decide (v23.At<0))),(27,bA (decide (v23.At<0))),(26,iA v23.At),(25,.mpt 1 0 0)] 0 kz kz y kz (zht ⟨pe,pe,pe,pe,pe,pe,pe,pe,pe,pe,pe,pe,pe,pe,pe,pe,pe,pe,pe,(fun _=>pag (b:=(decide (0<v22))) y y y y hb42 y (ldI ti y (zl q43).2.2 y<|w)),pe,(fun _=>pag (b:=(decide (0<v22))) y y y y hb42 y (ixI ti y ti y y y q43<|w)),(fun _=>pag (b:=(decide (0<v22))) y y y y hb42 y (sub ti y y<|w)),pe,pe,pe,pe,pe,pe,pe,pe,pe,pe,pe,(fun _=>pag (b:=(decide (v23.At<0))) y y y y hb40 y (lnI ti y y<|w)),pe,pe,pe,pe,pe,pe,pe,pe,t⟩ ⟨true,h,zo [.old 0,.old 1]⟩)
        ·
         replace h:=bF hb44 h
         rcases bb (!((length v23.Locals:Int) == v1.Locals)) with hb45 |hb45
         ·
          replace h:=bT hb45 h
          exact zae [] [42,41,40,39,38,37,36,35,34,33,32,31,30,29,28,27,26,25,24,23,22,21,20,19,18,17,16,15,14,13,12,11,10,9,8,7,6,5,4,3,2,1,0] [(67,bA true),(66,.lit undef),(65,.lit undef),(64,.lit undef),(63,.lit undef),(62,.lit undef),(61,.lit undef),(60,bA (!((length v23.Locals:Int) == v1.Locals))),(59,bA (!((length v23.Locals:Int) == v1.Locals))),(58,bA (!((length v23.Locals:Int) == v1.Locals))),(57,iA v1.Locals),(56,.mpt 0 0 5),(55,iA (length v23.Locals:Int)),(54,.isl 1 (map zf v23.Locals)),(53,.mpt 1 0 1),(52,bA (decide (v23.At≤v24.At))),(51,bA (decide (v23.At≤v24.At))),(50,bA (decide (v23.At≤v24.At))),(49,bA (decide (v23.At≤v24.At))),(48,iA v24.At),(47,.ipt 3 (map zP v1.Maps) (Int.toNat (IntKind.i64.wrap (v22-1))) 0),(46,.ipt 3 (map zP v1.Maps) (Int.toNat (IntKind.i64.wrap (v22-1))) 0),(45,iA (IntKind.i64.wrap (v22-1))),(44,iA v22),(43,.isl 3 (map zP v1.Maps)),(42,.mpt 0 0 8),(41,iA v23.At),(40,.mpt 1 0 0),(39,bA (decide (0<v22))),(38,bA (decide (0<v22))),(37,iA v22),(36,bA (decide ((length v1.Code:Int)≤v23.At))),(35,bA (decide ((length v1.Code:Int)≤v23.At))),(34,bA (decide ((length v1.Code:Int)≤v23.At))),(33,iA (length v1.Code:Int)),(32,.isl 4 (map zv v1.Code)),(31,.mpt 0 0 7),(30,iA v23.At),(29,.mpt 1 0 0),(28,bA (decide (v23.At<0))),(27,bA (decide (v23.At<0))),(26,iA v23.At),(25,.mpt 1 0 0)] 0 kz kz y kz (zht ⟨pe,pe,pe,pe,pe,pe,pe,pe,pe,pe,pe,pe,(fun _=>pag (b:=(decide (v23.At≤v24.At))) y y y y hb44 y (lnI ti y y<|w)),pe,pe,pe,pe,pe,pe,(fun _=>pag (b:=(decide (0<v22))) y y y y hb42 y (ldI ti y (zl q43).2.2 y<|w)),pe,(fun _=>pag (b:=(decide (0<v22))) y y y y hb42 y (ixI ti y ti y y y q43<|w)),(fun _=>pag (b:=(decide (0<v22))) y y y y hb42 y (sub ti y y<|w)),pe,pe,pe,pe,pe,pe,pe,pe,pe,pe,pe,(fun _=>pag (b:=(decide (v23.At<0))) y y y y hb40 y (lnI ti y y<|w)),pe,pe,pe,pe,pe,pe,pe,pe,t⟩ ⟨true,h,zo [.old 0,.old 1]⟩)
         ·
          replace h:=bF hb45 h
          exact zae [] [42,41,40,39,38,37,36,35,34,33,32,31,30,29,28,27,26,25,24,23,22,21,20,19,18,17,16,15,14,13,12,11,10,9,8,7,6,5,4,3,2,1,0] [(67,bA (decide (v1.Stack<(length v23.Stack:Int)))),(66,bA (decide (v1.Stack<(length v23.Stack:Int)))),(65,iA v1.Stack),(64,.mpt 0 0 6),(63,iA (length v23.Stack:Int)),(62,.isl 1 (map zf v23.Stack)),(61,.mpt 1 0 2),(60,bA (!((length v23.Locals:Int) == v1.Locals))),(59,bA (!((length v23.Locals:Int) == v1.Locals))),(58,bA (!((length v23.Locals:Int) == v1.Locals))),(57,iA v1.Locals),(56,.mpt 0 0 5),(55,iA (length v23.Locals:Int)),(54,.isl 1 (map zf v23.Locals)),(53,.mpt 1 0 1),(52,bA (decide (v23.At≤v24.At))),(51,bA (decide (v23.At≤v24.At))),(50,bA (decide (v23.At≤v24.At))),(49,bA (decide (v23.At≤v24.At))),(48,iA v24.At),(47,.ipt 3 (map zP v1.Maps) (Int.toNat (IntKind.i64.wrap (v22-1))) 0),(46,.ipt 3 (map zP v1.Maps) (Int.toNat (IntKind.i64.wrap (v22-1))) 0),(45,iA (IntKind.i64.wrap (v22-1))),(44,iA v22),(43,.isl 3 (map zP v1.Maps)),(42,.mpt 0 0 8),(41,iA v23.At),(40,.mpt 1 0 0),(39,bA (decide (0<v22))),(38,bA (decide (0<v22))),(37,iA v22),(36,bA (decide ((length v1.Code:Int)≤v23.At))),(35,bA (decide ((length v1.Code:Int)≤v23.At))),(34,bA (decide ((length v1.Code:Int)≤v23.At))),(33,iA (length v1.Code:Int)),(32,.isl 4 (map zv v1.Code)),(31,.mpt 0 0 7),(30,iA v23.At),(29,.mpt 1 0 0),(28,bA (decide (v23.At<0))),(27,bA (decide (v23.At<0))),(26,iA v23.At),(25,.mpt 1 0 0)] 0 kz kz y kz (zht ⟨pe,pe,pe,pe,(fun _=>pag (b:=(!((length v23.Locals:Int) == v1.Locals))) y y y y hb45 y (lnI ti y y<|w)),pe,pe,pe,pe,pe,pe,pe,(fun _=>pag (b:=(decide (v23.At≤v24.At))) y y y y hb44 y (lnI ti y y<|w)),pe,pe,pe,pe,pe,pe,(fun _=>pag (b:=(decide (0<v22))) y y y y hb42 y (ldI ti y (zl q43).2.2 y<|w)),pe,(fun _=>pag (b:=(decide (0<v22))) y y y y hb42 y (ixI ti y ti y y y q43<|w)),(fun _=>pag (b:=(decide (0<v22))) y y y y hb42 y (sub ti y y<|w)),pe,pe,pe,pe,pe,pe,pe,pe,pe,pe,pe,(fun _=>pag (b:=(decide (v23.At<0))) y y y y hb40 y (lnI ti y y<|w)),pe,pe,pe,pe,pe,pe,pe,pe,t⟩ ⟨(decide (v1.Stack<(length v23.Stack:Int))),h,zo [.old 0,.old 1]⟩)
       ·
        replace h:=bF hb42 h
        rcases bb (!((length v23.Locals:Int) == v1.Locals)) with hb46 |hb46
        ·
         replace h:=bT hb46 h
         exact zae [] [42,41,40,39,38,37,36,35,34,33,32,31,30,29,28,27,26,25,24,23,22,21,20,19,18,17,16,15,14,13,12,11,10,9,8,7,6,5,4,3,2,1,0] [(67,bA true),(66,.lit undef),(65,.lit undef),(64,.lit undef),(63,.lit undef),(62,.lit undef),(61,.lit undef),(60,bA (!((length v23.Locals:Int) == v1.Locals))),(59,bA (!((length v23.Locals:Int) == v1.Locals))),(58,bA (!((length v23.Locals:Int) == v1.Locals))),(57,iA v1.Locals),(56,.mpt 0 0 5),(55,iA (length v23.Locals:Int)),(54,.isl 1 (map zf v23.Locals)),(53,.mpt 1 0 1),(52,bA false),(51,bA false),(50,bA false),(49,.lit undef),(48,.lit undef),(47,.lit undef),(46,.lit undef),(45,.lit undef),(44,.lit undef),(43,.lit undef),(42,.lit undef),(41,.lit undef),(40,.lit undef),(39,bA (decide (0<v22))),(38,bA (decide (0<v22))),(37,iA v22),(36,bA (decide ((length v1.Code:Int)≤v23.At))),(35,bA (decide ((length v1.Code:Int)≤v23.At))),(34,bA (decide ((length v1.Code:Int)≤v23.At))),(33,iA (length v1.Code:Int)),(32,.isl 4 (map zv v1.Code)),(31,.mpt 0 0 7),(30,iA v23.At),(29,.mpt 1 0 0),(28,bA (decide (v23.At<0))),(27,bA (decide (v23.At<0))),(26,iA v23.At),(25,.mpt 1 0 0)] 0 kz kz y kz (zht ⟨pe,pe,pe,pe,pe,pe,pe,pe,pe,pe,pe,pe,(fun _=>pag (b:=false) y y y y y y (lnI ti y y<|w)),pe,pe,pe,pe,pe,pe,pe,pe,pe,pe,pe,pe,pe,pe,pe,pe,pe,pe,pe,pe,pe,(fun _=>pag (b:=(decide (v23.At<0))) y y y y hb40 y (lnI ti y y<|w)),pe,pe,pe,pe,pe,pe,pe,pe,t⟩ ⟨true,h,zo [.old 0,.old 1]⟩)
        ·
         replace h:=bF hb46 h
         exact zae [] [42,41,40,39,38,37,36,35,34,33,32,31,30,29,28,27,26,25,24,23,22,21,20,19,18,17,16,15,14,13,12,11,10,9,8,7,6,5,4,3,2,1,0] [(67,bA (decide (v1.Stack<(length v23.Stack:Int)))),(66,bA (decide (v1.Stack<(length v23.Stack:Int)))),(65,iA v1.Stack),(64,.mpt 0 0 6),(63,iA (length v23.Stack:Int)),(62,.isl 1 (map zf v23.Stack)),(61,.mpt 1 0 2),(60,bA (!((length v23.Locals:Int) == v1.Locals))),(59,bA (!((length v23.Locals:Int) == v1.Locals))),(58,bA (!((length v23.Locals:Int) == v1.Locals))),(57,iA v1.Locals),(56,.mpt 0 0 5),(55,iA (length v23.Locals:Int)),(54,.isl 1 (map zf v23.Locals)),(53,.mpt 1 0 1),(52,bA false),(51,bA false),(50,bA false),(49,.lit undef),(48,.lit undef),(47,.lit undef),(46,.lit undef),(45,.lit undef),(44,.lit undef),(43,.lit undef),(42,.lit undef),(41,.lit undef),(40,.lit undef),(39,bA (decide (0<v22))),(38,bA (decide (0<v22))),(37,iA v22),(36,bA (decide ((length v1.Code:Int)≤v23.At))),(35,bA (decide ((length v1.Code:Int)≤v23.At))),(34,bA (decide ((length v1.Code:Int)≤v23.At))),(33,iA (length v1.Code:Int)),(32,.isl 4 (map zv v1.Code)),(31,.mpt 0 0 7),(30,iA v23.At),(29,.mpt 1 0 0),(28,bA (decide (v23.At<0))),(27,bA (decide (v23.At<0))),(26,iA v23.At),(25,.mpt 1 0 0)] 0 kz kz y kz (zht ⟨pe,pe,pe,pe,(fun _=>pag (b:=(!((length v23.Locals:Int) == v1.Locals))) y y y y hb46 y (lnI ti y y<|w)),pe,pe,pe,pe,pe,pe,pe,(fun _=>pag (b:=false) y y y y y y (lnI ti y y<|w)),pe,pe,pe,pe,pe,pe,pe,pe,pe,pe,pe,pe,pe,pe,pe,pe,pe,pe,pe,pe,pe,(fun _=>pag (b:=(decide (v23.At<0))) y y y y hb40 y (lnI ti y y<|w)),pe,pe,pe,pe,pe,pe,pe,pe,t⟩ ⟨(decide (v1.Stack<(length v23.Stack:Int))),h,zo [.old 0,.old 1]⟩)
    ·
     rintro v25 h
     replace h:zcr v22 v23 v25=some r:=h
     unfold zcr at h
     refine ze y (fun hc47=>?_) (fun hc47=>?_)
     ·
      replace h:=bT hc47 h
      refine rg y<|u<|asg y<|za ?_
      refine zj ?_
      obtain rfl:=sm h
      exact ⟨_,y,_,y,zy []⟩
     ·
      replace h:=bF hc47 h
      refine zg ?_
      refine zi ?_
      refine rg y<|u<|asg y<|za ?_
      obtain ⟨o,ho,h⟩:=bs h
      refine zX (X:=Int) (B:=Unit) (R:=Bool) (fun z=>[(1,.mpt 0 0 0),(3,iA v22),(4,.mpt 1 0 0),(5,iA z)]) (fun z=>[some (10,[(zh v1)]),some (3,[(zP v23)])]) (fun b=>[(1,.mpt 0 0 0),(3,iA v22),(4,.mpt 1 0 0)]) (fun b=>[some (10,[(zh v1)]),some (3,[(zP v23)])]) (fun r env st=>zaN Tryz.prog Tryz.f197 0 (bA r) [] env st) ho (zo [.old 0,.old 1]) ?_ ?_ ?_
      ·
       rintro v30 r h
       replace h:zeC v23 v30=some r:=h
       unfold zeC at h
       refine zi ?_
       refine rg y<|u<|mv y<|u<|fa ti y y y<|u<|ld ti y y<|u<|lnI ti y y<|u<|lss ti y y<|za ?_
       refine ze y (fun hc55=>?_) (fun hc55=>?_)
       ·
        replace h:=bT hc55 h
        refine zg ?_
        refine zi ?_
        refine zr ?_
        obtain ⟨v31,q56,h⟩:=bs h
        refine rg y<|u<|fa ti y y y<|u<|ld ti y y<|u<|mv y<|u<|ixI ti y ti y y y q56<|u<|ldI ti y (zl q56).2.2 y<|u<|asg y<|za ?_
        obtain ⟨v33,q60,h⟩:=bs h
        refine rg y<|u<|mv y<|u<|sne ti y y<|u<|mv y<|z7 (j:=2) 2 y y y y y gpn (fun hb57=>g y hb57<|mv y<|g y hb57<|sne ti y y<|za (egA [83,84] 2 hb57 y y y y)) ze2<|u<|mv y<|z7 (x:=v33) (j:=6) 3 y y y y y gpn (fun hb58=>by replace q60:=bT hb58 q60;obtain ⟨v32,q59,q60⟩:=bs q60;obtain rfl:=sm q60;exact g y hb58<|mv y<|g y hb58<|pc (zfh v31 q59) y y y<|g y hb58<|nt y<|za (eg [87,88,89] 3 y y y y)) (fun hb=>(sm (bF hb q60)).symm)<|za ?_
        refine ze y (fun hc61=>?_) (fun hc61=>?_)
        ·
         replace h:=bT hc61 h
         refine rg y<|u<|asg y<|za ?_
         refine zj ?_
         obtain rfl:=sm h
         exact ⟨_,y,_,y,zy []⟩
        ·
         replace h:=bF hc61 h
         refine zg ?_
         refine rl y<|u<|mv y<|u<|add ti y y<|u<|asg y<|za ?_
         obtain rfl:=sm h
         exact ⟨_,y,zo [.old 0,.old 1]⟩
       ·
        replace h:=bF hc55 h
        refine zD ?_
        obtain rfl:=sm h
        exact ⟨y,_,y,zo [.old 0,.old 1]⟩
      ·
       rintro ⟨⟩ rfl
       replace h:zih v22 v23=some r:=h
       unfold zih at h
       refine zw ?_
       refine rg y<|u<|asg y<|za ?_
       obtain ⟨o,ho,h⟩:=bs h
       refine zX (X:=Int) (B:=Unit) (R:=Bool) (fun z=>[(1,.mpt 0 0 0),(3,iA v22),(4,.mpt 1 0 0),(7,iA z)]) (fun z=>[some (10,[(zh v1)]),some (3,[(zP v23)])]) (fun b=>[(1,.mpt 0 0 0),(3,iA v22)]) (fun b=>[some (10,[(zh v1)])]) (fun r env st=>zaN Tryz.prog Tryz.f197 0 (bA r) [] env st) ho (zo [.old 0,.old 1]) ?_ ?_ ?_
       ·
        rintro v38 r h
        replace h:zeo v23 v38=some r:=h
        unfold zeo at h
        refine zi ?_
        refine rg y<|u<|mv y<|u<|fa ti y y y<|u<|ld ti y y<|u<|lnI ti y y<|u<|lss ti y y<|za ?_
        refine ze y (fun hc68=>?_) (fun hc68=>?_)
        ·
         replace h:=bT hc68 h
         refine zg ?_
         refine zi ?_
         refine zr ?_
         obtain ⟨v39,q69,h⟩:=bs h
         refine rg y<|u<|fa ti y y y<|u<|ld ti y y<|u<|mv y<|u<|ixI ti y ti y y y q69<|u<|ldI ti y (zl q69).2.2 y<|u<|asg y<|za ?_
         obtain ⟨v41,q72,h⟩:=bs h
         refine rg y<|u<|mv y<|u<|sne ti y y<|u<|mv y<|z7 (x:=v41) (j:=2) 3 y y y y y gpn (fun hb70=>by replace q72:=bT hb70 q72;obtain ⟨v40,q71,q72⟩:=bs q72;obtain rfl:=sm q72;exact g y hb70<|mv y<|g y hb70<|pc (zfh v39 q71) y y y<|g y hb70<|nt y<|za (eg [106,107,108] 3 y y y y)) (fun hb=>(sm (bF hb q72)).symm)<|za ?_
         refine ze y (fun hc73=>?_) (fun hc73=>?_)
         ·
          replace h:=bT hc73 h
          refine rg y<|u<|asg y<|za ?_
          refine zj ?_
          obtain rfl:=sm h
          exact ⟨_,y,_,y,zy []⟩
         ·
          replace h:=bF hc73 h
          refine zg ?_
          refine rl y<|u<|mv y<|u<|add ti y y<|u<|asg y<|za ?_
          obtain rfl:=sm h
          exact ⟨_,y,zo [.old 0,.old 1]⟩
        ·
         replace h:=bF hc68 h
         refine zD ?_
         obtain rfl:=sm h
         exact ⟨y,_,y,zo [.old 0]⟩
       ·
        rintro ⟨⟩ rfl
        replace h:zkr v22=some r:=h
        unfold zkr at h
        refine zw ?_
        refine rl y<|u<|mv y<|u<|add ti y y<|u<|asg y<|za ?_
        obtain rfl:=sm h
        exact ⟨_,y,zo [.old 0]⟩
       ·
        rintro r' rfl env st hp
        obtain rfl:=sm h
        exact ⟨_,y,hp⟩
      ·
       rintro r' rfl env st hp
       obtain rfl:=sm h
       exact ⟨_,y,hp⟩
   ·
    replace h:=bF hc38 h
    refine zD ?_
    obtain rfl:=sm h
    exact ⟨y,_,y,zo []⟩
  ·
   rintro ⟨⟩ rfl
   replace h:zko=some r:=h
   unfold zko at h
   refine zw ?_
   refine rg y<|u<|asg y<|za ?_
   refine zj ?_
   obtain rfl:=sm h
   exact ⟨_,y,zy []⟩
  ·
   rintro r' rfl env st hp
   obtain rfl:=sm h
   exact hp
def zdr(v1:zd)(v11:Int):Option (Bool):=
  cond ((((decide (v1.Locals<v11))||(decide (16<v1.Locals)))||(decide (v1.Stack<0)))||(decide (16<v1.Stack))) (some false) ((zlu v1).bind fun v12=>(cond v12 ((zle v1).bind fun v13=>some v13) (some false)).bind fun v14=>some v14)
def zeP(v1:zd):Option (Bool):=
  cond v1.Abstract (some (((((((!v1.Static)&&(!(v1.Name == [36,105,110,105,116])))&&(v1.Locals == (0:Int)))&&(v1.Stack == (0:Int)))&&((length v1.Code:Int) == (0:Int)))&&((length v1.Maps:Int) == (0:Int)))&&((length v1.Traps:Int) == (0:Int)))) (cond ((v1.Name == [36,105,110,105,116])&&(((!v1.Static)||(decide (0<(length v1.Params:Int))))||(!(v1.Ret == [86])))) (some false) (cond (!v1.Static) (zdr v1 (IntKind.i64.wrap ((length v1.Params:Int)+1))) (zdr v1 (length v1.Params:Int))))
def zcO(v1:zd)(v8:Int):Option (Sum (Int) (Sum (Unit) (Bool))):=
  cond (decide (v8<(length v1.Params:Int))) ((idx v1.Params v8).bind fun v9=>(zgn v9).bind fun v10=>cond (!v10) (some (.inr (.inr false))) (some (.inl (IntKind.i64.wrap (v8+1))))) (some (.inr (.inl ())))
def zgJ(v1:zd):Option (Bool):=
  (zjf v1.Name).bind fun v2=>(cond ((!v2)||(decide (6<(length v1.Params:Int)))) (some true) ((zna v1.Ret).bind fun v3=>some (!v3))).bind fun v4=>cond v4 (some false) ((zu (fun z=>zcO v1 z) 0).bind fun o=>zU o (fun b=>zeP v1) some)
theorem znG(v1:zd){r:Bool}(h:zgJ v1=some r):zI Tryz.prog 120 [.agg (zh v1)] (bA r):=by
 refine zq Tryz.func120 y kz y y ?_
 unfold zgJ at h
 refine rg y<|u<|bx 0 10 y y y y<|u<|asg y<|za ?_
 refine zi ?_
 obtain ⟨v2,q1,h⟩:=bs h
 obtain ⟨v4,q5,h⟩:=bs h
 refine rg y<|u<|fa ti y y y<|u<|ld ti y y<|u<|pc (zlI v1.Name q1) y y y<|u<|nt y<|u<|mv y<|zdj (j:=4) 4 y y y y y gpn (fun hb2=>g y hb2<|fa ti y y y<|g y hb2<|ld ti y y<|g y hb2<|lnI ti y y<|g y hb2<|gtr ti y y<|za (egO [10,11,12,13] 4 hb2 y y y y)) orT<|u<|mv y<|zdj (x:=v4) (j:=10) 4 y y y y y gpn (fun hb3=>by replace q5:=bF hb3 q5;obtain ⟨v3,q4,q5⟩:=bs q5;obtain rfl:=sm q5;exact g y hb3<|fa ti y y y<|g y hb3<|ld ti y y<|g y hb3<|pc (zty v1.Ret q4) y y y<|g y hb3<|nt y<|za (eg [16,17,18,19] 4 y y y y)) (fun hb=>(sm (bT hb q5)).symm)<|za ?_
 refine ze y (fun hc6=>?_) (fun hc6=>?_)
 ·
  replace h:=bT hc6 h
  refine rg y<|u<|asg y<|za ?_
  refine zj ?_
  obtain rfl:=sm h
  exact ⟨_,y,zy []⟩
 ·
  replace h:=bF hc6 h
  refine zg ?_
  refine zi ?_
  refine rg y<|u<|asg y<|za ?_
  obtain ⟨o,ho,h⟩:=bs h
  refine zX (X:=Int) (B:=Unit) (R:=Bool) (fun z=>[(1,.mpt 0 0 0),(3,iA z)]) (fun z=>[some (10,[(zh v1)])]) (fun b=>[(1,.mpt 0 0 0)]) (fun b=>[some (10,[(zh v1)])]) (fun r env st=>zaN Tryz.prog Tryz.f120 0 (bA r) [] env st) ho (zo [.old 0]) ?_ ?_ ?_
  ·
   rintro v8 r h
   replace h:zcO v1 v8=some r:=h
   unfold zcO at h
   refine zi ?_
   refine rg y<|u<|mv y<|u<|fa ti y y y<|u<|ld ti y y<|u<|lnI ti y y<|u<|lss ti y y<|za ?_
   refine ze y (fun hc11=>?_) (fun hc11=>?_)
   ·
    replace h:=bT hc11 h
    refine zg ?_
    refine zi ?_
    refine zr ?_
    obtain ⟨v9,q12,h⟩:=bs h
    obtain ⟨v10,q13,h⟩:=bs h
    refine rg y<|u<|fa ti y y y<|u<|ld ti y y<|u<|mv y<|u<|ixI ti y ti y y y q12<|u<|ldI ti y (zl q12).2.2 y<|u<|pc (zfh v9 q13) y y y<|u<|nt y<|za ?_
    refine ze y (fun hc14=>?_) (fun hc14=>?_)
    ·
     replace h:=bT hc14 h
     refine rg y<|u<|asg y<|za ?_
     refine zj ?_
     obtain rfl:=sm h
     exact ⟨_,y,_,y,zy []⟩
    ·
     replace h:=bF hc14 h
     refine zg ?_
     refine rl y<|u<|mv y<|u<|add ti y y<|u<|asg y<|za ?_
     obtain rfl:=sm h
     exact ⟨_,y,zo [.old 0]⟩
   ·
    replace h:=bF hc11 h
    refine zD ?_
    obtain rfl:=sm h
    exact ⟨y,_,y,zo [.old 0]⟩
  ·
   rintro ⟨⟩ rfl
   replace h:zeP v1=some r:=h
   unfold zeP at h
   refine zw ?_
   refine zi ?_
   refine rg y<|u<|fa ti y y y<|u<|ld ti y y<|za ?_
   refine ze y (fun hc15=>?_) (fun hc15=>?_)
   ·
    replace h:=bT hc15 h
    refine rg y<|u<|fa ti y y y<|u<|ld ti y y<|u<|nt y<|u<|mv y<|z7 (j:=3) 3 y y y y y gpn (fun hb16=>g y hb16<|fa ti y y y<|g y hb16<|ld ti y y<|g y hb16<|sne ti y y<|za (egA [41,42,43] 3 hb16 y y y y)) ze2<|u<|mv y<|z7 (j:=8) 3 y y y y y gpn (fun hb17=>g y hb17<|fa ti y y y<|g y hb17<|ld ti y y<|g y hb17<|eql ti y y<|za (egA [46,47,48] 3 hb17 y y y y)) ze2<|u<|mv y<|z7 (j:=13) 3 y y y y y gpn (fun hb18=>g y hb18<|fa ti y y y<|g y hb18<|ld ti y y<|g y hb18<|eql ti y y<|za (egA [51,52,53] 3 hb18 y y y y)) ze2<|u<|mv y<|z7 (j:=18) 4 y y y y y gpn (fun hb19=>g y hb19<|fa ti y y y<|g y hb19<|ld ti y y<|g y hb19<|lnI ti y y<|g y hb19<|eql ti y y<|za (egA [56,57,58,59] 4 hb19 y y y y)) ze2<|u<|mv y<|z7 (j:=24) 4 y y y y y gpn (fun hb20=>g y hb20<|fa ti y y y<|g y hb20<|ld ti y y<|g y hb20<|lnI ti y y<|g y hb20<|eql ti y y<|za (egA [62,63,64,65] 4 hb20 y y y y)) ze2<|u<|mv y<|z7 (j:=30) 4 y y y y y gpn (fun hb21=>g y hb21<|fa ti y y y<|g y hb21<|ld ti y y<|g y hb21<|lnI ti y y<|g y hb21<|eql ti y y<|za (egA [68,69,70,71] 4 hb21 y y y y)) ze2<|u<|asg y<|za ?_
    refine zj ?_
    obtain rfl:=sm h
    exact ⟨_,y,zy []⟩
   ·
    replace h:=bF hc15 h
    refine zg ?_
    refine zi ?_
    refine rg y<|u<|fa ti y y y<|u<|ld ti y y<|u<|seq ti y y<|u<|mv y<|z7 (j:=3) 14 y y y y y gpn (fun hb22=>g y hb22<|fa ti y y y<|g y hb22<|ld ti y y<|g y hb22<|nt y<|g y hb22<|mv y<|zdj (j:=7) 4 y y y y y (gps y y hb22) (fun hb23=>g y hb23<|fa ti y y y<|g y hb23<|ld ti y y<|g y hb23<|lnI ti y y<|g y hb23<|gtr ti y y<|za (egO [81,82,83,84] 4 hb23 y y y y)) orT<|g y hb22<|mv y<|zdj (j:=13) 3 y y y y y (gps y y hb22) (fun hb24=>g y hb24<|fa ti y y y<|g y hb24<|ld ti y y<|g y hb24<|sne ti y y<|za (egO [87,88,89] 3 hb24 y y y y)) orT<|za (egA [77,78,79,80,81,82,83,84,85,86,87,88,89,90] 7 hb22 y y y y)) ze2<|za ?_
    refine ze y (fun hc25=>?_) (fun hc25=>?_)
    ·
     replace h:=bT hc25 h
     refine rg y<|u<|asg y<|za ?_
     refine zj ?_
     obtain rfl:=sm h
     exact ⟨_,y,zy []⟩
    ·
     replace h:=bF hc25 h
     refine zg ?_
     refine rg y<|u<|fa ti y y y<|u<|ld ti y y<|u<|lnI ti y y<|u<|asg y<|za ?_
     refine za6 (X:=Int) (fun z=>[(1,.mpt 0 0 0),(4,iA z)]) (fun z=>[some (10,[(zh v1)])]) (fun z=>zdr v1 z=some r) ?_ ?_
     ·
      refine rg y<|u<|fa ti y y y<|u<|ld ti y y<|u<|nt y<|za ?_
      refine ze y (fun hc26=>?_) (fun hc26=>?_)
      ·
       replace h:=bT hc26 h
       exact rl y<|u<|mv y<|u<|add ti y y<|u<|asg y<|za (⟨(IntKind.i64.wrap ((length v1.Params:Int)+1)),h,zo [.old 0]⟩)
      ·
       replace h:=bF hc26 h
       refine zg ?_
       exact ⟨(length v1.Params:Int),h,zo [.old 0]⟩
     ·
      rintro v11 h
      replace h:zdr v1 v11=some r:=h
      unfold zdr at h
      refine zi ?_
      refine rg y<|u<|fa ti y y y<|u<|ld ti y y<|u<|mv y<|u<|lss ti y y<|u<|mv y<|zdj (j:=4) 3 y y y y y gpn (fun hb27=>g y hb27<|fa ti y y y<|g y hb27<|ld ti y y<|g y hb27<|gtr ti y y<|za (egO [105,106,107] 3 hb27 y y y y)) orT<|u<|mv y<|zdj (j:=9) 3 y y y y y gpn (fun hb28=>g y hb28<|fa ti y y y<|g y hb28<|ld ti y y<|g y hb28<|lss ti y y<|za (egO [110,111,112] 3 hb28 y y y y)) orT<|u<|mv y<|zdj (j:=14) 3 y y y y y gpn (fun hb29=>g y hb29<|fa ti y y y<|g y hb29<|ld ti y y<|g y hb29<|gtr ti y y<|za (egO [115,116,117] 3 hb29 y y y y)) orT<|za ?_
      refine ze y (fun hc30=>?_) (fun hc30=>?_)
      ·
       replace h:=bT hc30 h
       refine rg y<|u<|asg y<|za ?_
       refine zj ?_
       obtain rfl:=sm h
       exact ⟨_,y,zy []⟩
      ·
       replace h:=bF hc30 h
       refine zg ?_
       obtain ⟨v12,q31,h⟩:=bs h
       obtain ⟨v14,q34,h⟩:=bs h
       refine rg y<|u<|ld ti y y<|u<|pc (zsR v1 q31) y y y<|u<|mv y<|z7 (x:=v14) (j:=2) 2 y y y y y gpn (fun hb32=>by replace q34:=bT hb32 q34;obtain ⟨v13,q33,q34⟩:=bs q34;obtain rfl:=sm q34;exact g y hb32<|ld ti y y<|g y hb32<|pc (zsB v1 q33) y y y<|za (eg [122,123] 2 y y y y)) (fun hb=>(sm (bF hb q34)).symm)<|u<|asg y<|za ?_
       refine zj ?_
       obtain rfl:=sm h
       exact ⟨_,y,zy []⟩
  ·
   rintro r' rfl env st hp
   obtain rfl:=sm h
   exact hp
def zh4:Option (Bool):=
  some true
def zc9(v1:zb)(v43:Int):Option (Sum (Int) (Sum (Unit) (Bool))):=
  cond (decide (v43<(length v1.Methods:Int))) ((idx v1.Methods v43).bind fun v44=>(cond (!(v44.Abstract == v1.Interface)) (some true) ((zg6 v1 v44.Name).bind fun v45=>some (!(v45 == v43)))).bind fun v46=>(cond v46 (some true) ((zgJ v44).bind fun v47=>some (!v47))).bind fun v48=>cond v48 (some (.inr (.inr false))) (some (.inl (IntKind.i64.wrap (v43+1))))) (some (.inr (.inl ())))
def zg0(v1:zb):Option (Bool):=
  (zu (fun z=>zc9 v1 z) 0).bind fun o=>zU o (fun b=>zh4) some
def zda(v1:zb)(v30:Int):Option (Sum (Int) (Sum (Unit) (Bool))):=
  cond (decide (v30<(length v1.Fields:Int))) ((idx v1.Fields v30).bind fun v31=>(zjf v31.Name).bind fun v32=>(cond ((!v32)||(v31.Name == [36,105,110,105,116])) (some true) ((zgn v31.Type_).bind fun v33=>some (!v33))).bind fun v34=>(cond v34 (some true) ((ziN v1 v31.Name).bind fun v35=>some (!(v35 == v30)))).bind fun v36=>cond v36 (some (.inr (.inr false))) (some (.inl (IntKind.i64.wrap (v30+1))))) (some (.inr (.inl ())))
def zgW(v1:zb):Option (Bool):=
  (zu (fun z=>zda v1 z) 0).bind fun o=>zU o (fun b=>zg0 v1) some
def zix(v14:Int):Option (Sum (Int) (Sum (Unit) (Bool))):=
  some (.inl (IntKind.i64.wrap (v14+1)))
def zdd(v1:zb)(v14:Int)(v20:Int):Option (Sum (Int) (Sum (Unit) (Bool))):=
  cond (decide (v20<v14)) ((idx v1.Impl v20).bind fun v21=>(idx v1.Impl v14).bind fun v22=>cond (v21 == v22) (some (.inr (.inr false))) (some (.inl (IntKind.i64.wrap (v20+1))))) (some (.inr (.inl ())))
def zde(v1:zb)(v14:Int):Option (Sum (Int) (Sum (Unit) (Bool))):=
  cond (decide (v14<(length v1.Impl:Int))) ((idx v1.Impl v14).bind fun v15=>(zfv v15).bind fun v16=>cond (!v16) (some (.inr (.inr false))) ((zu (fun z=>zdd v1 v14 z) 0).bind fun o=>zU o (fun b=>zix v14) (fun r=>some (.inr (.inr r))))) (some (.inr (.inl ())))
def zhx(v1:zb):Option (Bool):=
  (zfv v1.Name).bind fun v2=>(cond (!v2) (some true) ((zfv v1.Super).bind fun v3=>some (!v3))).bind fun v4=>cond (((v4||(decide (4<(length v1.Impl:Int))))||(decide (8<(length v1.Fields:Int))))||(decide (8<(length v1.Methods:Int)))) (some false) (cond (v1.Interface&&((!(v1.Super == [79,98,106,101,99,116]))||(decide (0<(length v1.Fields:Int))))) (some false) ((zu (fun z=>zde v1 z) 0).bind fun o=>zU o (fun b=>zgW v1) some))
theorem zox(v1:zb){r:Bool}(h:zhx v1=some r):zI Tryz.prog 69 [.agg (zc v1)] (bA r):=by
 refine zq Tryz.func69 y kz y y ?_
 unfold zhx at h
 refine rg y<|u<|bx 0 6 y y y y<|u<|asg y<|za ?_
 refine zi ?_
 obtain ⟨v2,q1,h⟩:=bs h
 obtain ⟨v4,q4,h⟩:=bs h
 refine rg y<|u<|fa ti y y y<|u<|ld ti y y<|u<|pc (zgo v1.Name q1) y y y<|u<|nt y<|u<|mv y<|zdj (x:=v4) (j:=4) 4 y y y y y gpn (fun hb2=>by replace q4:=bF hb2 q4;obtain ⟨v3,q3,q4⟩:=bs q4;obtain rfl:=sm q4;exact g y hb2<|fa ti y y y<|g y hb2<|ld ti y y<|g y hb2<|pc (zgo v1.Super q3) y y y<|g y hb2<|nt y<|za (eg [14,15,16,17] 4 y y y y)) (fun hb=>(sm (bT hb q4)).symm)<|u<|mv y<|zdj (j:=10) 4 y y y y y gpn (fun hb5=>g y hb5<|fa ti y y y<|g y hb5<|ld ti y y<|g y hb5<|lnI ti y y<|g y hb5<|gtr ti y y<|za (egO [20,21,22,23] 4 hb5 y y y y)) orT<|u<|mv y<|zdj (j:=16) 4 y y y y y gpn (fun hb6=>g y hb6<|fa ti y y y<|g y hb6<|ld ti y y<|g y hb6<|lnI ti y y<|g y hb6<|gtr ti y y<|za (egO [26,27,28,29] 4 hb6 y y y y)) orT<|u<|mv y<|zdj (j:=22) 4 y y y y y gpn (fun hb7=>g y hb7<|fa ti y y y<|g y hb7<|ld ti y y<|g y hb7<|lnI ti y y<|g y hb7<|gtr ti y y<|za (egO [32,33,34,35] 4 hb7 y y y y)) orT<|za ?_
 refine ze y (fun hc8=>?_) (fun hc8=>?_)
 ·
  replace h:=bT hc8 h
  refine rg y<|u<|asg y<|za ?_
  refine zj ?_
  obtain rfl:=sm h
  exact ⟨_,y,zy []⟩
 ·
  replace h:=bF hc8 h
  refine zg ?_
  refine zi ?_
  refine rg y<|u<|fa ti y y y<|u<|ld ti y y<|u<|mv y<|z7 (j:=2) 9 y y y y y gpn (fun hb9=>g y hb9<|fa ti y y y<|g y hb9<|ld ti y y<|g y hb9<|sne ti y y<|g y hb9<|mv y<|zdj (j:=6) 4 y y y y y (gps y y hb9) (fun hb10=>g y hb10<|fa ti y y y<|g y hb10<|ld ti y y<|g y hb10<|lnI ti y y<|g y hb10<|gtr ti y y<|za (egO [44,45,46,47] 4 hb10 y y y y)) orT<|za (egA [40,41,42,43,44,45,46,47,48] 5 hb9 y y y y)) ze2<|za ?_
  refine ze y (fun hc11=>?_) (fun hc11=>?_)
  ·
   replace h:=bT hc11 h
   refine rg y<|u<|asg y<|za ?_
   refine zj ?_
   obtain rfl:=sm h
   exact ⟨_,y,zy []⟩
  ·
   replace h:=bF hc11 h
   refine zg ?_
   refine zi ?_
   refine rg y<|u<|asg y<|za ?_
   obtain ⟨o,ho,h⟩:=bs h
   refine zX (X:=Int) (B:=Unit) (R:=Bool) (fun z=>[(1,.mpt 0 0 0),(3,iA z)]) (fun z=>[some (6,[(zc v1)])]) (fun b=>[(1,.mpt 0 0 0)]) (fun b=>[some (6,[(zc v1)])]) (fun r env st=>zaN Tryz.prog Tryz.f69 0 (bA r) [] env st) ho (zo [.old 0]) ?_ ?_ ?_
   ·
    rintro v14 r h
    replace h:zde v1 v14=some r:=h
    unfold zde at h
    refine zi ?_
    refine rg y<|u<|mv y<|u<|fa ti y y y<|u<|ld ti y y<|u<|lnI ti y y<|u<|lss ti y y<|za ?_
    refine ze y (fun hc24=>?_) (fun hc24=>?_)
    ·
     replace h:=bT hc24 h
     refine zg ?_
     refine zi ?_
     refine zr ?_
     refine zi ?_
     obtain ⟨v15,q25,h⟩:=bs h
     obtain ⟨v16,q26,h⟩:=bs h
     refine rg y<|u<|fa ti y y y<|u<|ld ti y y<|u<|mv y<|u<|ixI ti y ti y y y q25<|u<|ldI ti y (zl q25).2.2 y<|u<|pc (zgo v15 q26) y y y<|u<|nt y<|za ?_
     refine ze y (fun hc27=>?_) (fun hc27=>?_)
     ·
      replace h:=bT hc27 h
      refine rg y<|u<|asg y<|za ?_
      refine zj ?_
      obtain rfl:=sm h
      exact ⟨_,y,_,y,zy []⟩
     ·
      replace h:=bF hc27 h
      refine zg ?_
      refine rg y<|u<|asg y<|za ?_
      obtain ⟨o,ho,h⟩:=bs h
      refine zX (X:=Int) (B:=Unit) (R:=Bool) (fun z=>[(1,.mpt 0 0 0),(3,iA v14),(4,iA z)]) (fun z=>[some (6,[(zc v1)])]) (fun b=>[(1,.mpt 0 0 0),(3,iA v14)]) (fun b=>[some (6,[(zc v1)])]) (fun r env st=>zaN Tryz.prog Tryz.f69 0 (bA r) [] env st) ho (zo [.old 0]) ?_ ?_ ?_
      ·
       rintro v20 r h
       replace h:zdd v1 v14 v20=some r:=h
       unfold zdd at h
       refine zi ?_
       refine rg y<|u<|mv y<|u<|mv y<|u<|lss ti y y<|za ?_
       refine ze y (fun hc32=>?_) (fun hc32=>?_)
       ·
        replace h:=bT hc32 h
        refine zg ?_
        refine zi ?_
        refine zr ?_
        obtain ⟨v21,q33,h⟩:=bs h
        obtain ⟨v22,q34,h⟩:=bs h
        refine rdA [(1,.mpt 0 0 0),(3,iA v14),(4,iA v20),(79,bA (v21 == v22))] [some (6,[(zc v1)])] [] [10,9,8,7,6,5,4,3,2,1,0] [(79,bA (v21 == v22)),(78,sA v22),(77,.ipt 1 (map zf v1.Impl) (Int.toNat v14) 0),(76,iA v14),(75,.isl 1 (map zf v1.Impl)),(74,.mpt 0 0 3),(73,sA v21),(72,.ipt 1 (map zf v1.Impl) (Int.toNat v20) 0),(71,iA v20),(70,.isl 1 (map zf v1.Impl)),(69,.mpt 0 0 3)] 0 (zht ⟨pe,(pb y (ldI ti y (zl q34).2.2 y w)),(pb y (ixI ti y ti y y y q34 w)),pe,pe,pe,(pb y (ldI ti y (zl q33).2.2 y w)),(pb y (ixI ti y ti y y y q33 w)),pe,pe,pe,t⟩ (zo [.old 0])) ?_
        refine ze y (fun hc35=>?_) (fun hc35=>?_)
        ·
         replace h:=bT hc35 h
         refine rg y<|u<|asg y<|za ?_
         refine zj ?_
         obtain rfl:=sm h
         exact ⟨_,y,_,y,zy []⟩
        ·
         replace h:=bF hc35 h
         refine zg ?_
         refine rl y<|u<|mv y<|u<|add ti y y<|u<|asg y<|za ?_
         obtain rfl:=sm h
         exact ⟨_,y,zo [.old 0]⟩
       ·
        replace h:=bF hc32 h
        refine zD ?_
        obtain rfl:=sm h
        exact ⟨y,_,y,zo [.old 0]⟩
      ·
       rintro ⟨⟩ rfl
       replace h:zix v14=some r:=h
       unfold zix at h
       refine zw ?_
       refine rl y<|u<|mv y<|u<|add ti y y<|u<|asg y<|za ?_
       obtain rfl:=sm h
       exact ⟨_,y,zo [.old 0]⟩
      ·
       rintro r' rfl env st hp
       obtain rfl:=sm h
       exact ⟨_,y,hp⟩
    ·
     replace h:=bF hc24 h
     refine zD ?_
     obtain rfl:=sm h
     exact ⟨y,_,y,zo [.old 0]⟩
   ·
    rintro ⟨⟩ rfl
    replace h:zgW v1=some r:=h
    unfold zgW at h
    refine zw ?_
    refine zi ?_
    refine rg y<|u<|asg y<|za ?_
    obtain ⟨o,ho,h⟩:=bs h
    refine zX (X:=Int) (B:=Unit) (R:=Bool) (fun z=>[(1,.mpt 0 0 0),(5,iA z)]) (fun z=>[some (6,[(zc v1)])]) (fun b=>[(1,.mpt 0 0 0)]) (fun b=>[some (6,[(zc v1)])]) (fun r env st=>zaN Tryz.prog Tryz.f69 0 (bA r) [] env st) ho (zo [.old 0]) ?_ ?_ ?_
    ·
     rintro v30 r h
     replace h:zda v1 v30=some r:=h
     unfold zda at h
     refine zi ?_
     refine rg y<|u<|mv y<|u<|fa ti y y y<|u<|ld ti y y<|u<|lnI ti y y<|u<|lss ti y y<|za ?_
     refine ze y (fun hc47=>?_) (fun hc47=>?_)
     ·
      replace h:=bT hc47 h
      refine zg ?_
      refine zi ?_
      refine zr ?_
      obtain ⟨v31,q48,h⟩:=bs h
      refine rg y<|u<|fa ti y y y<|u<|ld ti y y<|u<|mv y<|u<|ixI ti y ti y y y q48<|u<|ldI ti y (zl q48).2.2 y<|u<|al 1 ti y<|u<|sto ti y y y<|za ?_
      obtain ⟨v32,q49,h⟩:=bs h
      obtain ⟨v34,q53,h⟩:=bs h
      obtain ⟨v36,q56,h⟩:=bs h
      refine rg y<|u<|fa ti y y y<|u<|ld ti y y<|u<|pc (zlI v31.Name q49) y y y<|u<|nt y<|u<|mv y<|zdj (j:=4) 3 y y y y y gpn (fun hb50=>g y hb50<|fa ti y y y<|g y hb50<|ld ti y y<|g y hb50<|seq ti y y<|za (egO [97,98,99] 3 hb50 y y y y)) orT<|u<|mv y<|zdj (x:=v34) (j:=9) 4 y y y y y gpn (fun hb51=>by replace q53:=bF hb51 q53;obtain ⟨v33,q52,q53⟩:=bs q53;obtain rfl:=sm q53;exact g y hb51<|fa ti y y y<|g y hb51<|ld ti y y<|g y hb51<|pc (zfh v31.Type_ q52) y y y<|g y hb51<|nt y<|za (eg [102,103,104,105] 4 y y y y)) (fun hb=>(sm (bT hb q53)).symm)<|u<|mv y<|zdj (x:=v36) (j:=15) 6 y y y y y gpn (fun hb54=>by replace q56:=bF hb54 q56;obtain ⟨v35,q55,q56⟩:=bs q56;obtain rfl:=sm q56;exact g y hb54<|ld ti y y<|g y hb54<|fa ti y y y<|g y hb54<|ld ti y y<|g y hb54<|pc (zm2 v1 v31.Name q55) y y y<|g y hb54<|mv y<|g y hb54<|neq ti y y<|za (eg [108,109,110,111,112,113] 6 y y y y)) (fun hb=>(sm (bT hb q56)).symm)<|za ?_
      refine ze y (fun hc57=>?_) (fun hc57=>?_)
      ·
       replace h:=bT hc57 h
       refine rg y<|u<|asg y<|za ?_
       refine zj ?_
       obtain rfl:=sm h
       exact ⟨_,y,_,y,zy []⟩
      ·
       replace h:=bF hc57 h
       refine zg ?_
       refine rl y<|u<|mv y<|u<|add ti y y<|u<|asg y<|za ?_
       obtain rfl:=sm h
       exact ⟨_,y,zo [.old 0]⟩
     ·
      replace h:=bF hc47 h
      refine zD ?_
      obtain rfl:=sm h
      exact ⟨y,_,y,zo [.old 0]⟩
    ·
     rintro ⟨⟩ rfl
     replace h:zg0 v1=some r:=h
     unfold zg0 at h
     refine zw ?_
     refine zi ?_
     refine rg y<|u<|asg y<|za ?_
     obtain ⟨o,ho,h⟩:=bs h
     refine zX (X:=Int) (B:=Unit) (R:=Bool) (fun z=>[(1,.mpt 0 0 0),(7,iA z)]) (fun z=>[some (6,[(zc v1)])]) (fun b=>[]) (fun b=>[]) (fun r env st=>zaN Tryz.prog Tryz.f69 0 (bA r) [] env st) ho (zo [.old 0]) ?_ ?_ ?_
     ·
      rintro v43 r h
      replace h:zc9 v1 v43=some r:=h
      unfold zc9 at h
      refine zi ?_
      refine rg y<|u<|mv y<|u<|fa ti y y y<|u<|ld ti y y<|u<|lnI ti y y<|u<|lss ti y y<|za ?_
      refine ze y (fun hc67=>?_) (fun hc67=>?_)
      ·
       replace h:=bT hc67 h
       refine zg ?_
       refine zi ?_
       refine zr ?_
       obtain ⟨v44,q68,h⟩:=bs h
       refine rg y<|u<|fa ti y y y<|u<|ld ti y y<|u<|mv y<|u<|ixI ti y ti y y y q68<|u<|ldI ti y (zl q68).2.2 y<|u<|al 1 ti y<|u<|sto ti y y y<|za ?_
       obtain ⟨v46,q71,h⟩:=bs h
       obtain ⟨v48,q74,h⟩:=bs h
       refine rg y<|u<|fa ti y y y<|u<|ld ti y y<|u<|fa ti y y y<|u<|ld ti y y<|u<|bne ti y y y<|u<|mv y<|zdj (x:=v46) (j:=5) 6 y y y y y gpn (fun hb69=>by replace q71:=bF hb69 q71;obtain ⟨v45,q70,q71⟩:=bs q71;obtain rfl:=sm q71;exact g y hb69<|ld ti y y<|g y hb69<|fa ti y y y<|g y hb69<|ld ti y y<|g y hb69<|pc (zjw v1 v44.Name q70) y y y<|g y hb69<|mv y<|g y hb69<|neq ti y y<|za (eg [133,134,135,136,137,138] 6 y y y y)) (fun hb=>(sm (bT hb q71)).symm)<|u<|mv y<|zdj (x:=v48) (j:=13) 3 y y y y y gpn (fun hb72=>by replace q74:=bF hb72 q74;obtain ⟨v47,q73,q74⟩:=bs q74;obtain rfl:=sm q74;exact g y hb72<|ld ti y y<|g y hb72<|pc (znG v44 q73) y y y<|g y hb72<|nt y<|za (eg [141,142,143] 3 y y y y)) (fun hb=>(sm (bT hb q74)).symm)<|za ?_
       refine ze y (fun hc75=>?_) (fun hc75=>?_)
       ·
        replace h:=bT hc75 h
        refine rg y<|u<|asg y<|za ?_
        refine zj ?_
        obtain rfl:=sm h
        exact ⟨_,y,_,y,zy []⟩
       ·
        replace h:=bF hc75 h
        refine zg ?_
        refine rl y<|u<|mv y<|u<|add ti y y<|u<|asg y<|za ?_
        obtain rfl:=sm h
        exact ⟨_,y,zo [.old 0]⟩
      ·
       replace h:=bF hc67 h
       refine zD ?_
       obtain rfl:=sm h
       exact ⟨y,_,y,zo []⟩
     ·
      rintro ⟨⟩ rfl
      replace h:zh4=some r:=h
      unfold zh4 at h
      refine zw ?_
      refine rg y<|u<|asg y<|za ?_
      refine zj ?_
      obtain rfl:=sm h
      exact ⟨_,y,zy []⟩
     ·
      rintro r' rfl env st hp
      obtain rfl:=sm h
      exact hp
    ·
     rintro r' rfl env st hp
     obtain rfl:=sm h
     exact hp
   ·
    rintro r' rfl env st hp
    obtain rfl:=sm h
    exact hp

end
end Go.Proofs.YtjbdfkapnffjnaaGreat
