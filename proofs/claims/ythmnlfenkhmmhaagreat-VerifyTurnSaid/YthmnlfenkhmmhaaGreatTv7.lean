/- VerifyTurn: for every input the law returns true, and each argument reads as it read before. No further condition. Part 7 of 8. -/
import Derived.Test.YthmnlfenkhmmhaaGreatTv6
namespace Go.Proofs.YthmnlfenkhmmhaaGreat
noncomputable section
open List (length map)
set_option linter.unusedSimpArgs false
set_option linter.unusedVariables false
set_option linter.unusedSectionVars false
variable [Flo]
theorem zm5{α:Type}(p:α→Bool)(l:List α):idx l (ixF p 0 l)=l.find? p:=by
 rcases zoz p l 0 with ⟨j,x,h1,h2,h3,h4⟩ |⟨h1,h2⟩
 ·rw [h1,h4,zB,Nat.zero_add,h2]
 ·rw [h1,h2];rfl
theorem zla{α:Type}(p:α→Bool)(l:List α):decide (0≤ixF p 0 l)=(l.find? p).isSome:=by
 rw [zgb,Bool.eq_iff_iff,List.any_eq_true,List.find?_isSome]
def zF:zq:=zq.mk [] [] false
def zM:zb:=zb.mk [] [] [] false false 0 0 [] [] []
abbrev FR:=List UInt8×zq×Bool
abbrev MR:=List UInt8×zb×Bool
def zxX(L:List za)(n s:Tx):Option FR:=match cl L s with |some x=>(match x.Fields.find? (fun y=>y.Name == n) with |some f=>some (s,f,true) |none=>none) |none=>none
def zqw(L:List za)(may:zb→Bool)(n s:Tx):Option MR:=match cl L s with |some x=>(match x.Methods.find? (fun y=>y.Name == n) with |some f=>cond (may f) (some (s,f,true)) none |none=>none) |none=>none
theorem zhS{R:Type}(o:Option R)(z:R):(some (zop () o):Option (Sum Unit R)).bind (fun o=>zQ o (fun _=>some z) some)=some (o.getD z):=by cases o <;> rfl
section
variable {l L : List za} {m : List (Tx × Int)}
theorem ziQ(hm:zcD L m)(n:Tx):zao L m n=some (match cl L n with |some c=>(c,true) |none=>(zC,false)):=ztu hm n
def zsk(L:List za):Prop:=∀c∈L,zje c.Fields∧zje c.Methods
theorem zAD(h:∀c∈L,zme c):zsk L:=fun c hc=>⟨(h c hc).fields.le,(h c hc).methods.le⟩
theorem zyh(h:zeD l L)(hm:zcD L m)(hL:zsk L)(c n:Tx):zhJ L m c n=some (((zfW L c).findSome? (zxX L n)).getD ([],zF,false)):=by
 have h26:=zf6 h c
 unfold zhJ
 rw [zkU h hm]
 simp only [Option.bind_some]
 rw [show zs (fun z=>zdU L m n (zfW L c) z) 0=some (zop () ((zfW L c).findSome? (zxX L n))) from zex (fun i s hs=>by
  have hi:=(List.getElem?_eq_some_iff.1 hs).1
  obtain ⟨x,hx⟩:=zfJ (zjR h _ c s (List.mem_of_getElem? hs)).1
  show zdU L m n (zfW L c) (i:Int)=_
  unfold zdU
  rw [zfv hs,zB,hs]
  simp only [cond_true,Option.bind_some]
  rw [ziQ hm,hx]
  simp only [Option.bind_some]
  rw [zpg (hL x (zbU hx).1).1]
  simp only [Option.bind_some]
  rw [zla,zm5,zaa (by omega)]
  unfold zxX
  rw [hx]
  show _=some (ztq i (match x.Fields.find? (fun y=>y.Name == n) with |some f=>some (s,f,true) |none=>none))
  cases x.Fields.find? (fun y=>y.Name == n) <;> rfl) (by
  show zdU L m n (zfW L c) ((zfW L c).length:Int)=_
  unfold zdU
  rw [zf1];rfl)]
 exact zhS _ _
theorem zr0(h:zeD l L)(hL:zsk L)(c n:Tx):zgE L c n=some (((zfW L c).findSome? (zxX L n)).getD ([],zF,false)):=by
 have h26:=zf6 h c
 have hl:=h.len
 unfold zgE
 rw [zgF h]
 simp only [Option.bind_some]
 rw [show zs (fun z=>zc5 L n (zfW L c) z) 0=some (zop () ((zfW L c).findSome? (zxX L n))) from zex (fun i s hs=>by
  have hi:=(List.getElem?_eq_some_iff.1 hs).1
  obtain ⟨x,hx⟩:=zfJ (zjR h _ c s (List.mem_of_getElem? hs)).1
  show zc5 L n (zfW L c) (i:Int)=_
  unfold zc5
  rw [zfv hs,zB,hs]
  simp only [cond_true,Option.bind_some]
  rw [ziO (by omega)]
  simp only [Option.bind_some]
  rw [zlS hx]
  simp only [Option.bind_some]
  rw [zmF (hL x (zbU hx).1).1]
  simp only [Option.bind_some]
  rw [zla,zm5,zaa (by omega)]
  unfold zxX
  rw [hx]
  show _=some (ztq i (match x.Fields.find? (fun y=>y.Name == n) with |some f=>some (s,f,true) |none=>none))
  cases x.Fields.find? (fun y=>y.Name == n) <;> rfl) (by
  show zc5 L n (zfW L c) ((zfW L c).length:Int)=_
  unfold zc5
  rw [zf1];rfl)]
 exact zhS _ _
theorem ztV(h:zeD l L)(hm:zcD L m)(hL:zsk L){may:zb→Bool}{T:List Tx}(hT:T.length≤1000)(n:Tx){body:Int→Option (Sum Int (Sum Unit MR))}
  (hT2:∀s∈T,zb7 L s=true)
  (hb:∀(i:Nat) s x,T[i]?=some s→cl L s=some x→body (i:Int)=((zfe x n).bind fun v15=>(cond (decide (0≤v15)) ((idx x.Methods v15).bind fun v16=>some (may v16)) (some false)).bind fun v17=>cond v17 ((idx x.Methods v15).bind fun v18=>some (.inr (.inr (s,v18,true)))) (some (.inl (IntKind.i64.wrap ((i:Int)+1))))))
  (he:body (T.length:Int)=some (.inr (.inl ()))):zs body 0=some (zop () (T.findSome? (zqw L may n))):=by
 refine zex (fun i s hs=>?_) he
 have hi:=(List.getElem?_eq_some_iff.1 hs).1
 obtain ⟨x,hx⟩:=zfJ (hT2 s (List.mem_of_getElem? hs))
 rw [hb i s x hs hx,zol (hL x (zbU hx).1).2]
 simp only [Option.bind_some]
 rw [zla,zm5,zaa (by omega)]
 unfold zqw
 rw [hx]
 show _=some (ztq i (match x.Methods.find? (fun y=>y.Name == n) with |some f=>cond (may f) (some (s,f,true)) none |none=>none))
 cases x.Methods.find? (fun y=>y.Name == n) with
 |none=>rfl
 |some f =>
  simp only [Option.isSome_some,cond_true,Option.bind_some]
  cases may f <;> rfl
theorem zyj(h:zeD l L)(hm:zcD L m)(hL:zsk L){T:List Tx}(hT:T.length≤1000)(hT2:∀s∈T,zb7 L s=true)(n:Tx):ziw L m T n=some ((T.findSome? (zqw L zbn n)).getD ([],zM,false)):=by
 unfold ziw
 rw [show zs (fun z=>zev L m T n z) 0=some (zop () (T.findSome? (zqw L zbn n))) from ztV h hm hL hT n hT2 (fun i s x hs hx=>by
  show zev L m T n (i:Int)=_
  unfold zev
  rw [zfv hs,zB,hs]
  simp only [cond_true,Option.bind_some]
  rw [ziQ hm,hx];rfl) (by
  show zev L m T n (T.length:Int)=_
  unfold zev
  rw [zf1];rfl)]
 exact zhS _ _
theorem zyk(h:zeD l L)(hm:zcD L m)(hL:zsk L){T:List Tx}(hT:T.length≤1000)(hT2:∀s∈T,zb7 L s=true)(n:Tx):zix L m T n=some ((T.findSome? (zqw L zel n)).getD ([],zM,false)):=by
 unfold zix
 rw [show zs (fun z=>zew L m T n z) 0=some (zop () (T.findSome? (zqw L zel n))) from ztV h hm hL hT n hT2 (fun i s x hs hx=>by
  show zew L m T n (i:Int)=_
  unfold zew
  rw [zfv hs,zB,hs]
  simp only [cond_true,Option.bind_some]
  rw [ziQ hm,hx];rfl) (by
  show zew L m T n (T.length:Int)=_
  unfold zew
  rw [zf1];rfl)]
 exact zhS _ _
theorem zsc(h:zeD l L)(c:Tx):∀s∈zfW L c,zb7 L s=true:=fun s hs=>(zjR h _ c s hs).1
theorem zrH(h:zeD l L)(hm:zcD L m)(hL:zsk L)(c n:Tx):zha L m c n=some (((zfW L c).findSome? (zqw L zbn n)).getD ([],zM,false)):=by
 have h26:=zf6 h c
 unfold zha
 rw [zkU h hm]
 simp only [Option.bind_some]
 rw [zyj h hm hL (by omega) (zsc h c)];rfl
theorem zqR(h:zeD l L)(hL:zsk L)(c n:Tx):zf5 L c n=some (((zfW L c).findSome? (zqw L zbn n)).getD ([],zM,false)):=by
 have h26:=zf6 h c
 have hl:=h.len
 unfold zf5
 rw [zgF h]
 simp only [Option.bind_some]
 rw [show zs (fun z=>zcr L n (zfW L c) z) 0=some (zop () ((zfW L c).findSome? (zqw L zbn n))) from zex (fun i s hs=>by
  have hi:=(List.getElem?_eq_some_iff.1 hs).1
  obtain ⟨x,hx⟩:=zfJ (zsc h c s (List.mem_of_getElem? hs))
  show zcr L n (zfW L c) (i:Int)=_
  unfold zcr
  rw [zfv hs,zB,hs]
  simp only [cond_true,Option.bind_some]
  rw [ziO (by omega)]
  simp only [Option.bind_some]
  rw [zlS hx]
  simp only [Option.bind_some]
  rw [ziK (hL x (zbU hx).1).2]
  simp only [Option.bind_some]
  rw [zla,zm5,zaa (by omega)]
  unfold zqw
  rw [hx]
  show _=some (ztq i (match x.Methods.find? (fun y=>y.Name == n) with |some f=>cond (zbn f) (some (s,f,true)) none |none=>none))
  cases hf:x.Methods.find? (fun y=>y.Name == n) with
  |none=>rfl
  |some f =>
   have e:f.Name=n:=by have:=List.find?_some hf;simpa using this
   simp only [zbn,Option.isSome_some,Bool.true_and,Option.bind_some,e]
   cases (n == [36,105,110,105,116]) <;> rfl) (by
  show zcr L n (zfW L c) ((zfW L c).length:Int)=_
  unfold zcr
  rw [zf1];rfl)]
 exact zhS _ _
def znM(L:List za)(c n:Tx):MR:=cond (isF L c) (((c ::zeE L c).findSome? (zqw L zel n)).getD ([],zM,false)) ([],zM,false)
theorem zww{c:Tx}(h:isF L c=true):zb7 L c=true:=by
 unfold isF at h
 cases hc:cl L c with
 |none=>rw [hc] at h;cases h
 |some x=>exact zgf hc
theorem zAl(h:zeD l L)(hm:zcD L m)(hL:zsk L)(c n:Tx):ziv L m c n=some (znM L c n):=by
 have h52:=zmp h c
 unfold ziv znM
 rw [ziQ hm]
 have e:isF L c=(match cl L c with |some c=>(c,true) |none=>(zC,false)).1.Interface:=by
  unfold isF
  cases cl L c <;> rfl
 cases hF:isF L c with
 |false =>
  rw [hF] at e
  simp only [Option.bind_some]
  rw [←e];rfl
 |true =>
  rw [hF] at e
  simp only [Option.bind_some]
  rw [←e]
  simp only [Bool.not_true,cond_false]
  rw [zrl h hm]
  simp only [Option.bind_some]
  rw [zcE (by simp;omega) (by simp;omega)]
  simp only [Option.bind_some]
  rw [zyk h hm hL (by simp;omega) (fun s hs=>by
   rcases List.mem_cons.1 (show s∈c ::zeE L c from hs) with e |e
   ·rw [e];exact zww hF
   ·exact zmo h e)]
  rfl
theorem zs4(h:zeD l L)(hL:zsk L)(c n:Tx):zhc L c n=some (znM L c n):=by
 have h52:=zmp h c
 have hl:=h.len
 unfold zhc znM
 rw [ziO (by omega)]
 simp only [Option.bind_some]
 rw [znu,zms]
 have e:(cond (!zb7 L c) (some true) ((cl L c).bind fun v5=>some (!v5.Interface)))=some (!isF L c):=by
  unfold isF
  cases hc:cl L c with
  |none=>rw [zlQ hc];rfl
  |some x=>rw [zgf hc];rfl
 rw [e]
 simp only [Option.bind_some]
 cases hF:isF L c with
 |false=>rfl
 |true =>
  simp only [Bool.not_true,cond_false,cond_true]
  rw [znH h]
  simp only [Option.bind_some]
  rw [zcE (by simp;omega) (by simp;omega)]
  simp only [Option.bind_some]
  rw [show zs (fun z=>zdD L n ([c]++zeE L c) z) 0=some (zop () ((c ::zeE L c).findSome? (zqw L zel n))) from zex (l:=c ::zeE L c) (fun i s hs=>by
   have hi:=(List.getElem?_eq_some_iff.1 hs).1
   simp only [List.length_cons] at hi
   have hsh:zb7 L s=true:=by
    rcases List.mem_cons.1 (List.mem_of_getElem? hs) with e |e
    ·rw [e];exact zww hF
    ·exact zmo h e
   obtain ⟨x,hx⟩:=zfJ hsh
   show zdD L n (c ::zeE L c) (i:Int)=_
   unfold zdD
   rw [zfv hs,zB,hs]
   simp only [cond_true,Option.bind_some]
   rw [ziO (by omega)]
   simp only [Option.bind_some]
   rw [zlS hx]
   simp only [Option.bind_some]
   rw [ziK (hL x (zbU hx).1).2]
   simp only [Option.bind_some]
   rw [zla,zm5,zaa (by omega)]
   unfold zqw zel
   rw [hx]
   show _=some (ztq i (match x.Methods.find? (fun y=>y.Name == n) with |some f=>cond true (some (s,f,true)) none |none=>none))
   cases x.Methods.find? (fun y=>y.Name == n) <;> rfl) (by
   show zdD L n (c ::zeE L c) ((c ::zeE L c).length:Int)=_
   unfold zdD
   rw [zf1];rfl)]
  exact zhS _ _
theorem zsr(h:zeD l L){x:za}(hx:x∈L){f:zb}(hf:f∈x.Methods):f.Abstract=x.Interface:=by
 rw [h.app] at hx
 rcases List.mem_append.1 hx with e |e
 ·have hg:giv.all (fun c=>decide (c.Methods.length=0))=true:=by decide +kernel
  have:=of_decide_eq_true (List.all_eq_true.1 hg x e)
  rw [List.eq_nil_of_length_eq_zero this] at hf;cases hf
 ·have:=h.may x e
  unfold zpN at this
  simp only [Bool.and_eq_true,Bool.not_eq_true',decide_eq_true_eq] at this
  have h2:=zsi this.2.2.1 f hf
  rw [Bool.and_eq_true,beq_iff_eq] at h2
  exact h2.1
end
section
variable {l L : List za} {m : List (Tx × Int)}
def zq4(L:List za)(t:Tx):Bool:=((t == [78])||(t == [84]))||thN L t
def zxb(L:List za)(t:Tx):Bool:=!(t == [73])&&thN L t
def zlB(L:List za)(a b:Tx):Bool:=
 (zq4 L a&&zq4 L b)&&cond ((b == [84])||(a == b)) true (cond (a == [78]) (zxb L b) ((zxb L a&&zxb L b)&&(isF L b||ztd L a b)))
theorem zn7(t:Tx):ztd L t t=thN L t:=by
 rw [zte]
 simp
theorem zAG:ze5 [78]=false:=by decide +kernel
theorem zAH:ze5 [84]=false:=by decide +kernel
theorem zDd:thN L [78]=false:=by unfold thN;rw [zAG];rfl
theorem zDE:thN L [84]=false:=by unfold thN;rw [zAH];rfl
theorem znn(h:zeD l L)(hm:zcD L m){t:Tx}(ht:t.length≤25):zdz L m t=some (zq4 L t):=by
 unfold zdz zq4
 rw [znm h hm ht (by unfold Len;omega),zn7]
 cases ((t == [78])||(t == [84])) <;> rfl
theorem zxc(h:zeD l L)(hm:zcD L m){t:Tx}(ht:t.length≤25):zgs L m t=some (zxb L t):=by
 unfold zgs zxb
 rw [znm h hm ht (by unfold Len;omega),zn7]
 cases (t == [73]) <;> rfl
theorem zwv(b:Tx):isF L b=(match cl L b with |some c=>(c,true) |none=>(zC,false)).1.Interface:=by
 unfold isF
 cases cl L b <;> rfl
theorem znW(h:zeD l L)(hm:zcD L m){a b:Tx}(ha:a.length≤25)(hb:b.length≤25):zeg L m a b=some (zlB L a b):=by
 unfold zeg zlB
 rw [znn h hm ha,znn h hm hb,zxc h hm ha,zxc h hm hb,znm h hm ha (by unfold Len;omega)]
 have e:zao L m b=some (match cl L b with |some c=>(c,true) |none=>(zC,false)):=ztu hm b
 rw [e]
 simp only [Option.bind_some]
 rw [←zwv]
 cases zq4 L a <;> cases zq4 L b <;> cases ((b == [84])||(a == b)) <;> cases (a == [78]) <;> cases zxb L a <;> cases zxb L b <;> cases isF L b <;> rfl
theorem zj3{a b:Tx}(h:a≠b):(a == b)=false:=beq_eq_false_iff_ne.2 h
theorem zwd(a b:Tx):zlB L a b=cond (b == [84]) (((a == [84])||(a == [78]))||thN L a) (cond (a == [78]) ((b == [78])||(!(b == [73])&&thN L b)) (cond (a == b) (thN L a)
  (cond (((a == [73])||(b == [73]))||!thN L a) false (cond (!thN L b) false (isF L b||ztd L a b))))):=by
 unfold zlB
 by_cases hbT:b=[84]
 ·subst hbT
  unfold zq4
  cases (a == [84]) <;> cases (a == [78]) <;> cases thN L a <;> simp
 ·rw [zj3 hbT]
  by_cases haN:a=[78]
  ·subst haN
   by_cases hbN:b=[78]
   ·subst hbN
    unfold zq4
    simp
   ·have e:(([78]:Tx) == b)=false:=zj3 (Ne.symm hbN)
    unfold zq4 zxb
    rw [e,zj3 hbN,zj3 hbT,zDd]
    cases (b == [73]) <;> cases thN L b <;> simp
  ·rw [zj3 haN]
   by_cases hab:a=b
   ·subst hab
    unfold zq4
    rw [zj3 haN,zj3 hbT]
    cases thN L a <;> simp
   ·rw [zj3 hab]
    by_cases haT:a=[84]
    ·subst haT
     unfold zxb
     rw [zDE]
     simp
    ·by_cases hbN:b=[78]
     ·subst hbN
      unfold zxb
      rw [zDd]
      simp
     ·unfold zq4 zxb
      rw [zj3 haN,zj3 haT,zj3 hbN,zj3 hbT]
      cases (a == [73]) <;> cases (b == [73]) <;> cases thN L a <;> cases thN L b <;> simp
theorem zgr(h:zeD l L){a b:Tx}(ha:a.length≤25)(hb:b.length≤25):zbo L a b=some (zlB L a b):=by
 have h26:=h.len
 rw [zwd]
 unfold zbo
 rw [zdq h (by omega),zdq h (by omega),ziO (by omega),zpQ h ha (by omega)]
 simp only [Option.bind_some]
 have e:(cond (decide (0≤atN L b)) ((idx L (atN L b)).bind fun v15=>some v15.Interface) (some false))=some (isF L b):=by
  rw [zoe,zms]
  unfold isF
  cases hc:cl L b with
  |none=>rw [zlQ hc];rfl
  |some c=>rw [zgf hc];rfl
 rw [e]
 simp only [Option.bind_some]
 cases (b == [84]) <;> cases (a == [84]) <;> cases (a == [78]) <;> cases (b == [78]) <;> cases (a == [73]) <;> cases (b == [73]) <;> cases (a == b) <;> cases thN L a <;> cases thN L b <;> cases isF L b <;> rfl
end
def ShL(l:List Tx):Prop:=l.length≤100∧∀t∈l,t.length≤25
theorem ShL.add{l:List Tx}{t:Tx}(h:l.length≤99∧∀t∈l,t.length≤25)(ht:t.length≤25):ShL (l++[t]):=
 ⟨by simp;omega,fun x hx=>by
  rcases List.mem_append.1 hx with h1 |h1
  ·exact h.2 x h1
  ·rw [List.mem_singleton.1 h1];exact ht⟩
theorem ShL.drop{l:List Tx}(h:ShL l):ShL l.dropLast:=⟨by rw [List.length_dropLast];have:=h.1;omega,fun x hx=>h.2 x (List.dropLast_subset l hx)⟩
def zbe(e:Tx)(s:List Tx)(b:Bool):Tx×List Tx×Bool:=match s.getLast? with |some t=>(t,s.dropLast,b) |none=>(e,s,true)
theorem zjJ(e:Tx)(s:List Tx)(t:Tx)(b:Bool):zbe e (s++[t]) b=(t,s,b):=by simp [zbe]
theorem zgU(s:List Tx):s=[]∨∃r t,s=r++[t]:=by
 rcases List.eq_nil_or_concat s with h |⟨r,t,h⟩
 ·exact .inl h
 ·exact .inr ⟨r,t,by simpa using h⟩
theorem zdh{e:Tx}{s:List Tx}{b:Bool}(h:ShL s)(he:e.length≤25):(zbe e s b).1.length≤25∧ShL (zbe e s b).2.1:=by
 rcases zgU s with rfl |⟨r,t,rfl⟩
 ·exact ⟨he,h⟩
 ·rw [zjJ]
  refine ⟨h.2 t (by simp),⟨?_,fun x hx=>h.2 x (by simp [hx])⟩⟩
  have:=h.1;simp at this;show r.length≤100;omega
theorem zf2{e:Tx}{s:List Tx}{b:Bool}(h:b=true):(zbe e s b).2.2=true:=by
 unfold zbe;split <;> simp [h]
section
variable {l L : List za} {m : List (Tx × Int)} {c : Tx} {mt : zb} {loc stk : List Tx} {b : Bool}
theorem zlE(hs:stk.length≤1000):z7 L m c mt loc stk b=some (zbe [84] stk b):=by
 unfold z7
 rcases zgU stk with rfl |⟨r,t,rfl⟩
 ·rfl
 ·have hl:((r++[t]).length:Int)=(r.length:Int)+1:=by simp
  have h0:(((r++[t]).length:Int) == 0)=false:=beq_eq_false_iff_ne.2 (by omega)
  have hw:IntKind.i64.wrap (((r++[t]).length:Int)-1)=(r.length:Int):=by
   rw [hl,zjY (by omega) (by simp at hs;omega)];omega
  rw [h0,hw,zjJ,zB]
  have h1:(r++[t])[r.length]?=some t:=by simp
  have h2:zhs (r++[t]) 0 (r.length:Int)=some r:=by
   unfold zhs
   rw [if_pos ⟨by omega,by omega,by omega⟩]
   simp
  rw [h1,h2]
  rfl
theorem zem{t:Tx}(hs:stk.length≤1000):zE L m c mt loc stk b t=some (stk++[t]):=by
 unfold zE zfY
 rw [if_pos (by simp;omega)]
 rfl
theorem zp7{x:List Tx}(hs:x.length≤1000):zmm x=some x:=by
 unfold zmm zfY
 rw [if_pos (by simp;omega)]
 rfl
def zZ(L:List za)(e:Tx):List Tx→List Tx→Bool→List Tx×Bool
 | [],s,b=>(s,b)
 |w ::r,s,b=>zZ L e r (zbe e s b).2.1 ((zbe e s b).2.2||!zlB L (zbe e s b).1 w)
theorem zdj{e:Tx}(he:e.length≤25):∀(ts s:List Tx) (b:Bool),ShL s→ShL (zZ L e ts s b).1:=by
 intro ts
 induction ts with
 |nil=>intro s b h;exact h
 |cons w r ih=>intro s b h;exact ih _ _ (zdh h he).2
theorem za3{e:Tx}:∀(ts s:List Tx) (b:Bool),b=true→(zZ L e ts s b).2=true:=by
 intro ts
 induction ts with
 |nil=>intro s b h;exact h
 |cons w r ih=>intro s b h;exact ih _ _ (by rw [zf2 h];rfl)
theorem zA2(h:zeD l L)(hm:zcD L m){ts:List Tx}(ht:ShL ts):∀(k:Nat),k≤ts.length→∀(s:List Tx) (b:Bool),ShL s →
  zs (fun z=>zaw L m c mt loc ts z.1 z.2.1 z.2.2) (s,b,(k:Int)-1)=some (.inl (zZ L [84] (ts.take k).reverse s b)):=by
 intro k
 induction k with
 |zero =>
  intro _ s b hs
  rw [zJ]
  show (zaw L m c mt loc ts s b (((0:Nat):Int)-1)).bind _=_
  unfold zaw
  rw [decide_eq_false (by omega)]
  rfl
 |succ k ih =>
  intro hk s b hs
  rw [zJ]
  show (zaw L m c mt loc ts s b (((k+1:Nat):Int)-1)).bind _=_
  have e1:(((k+1:Nat):Int)-1)=(k:Int):=by omega
  have hlt:k<ts.length:=by omega
  obtain ⟨h1,h2⟩:=zdh (b:=b) hs (e:=[84]) (by decide)
  have hw:IntKind.i64.wrap ((k:Int)-1)=(k:Int)-1:=zjY (by omega) (by have:=ht.1;omega)
  have step:zaw L m c mt loc ts s b (((k+1:Nat):Int)-1)=some (.inl ((zbe [84] s b).2.1,(zbe [84] s b).2.2||!zlB L (zbe [84] s b).1 ts[k],(k:Int)-1)):=by
   unfold zaw
   rw [e1,decide_eq_true (by omega),zB,List.getElem?_eq_getElem hlt,zlE (by have:=hs.1;omega)]
   simp only [cond_true,Option.bind_some]
   rw [znW h hm h1 (ht.2 _ (List.getElem_mem hlt)),hw]
   rfl
  rw [step]
  simp only [Option.bind_some,Sum.elim_inl]
  rw [show zs (fun z=>zaw L m c mt loc ts z.1 z.2.1 z.2.2) ((zbe [84] s b).2.1,(zbe [84] s b).2.2||!zlB L (zbe [84] s b).1 ts[k],(k:Int)-1)=_ from ih (by omega) _ _ h2]
  have e2:(ts.take (k+1)).reverse=ts[k]::(ts.take k).reverse:=by
   rw [List.take_add_one,List.getElem?_eq_getElem hlt];simp
  rw [e2]
  rfl
theorem zeS(h:zeD l L)(hm:zcD L m){ts:List Tx}(ht:ShL ts)(hs:ShL stk):zH L m c mt loc stk b ts=some (zZ L [84] ts.reverse stk b):=by
 unfold zH
 have hw:IntKind.i64.wrap ((ts.length:Int)-1)=(ts.length:Int)-1:=zjY (by omega) (by have:=ht.1;omega)
 rw [hw,show zs (fun z=>zaw L m c mt loc ts z.1 z.2.1 z.2.2) (stk,b,(ts.length:Int)-1)=_ from zA2 h hm ht ts.length (Nat.le_refl _) stk b hs,List.take_length]
 rfl
end
theorem sh1{t:Tx}(h:t.length≤25):ShL [t]:=⟨by simp,fun x hx=>by rw [List.mem_singleton.1 hx];exact h⟩
theorem sh2{t u:Tx}(h:t.length≤25)(k:u.length≤25):ShL [t,u]:=⟨by simp,fun x hx=>by
 rcases List.mem_cons.1 hx with rfl |hx
 ·exact h
 ·rw [List.mem_singleton.1 hx];exact k⟩
theorem sh3{t u v:Tx}(h:t.length≤25)(k:u.length≤25)(j:v.length≤25):ShL [t,u,v]:=⟨by simp,fun x hx=>by
 rcases List.mem_cons.1 hx with rfl |hx
 ·exact h
 ·exact (sh2 k j).2 x hx⟩
theorem ShL.len{l:List Tx}(h:ShL l):l.length≤1000:=by have:=h.1;omega
theorem ztc{t:Tx}(h:t.length≤25):Len t:=by
 show t.length≤9223372036854775807
 omega
section
variable {l L : List za} {m : List (Tx × Int)} {c : Tx} {mt : zb} {loc stk : List Tx} {b : Bool}
def zgq(e:Tx)(s:List Tx)(b:Bool):Tx×List Tx×Bool:=
 ((zbe e s b).1,(zbe e s b).2.1,(zbe e s b).2.2||!(((zbe e s b).1 == [78])||zn6 (zbe e s b).1))
theorem zqQ{e:Tx}{s:List Tx}{b:Bool}(h:ShL s)(he:e.length≤25):(zgq e s b).1.length≤25∧ShL (zgq e s b).2.1:=zdh h he
theorem zpP(hs:ShL stk):zbv L m c mt loc stk b=some (zgq [84] stk b):=by
 unfold zbv zgq
 obtain ⟨h1,h2⟩:=zdh (b:=b) hs (e:=[84]) (by decide)
 rw [zlE hs.len]
 simp only [Option.bind_some]
 rw [zjA (ztc h1)]
 cases (zbe [84] stk b).1 == [78] <;> rfl
def zjh(e:Tx)(s:List Tx)(b:Bool):Tx×List Tx×Bool:=
 (cond ((zbe e s b).1 == [78]) (zbe e s b).1 (zgJ (zbe e s b).1).1,(zbe e s b).2.1,(zbe e s b).2.2||!(((zbe e s b).1 == [78])||((zgJ (zbe e s b).1).2&&!((zgJ (zbe e s b).1).1 == [73]))))
theorem zv7{t:Tx}(h:t.length≤25):(zgJ t).1.length≤25:=by
 unfold zgJ
 cases ze5 t&&brk t
 ·exact Nat.zero_le _
 ·show (t.drop 1).length≤25
  simp;omega
theorem zsx{e:Tx}{s:List Tx}{b:Bool}(h:ShL s)(he:e.length≤25):(zjh e s b).1.length≤25∧ShL (zjh e s b).2.1:=by
 obtain ⟨h1,h2⟩:=zdh (b:=b) h he
 refine ⟨?_,h2⟩
 unfold zjh
 cases (zbe e s b).1 == [78]
 ·exact zv7 h1
 ·exact h1
theorem ztp(hs:ShL stk):zdd L m c mt loc stk b=some (zjh [84] stk b):=by
 unfold zdd zjh
 obtain ⟨h1,h2⟩:=zdh (b:=b) hs (e:=[84]) (by decide)
 rw [zlE hs.len]
 simp only [Option.bind_some]
 rw [zgg (ztc h1)]
 cases (zbe [84] stk b).1 == [78] <;> rfl
theorem zi3(e f:Tx)(s:List Tx)(b:Bool):(zbe e s b).2=(zbe f s b).2:=by
 unfold zbe;split <;> rfl
theorem zey(e f:Tx)(s:List Tx)(b:Bool)(h:(zbe e s b).2.2=false):(zbe e s b).1=(zbe f s b).1:=by
 unfold zbe at h ⊢
 split
 ·rfl
 ·rename_i hq;rw [hq] at h;cases h
theorem zoO{a p q:Bool}(h:a=false→p=q):(a||p)=(a||q):=by
 cases a
 ·rw [h rfl]
 ·rfl
theorem zeo(e f:Tx):∀(ts s:List Tx) (b:Bool),zZ L e ts s b=zZ L f ts s b:=by
 intro ts
 induction ts with
 |nil=>intro s b;rfl
 |cons w r ih =>
  intro s b
  show zZ L e r (zbe e s b).2.1 ((zbe e s b).2.2||!zlB L (zbe e s b).1 w)=zZ L f r (zbe f s b).2.1 ((zbe f s b).2.2||!zlB L (zbe f s b).1 w)
  rw [ih,←zi3 e f s b,zoO (fun h=>by rw [zey e f s b h])]
theorem zzP(e f:Tx)(s:List Tx)(b:Bool):(zgq e s b).2=(zgq f s b).2:=by
 unfold zgq
 rw [←zi3 e f s b,zoO (fun h=>by rw [zey e f s b h])]
theorem zvd(e f:Tx)(s:List Tx)(b:Bool)(h:(zgq e s b).2.2=false):(zgq e s b).1=(zgq f s b).1:=
 zey e f s b (by unfold zgq at h;simp only [Bool.or_eq_false_iff] at h;exact h.1)
theorem zzo(e f:Tx)(s:List Tx)(b:Bool):(zjh e s b).2=(zjh f s b).2:=by
 unfold zjh
 rw [←zi3 e f s b,zoO (fun h=>by rw [zey e f s b h])]
theorem zuD(e f:Tx)(s:List Tx)(b:Bool)(h:(zjh e s b).2.2=false):(zjh e s b).1=(zjh f s b).1:=by
 have h1:(zbe e s b).2.2=false:=by unfold zjh at h;simp only [Bool.or_eq_false_iff] at h;exact h.1
 unfold zjh
 rw [zey e f s b h1]
end
section
variable {l L : List za} {c : Tx} {mt : zb} {loc stk : List Tx} {b : Bool}
theorem zii(hs:stk.length≤1000):zad L c mt loc stk b=some (zbe [78] stk b):=by
 unfold zad
 rcases zgU stk with rfl |⟨r,t,rfl⟩
 ·rfl
 ·have hl:((r++[t]).length:Int)=(r.length:Int)+1:=by simp
  have h0:(((r++[t]).length:Int) == 0)=false:=beq_eq_false_iff_ne.2 (by omega)
  have hw:IntKind.i64.wrap (((r++[t]).length:Int)-1)=(r.length:Int):=by
   rw [hl,zjY (by omega) (by simp at hs;omega)];omega
  rw [h0,hw,zjJ,zB]
  have h1:(r++[t])[r.length]?=some t:=by simp
  have h2:zhs (r++[t]) 0 (r.length:Int)=some r:=by
   unfold zhs
   rw [if_pos ⟨by omega,by omega,by omega⟩]
   simp
  rw [h1,h2]
  rfl
theorem zyW(h:zeD l L){ts:List Tx}(ht:ShL ts):∀(k:Nat),k≤ts.length→∀(s:List Tx) (b:Bool),ShL s →
  zs (fun z=>zaL L c mt loc ts z.1 z.2.1 z.2.2) (s,b,(k:Int)-1)=some (.inl (zZ L [78] (ts.take k).reverse s b)):=by
 intro k
 induction k with
 |zero =>
  intro _ s b hs
  rw [zJ]
  show (zaL L c mt loc ts s b (((0:Nat):Int)-1)).bind _=_
  unfold zaL
  rw [decide_eq_false (by omega)]
  rfl
 |succ k ih =>
  intro hk s b hs
  rw [zJ]
  show (zaL L c mt loc ts s b (((k+1:Nat):Int)-1)).bind _=_
  have e1:(((k+1:Nat):Int)-1)=(k:Int):=by omega
  have hlt:k<ts.length:=by omega
  obtain ⟨h1,h2⟩:=zdh (b:=b) hs (e:=[78]) (by decide)
  have hw:IntKind.i64.wrap ((k:Int)-1)=(k:Int)-1:=zjY (by omega) (by have:=ht.1;omega)
  have step:zaL L c mt loc ts s b (((k+1:Nat):Int)-1)=some (.inl ((zbe [78] s b).2.1,(zbe [78] s b).2.2||!zlB L (zbe [78] s b).1 ts[k],(k:Int)-1)):=by
   unfold zaL
   rw [e1,decide_eq_true (by omega),zB,List.getElem?_eq_getElem hlt,zii hs.len]
   simp only [cond_true,Option.bind_some]
   rw [zgr h h1 (ht.2 _ (List.getElem_mem hlt)),hw]
   rfl
  rw [step]
  simp only [Option.bind_some,Sum.elim_inl]
  rw [show zs (fun z=>zaL L c mt loc ts z.1 z.2.1 z.2.2) ((zbe [78] s b).2.1,(zbe [78] s b).2.2||!zlB L (zbe [78] s b).1 ts[k],(k:Int)-1)=_ from ih (by omega) _ _ h2]
  have e2:(ts.take (k+1)).reverse=ts[k]::(ts.take k).reverse:=by
   rw [List.take_add_one,List.getElem?_eq_getElem hlt];simp
  rw [e2]
  rfl
theorem zdP(h:zeD l L){ts:List Tx}(ht:ShL ts)(hs:ShL stk):zR L c mt loc stk b ts=some (zZ L [78] ts.reverse stk b):=by
 unfold zR
 have hw:IntKind.i64.wrap ((ts.length:Int)-1)=(ts.length:Int)-1:=zjY (by omega) (by have:=ht.1;omega)
 rw [hw,show zs (fun z=>zaL L c mt loc ts z.1 z.2.1 z.2.2) (stk,b,(ts.length:Int)-1)=_ from zyW h ht ts.length (Nat.le_refl _) stk b hs,List.take_length]
 rfl
def znE(most:Int)(s:List Tx)(b:Bool)(t:Tx):List Tx×Bool:=(s++[t],b||!decide (((s++[t]).length:Int)≤most))
theorem zen{t:Tx}(hs:stk.length≤1000):zN L c mt loc stk b t=some (znE mt.Stack stk b t):=by
 unfold zN znE zfY
 rw [if_pos (by simp;omega)]
 simp only [List.nil_append,Option.bind_some]
 rw [if_pos (by simp;omega)]
 rfl
def zl7(s:List Tx)(b:Bool):Tx×List Tx×Bool:=((zbe [78] s b).1,(zbe [78] s b).2.1,(zbe [78] s b).2.2||!(!((zbe [78] s b).1 == [73])))
theorem zl8(hs:ShL stk):zbm L c mt loc stk b=some (zl7 stk b):=by
 unfold zbm
 rw [zii hs.len]
 rfl
theorem zv3{p q:List Tx}(hp:p.length≤1000)(hq:q.length≤1000):zdK (zgv.mk p q)=some (p,q):=by
 unfold zdK zfY
 simp only
 rw [if_pos (by simp;omega),if_pos (by simp;omega)]
 rfl
end
def zmV(most:Int)(p r:List Tx×List Tx×Bool):Prop:=
 (p.2.2||!decide ((p.2.1.length:Int)≤most))=r.2.2∧(r.2.2=false→p.1=r.1∧p.2.1=r.2.1)
section
variable {L : List za} {most : Int} {loc s : List Tx} {b : Bool}
theorem zed(t:Tx):zmV most (loc,s++[t],b) (loc,(znE most s b t).1,(znE most s b t).2):=⟨rfl,fun _=>⟨rfl,rfl⟩⟩
theorem zr8(t u:Tx):zmV most (loc,s++[t]++[u],b) (loc,(znE most (znE most s b t).1 (znE most s b t).2 u).1,(znE most (znE most s b t).1 (znE most s b t).2 u).2):=by
 refine ⟨?_,fun _=>⟨rfl,rfl⟩⟩
 show (b||!decide (((s++[t]++[u]).length:Int)≤most))=((b||!decide (((s++[t]).length:Int)≤most))||!decide (((s++[t]++[u]).length:Int)≤most))
 by_cases h:((s++[t]++[u]).length:Int)≤most
 ·have h2:((s++[t]).length:Int)≤most:=by simp at h ⊢;omega
  rw [decide_eq_true h,decide_eq_true h2];simp
 ·rw [decide_eq_false h];simp
theorem zeB(h:b=false→(s.length:Int)≤most):zmV most (loc,s,b) (loc,s,b):=by
 refine ⟨?_,fun _=>⟨rfl,rfl⟩⟩
 show (b||!decide ((s.length:Int)≤most))=b
 cases b with
 |true=>rfl
 |false=>rw [decide_eq_true (h rfl)];rfl
theorem zfd{p r:List Tx×List Tx×Bool}(hp:p.2.2=true)(hr:r.2.2=true):zmV most p r:=
 ⟨by rw [hp,hr];rfl,fun h=>by rw [hr] at h;cases h⟩
theorem zoR(e:Tx)(s:List Tx)(b:Bool):(zbe e s b).2.1.length≤s.length:=by
 rcases zgU s with rfl |⟨r,t,rfl⟩
 ·exact Nat.le_refl _
 ·rw [zjJ];simp
theorem ziF(e:Tx):∀(ts s:List Tx) (b:Bool),(zZ L e ts s b).1.length≤s.length:=by
 intro ts
 induction ts with
 |nil=>intro s b;exact Nat.le_refl _
 |cons w r ih=>intro s b;exact Nat.le_trans (ih _ _) (zoR e s b)
theorem zxC(e w w':Tx)(s:List Tx)(b:Bool):zZ L e [w,w'] s b=zZ L e [w'] (zZ L e [w] s b).1 (zZ L e [w] s b).2:=rfl
end
def onS(t:Tx):Prop:=t=[78]∨ze5 t=true
theorem zmL{s:List Tx}{b:Bool}(h:∀t∈s,onS t):(zl7 s b).2=(zgq [84] s b).2∧((zl7 s b).2.2=false→(zl7 s b).1=(zgq [84] s b).1):=by
 have key:(zl7 s b).2=(zgq [78] s b).2:=by
  unfold zl7 zgq
  rcases zgU s with rfl |⟨r,t,rfl⟩
  ·rfl
  ·rw [zjJ]
   have ht:=h t (by simp)
   show (r,b||!(!(t == [73])))=(r,b||!((t == [78])||zn6 t))
   rcases ht with rfl |ht
   ·rfl
   ·unfold zn6
    rw [ht]
    have:(t == [78])=false:=beq_eq_false_iff_ne.2 fun e=>by rw [e,zAG] at ht;cases ht
    rw [this]
    cases t == [73] <;> rfl
 refine ⟨key.trans (zzP [78] [84] s b),fun hf=>?_⟩
 have:(zl7 s b).2.2=(zgq [84] s b).2.2:=by rw [key,zzP [78] [84] s b]
 rw [this] at hf
 exact (zvd [84] [78] s b hf).symm
def zx0(t:Tx):Prop:=t.length≤25∧onS t
theorem zkn:zx0 [73]:=⟨by decide,.inr (by decide +kernel)⟩
theorem zyl:zx0 [78]:=⟨by decide,.inl rfl⟩
theorem zuO{t:Tx}(h:ze5 t=true)(hl:t.length≤25):zx0 t:=⟨hl,.inr h⟩
def zln(loc stk:List Tx)(b:Bool)(p:List Tx×List Tx×Bool):Prop:=
 (b=true→p.2.2=true) ∧
 (p.1.length=loc.length∧p.2.1.length≤stk.length+2∧(∀t∈p.1,t.length≤25)∧∀t∈p.2.1,t.length≤25) ∧
 (p.2.2=false→(∀t∈p.2.1,t∈stk∨zx0 t)∧∀t∈p.1,t∈loc∨t∈stk)
theorem zf3(e:Tx)(s:List Tx)(b:Bool):(zbe e s b).2.1<+:s:=by
 rcases zgU s with rfl |⟨r,t,rfl⟩
 ·exact List.prefix_refl _
 ·rw [zjJ];exact List.prefix_append _ _
theorem zkz{e:Tx}{s:List Tx}{b:Bool}(h:(zbe e s b).2.2=false):(zbe e s b).1∈s:=by
 rcases zgU s with rfl |⟨r,t,rfl⟩
 ·cases h
 ·rw [zjJ];simp
theorem zjP(e:Tx)(s:List Tx)(b:Bool):(zgq e s b).2.1<+:s:=zf3 e s b
theorem zto(e:Tx)(s:List Tx)(b:Bool):(zjh e s b).2.1<+:s:=zf3 e s b
theorem zlg{e:Tx}{s:List Tx}{b:Bool}(h:b=true):(zgq e s b).2.2=true:=by unfold zgq;rw [zf2 h];rfl
theorem ztn{e:Tx}{s:List Tx}{b:Bool}(h:b=true):(zjh e s b).2.2=true:=by unfold zjh;rw [zf2 h];rfl
theorem zcZ(L:List za)(e:Tx):∀(ts s:List Tx) (b:Bool),(zZ L e ts s b).1<+:s:=by
 intro ts
 induction ts with
 |nil=>intro s b;exact List.prefix_refl _
 |cons w r ih=>intro s b;exact (ih _ _).trans (zf3 e s b)
section
variable {L : List za} {loc stk s : List Tx} {b0 b : Bool}
theorem zeu(hb0:b0=true→b=true)(hl:ShL loc)(hs:ShL stk)(h:s<+:stk):zln loc stk b0 (loc,s,b):=
 ⟨hb0,⟨rfl,by have:=h.length_le;show s.length≤_;omega,hl.2,fun t ht=>hs.2 t (h.subset ht)⟩,fun _=>⟨fun t ht=>.inl (h.subset ht),fun t ht=>.inl ht⟩⟩
theorem zdO{u:Tx}(hb0:b0=true→b=true)(hl:ShL loc)(hs:ShL stk)(h:s<+:stk)(h1:u.length≤25)(hu:b=false→u∈stk∨zx0 u):zln loc stk b0 (loc,s++[u],b):=
 ⟨hb0,⟨rfl,by have:=h.length_le;show (s++[u]).length≤_;simp;omega,hl.2,fun t ht=>by
  rcases List.mem_append.1 ht with k |k
  ·exact hs.2 t (h.subset k)
  ·rw [List.mem_singleton.1 k];exact h1⟩,fun hb=>⟨fun t ht=>by
  rcases List.mem_append.1 ht with k |k
  ·exact .inl (h.subset k)
  ·rw [List.mem_singleton.1 k];exact hu hb,fun t ht=>.inl ht⟩⟩
theorem zru{u v:Tx}(hb0:b0=true→b=true)(hl:ShL loc)(hs:ShL stk)(h:s<+:stk)(h1:u.length≤25)(hu:b=false→u∈stk∨zx0 u)(h2:v.length≤25)(hv:b=false→v∈stk∨zx0 v):zln loc stk b0 (loc,s++[u]++[v],b):=
 ⟨hb0,⟨rfl,by have:=h.length_le;show (s++[u]++[v]).length≤_;simp;omega,hl.2,fun t ht=>by
  rcases List.mem_append.1 ht with k |k
  ·rcases List.mem_append.1 k with k |k
   ·exact hs.2 t (h.subset k)
   ·rw [List.mem_singleton.1 k];exact h1
  ·rw [List.mem_singleton.1 k];exact h2⟩,fun hb=>⟨fun t ht=>by
  rcases List.mem_append.1 ht with k |k
  ·rcases List.mem_append.1 k with k |k
   ·exact .inl (h.subset k)
   ·rw [List.mem_singleton.1 k];exact hu hb
  ·rw [List.mem_singleton.1 k];exact hv hb,fun t ht=>.inl ht⟩⟩
theorem zpK{k:Nat}{u:Tx}(hb0:b0=true→b=true)(hl:ShL loc)(hs:ShL stk)(h:s<+:stk)(h1:u.length≤25)(hu:b=false→u∈stk):zln loc stk b0 (loc.set k u,s,b):=
 ⟨hb0,⟨List.length_set ..,by have:=h.length_le;show s.length≤_;omega,fun t ht=>by
  rcases List.mem_or_eq_of_mem_set ht with k |rfl
  ·exact hl.2 t k
  ·exact h1,fun t ht=>hs.2 t (h.subset ht)⟩,fun hb=>⟨fun t ht=>.inl (h.subset ht),fun t ht=>by
  rcases List.mem_or_eq_of_mem_set ht with k |rfl
  ·exact .inl k
  ·exact .inr (hu hb)⟩⟩
end
theorem bt{n a b:Int}(h:a≤n∧n≤b):zak n a b=true:=by
 unfold zak;rw [decide_eq_true h.1,decide_eq_true h.2];rfl
theorem bf{n a b:Int}(h:¬(a≤n∧n≤b)):zak n a b=false:=by
 unfold zak
 rw [Bool.and_eq_false_iff,decide_eq_false_iff_not,decide_eq_false_iff_not];omega
theorem ct{n a b:Int}(h:a≤n∧n≤b):(decide (a≤n)&&decide (n≤b))=true:=bt h
theorem cf{n a b:Int}(h:¬(a≤n∧n≤b)):(decide (a≤n)&&decide (n≤b))=false:=bf h
theorem qt{n k:Int}(h:n=k):(n == k)=true:=by rw [h];exact beq_self_eq_true k
theorem qf{n k:Int}(h:n≠k):(n == k)=false:=beq_eq_false_iff_ne.2 h
structure zes(l L:List za)(m:List (Tx×Int))(mt:zb)(loc stk:List Tx)(b:Bool):Prop where
 made:zeD l L
 map:zcD L m
 lens:zsk L
 shL:ShL loc
 shS:ShL stk
 on:∀t∈stk,onS t
 room:(stk.length:Int)≤mt.Stack
 onL:∀t∈loc,t=[84]∨onS t
section
variable {l L : List za} {m : List (Tx × Int)} {c : Tx} {mt : zb} {loc stk : List Tx} {b : Bool} {x : zw}
theorem zvj(h:zes l L m mt loc stk b)(ho:8≤x.Op∧x.Op≤19):
  ∃p r,zg L m c mt loc stk b x=some p∧zh L c mt loc stk b x=some r∧zmV mt.Stack p r∧zln loc stk b p:=by
 have h73:([73]:Tx).length≤25:=by decide
 by_cases hn:x.Op=13
 ·refine ⟨(loc,(zZ L [84] [[73]] stk b).1++[[73]],(zZ L [84] [[73]] stk b).2),_,?_,?_,zed _,zdO (za3 _ _ _) h.shL h.shS (zcZ _ _ _ _ _) (by decide) fun _=>.inr zkn⟩
  ·unfold zg
   rw [bf (by omega),qt hn,zeS h.made h.map (sh1 h73) h.shS]
   simp only [cond_false,cond_true,Option.bind_some,List.reverse_singleton]
   rw [zem (zdj (by decide) _ _ _ h.shS).len]
   rfl
  ·unfold zh
   rw [ct ho,zdP h.made (sh1 h73) h.shS,qt hn]
   simp only [cond_false,cond_true,Option.bind_some,List.reverse_singleton,Bool.not_true]
   unfold zcO
   rw [zen (zdj (by decide) _ _ _ h.shS).len,zeo [78] [84]]
   rfl
 ·refine ⟨(loc,(zZ L [84] [[73],[73]] stk b).1++[[73]],(zZ L [84] [[73],[73]] stk b).2),_,?_,?_,zed _,zdO (za3 _ _ _) h.shL h.shS (zcZ _ _ _ _ _) (by decide) fun _=>.inr zkn⟩
  ·unfold zg
   rw [bf (by omega),qf hn,bt ho,zeS h.made h.map (sh2 h73 h73) h.shS]
   simp only [cond_false,cond_true,Option.bind_some]
   rw [show ([[73],[73]]:List Tx).reverse=[[73],[73]] from rfl,zem (zdj (by decide) _ _ _ h.shS).len]
   rfl
  ·unfold zh
   have hs:=zdj (L:=L) (e:=[78]) (by decide) [[73]] stk b h.shS
   rw [ct ho,zdP h.made (sh1 h73) h.shS,qf hn]
   simp only [cond_false,cond_true,Option.bind_some,List.reverse_singleton,Bool.not_false]
   rw [zdP h.made (sh1 h73) hs]
   simp only [Option.bind_some,List.reverse_singleton]
   unfold zcO
   rw [zen (zdj (by decide) _ _ _ hs).len]
   rw [←zxC,zeo [78] [84]]
   rfl
theorem instr_plain(h1:¬(8≤x.Op∧x.Op≤45))(h2:¬(49≤x.Op∧x.Op≤55)):zh L c mt loc stk b x=(zO L c mt loc stk b x).bind fun v=>some (v.1,v.2.1,v.2.2):=by
 unfold zh
 rw [cf (by omega),cf (by omega),qf (show x.Op≠20 by omega),cf (by omega),cf (by omega),cf (by omega)]
 rfl
theorem zjF(h:1≤x.Op∧x.Op≤7):zg L m c mt loc stk b x=(zaH L m c mt loc stk b x).bind fun v=>some (v.1,v.2.1,v.2.2):=by
 unfold zg
 rw [bt h]
 rfl
theorem zmA(h:56≤x.Op∧x.Op≤61):zg L m c mt loc stk b x=(zbk L m c mt loc stk b x).bind fun v=>some (loc,v.1,v.2):=by
 unfold zg
 rw [bf (by omega),qf (by omega),bf (by omega),qf (by omega),bf (by omega),bf (by omega),bf (by omega),bf (by omega),qf (by omega),bf (by omega),bf (by omega),bf (by omega),bf (by omega)]
 rfl
theorem zvk(h:zes l L m mt loc stk b)(ho:x.Op=1∨x.Op=2):
  ∃p r,zg L m c mt loc stk b x=some p∧zh L c mt loc stk b x=some r∧zmV mt.Stack p r∧zln loc stk b p:=by
 rcases ho with ho |ho
 ·refine ⟨(loc,stk++[[73]],b),_,?_,?_,zed _,zdO id h.shL h.shS (List.prefix_refl _) (by decide) fun _=>.inr zkn⟩
  ·rw [zjF (by omega)]
   unfold zaH
   rw [qt ho,zem h.shS.len]
   rfl
  ·rw [instr_plain (by omega) (by omega)]
   unfold zO
   rw [qt ho,zen h.shS.len]
   rfl
 ·refine ⟨(loc,stk++[[78]],b),_,?_,?_,zed _,zdO id h.shL h.shS (List.prefix_refl _) (by decide) fun _=>.inr zyl⟩
  ·rw [zjF (by omega)]
   unfold zaH
   rw [qf (show x.Op≠1 by omega),qt ho]
   simp only [cond_false,cond_true]
   rw [zem h.shS.len]
   rfl
  ·rw [instr_plain (by omega) (by omega)]
   unfold zO
   rw [qf (show x.Op≠1 by omega),qt ho]
   simp only [cond_false,cond_true]
   rw [zen h.shS.len]
   rfl
theorem zy9(h:zes l L m mt loc stk b)(ho:x.Op=5):
  ∃p r,zg L m c mt loc stk b x=some p∧zh L c mt loc stk b x=some r∧zmV mt.Stack p r∧zln loc stk b p:=by
 obtain ⟨g1,g2⟩:=zdh (b:=b) h.shS (e:=[84]) (by decide)
 obtain ⟨k1,k2⟩:=zdh (b:=b) h.shS (e:=[78]) (by decide)
 ·refine ⟨(loc,(zbe [84] stk b).2.1,(zbe [84] stk b).2.2),(loc,(zbe [84] stk b).2.1,(zbe [84] stk b).2.2),?_,?_,zeB fun _=>?_,zeu zf2 h.shL h.shS (zf3 _ _ _)⟩
  ·rw [zjF (by omega)]
   unfold zaH
   rw [qf (show x.Op≠1 by omega),qf (show x.Op≠2 by omega),qf (show x.Op≠3 by omega),qf (show x.Op≠4 by omega),qt ho]
   simp only [cond_false,cond_true]
   rw [zlE h.shS.len]
   rfl
  ·rw [instr_plain (by omega) (by omega)]
   unfold zO
   rw [qf (show x.Op≠1 by omega),qf (show x.Op≠2 by omega),qf (show x.Op≠3 by omega),qf (show x.Op≠4 by omega),qt ho]
   simp only [cond_false,cond_true]
   rw [zii h.shS.len,zi3 [84] [78]]
   rfl
  ·have:=zoR [84] stk b
   have:=h.room
   omega
end
section
variable {l L : List za} {m : List (Tx × Int)} {c : Tx} {mt : zb} {loc stk : List Tx} {b : Bool} {x : zw}
theorem zmD{most:Int}{s:List Tx}{b:Bool}{t:Tx}(h:b=true):(znE most s b t).2=true:=by
 unfold znE;rw [h];rfl
theorem zy6(h:zes l L m mt loc stk b)(ho:x.Op=6):
  ∃p r,zg L m c mt loc stk b x=some p∧zh L c mt loc stk b x=some r∧zmV mt.Stack p r∧zln loc stk b p:=by
 obtain ⟨g1,g2⟩:=zdh (b:=b) h.shS (e:=[84]) (by decide)
 obtain ⟨k1,k2⟩:=zdh (b:=b) h.shS (e:=[78]) (by decide)
 refine ⟨(loc,(zbe [84] stk b).2.1++[(zbe [84] stk b).1]++[(zbe [84] stk b).1],(zbe [84] stk b).2.2),
  (loc,(znE mt.Stack (znE mt.Stack (zbe [78] stk b).2.1 (zbe [78] stk b).2.2 (zbe [78] stk b).1).1 (znE mt.Stack (zbe [78] stk b).2.1 (zbe [78] stk b).2.2 (zbe [78] stk b).1).2 (zbe [78] stk b).1).1,
   (znE mt.Stack (znE mt.Stack (zbe [78] stk b).2.1 (zbe [78] stk b).2.2 (zbe [78] stk b).1).1 (znE mt.Stack (zbe [78] stk b).2.1 (zbe [78] stk b).2.2 (zbe [78] stk b).1).2 (zbe [78] stk b).1).2),?_,?_,?_,zru zf2 h.shL h.shS (zf3 _ _ _) g1 (fun hb=>.inl (zkz hb)) g1 fun hb=>.inl (zkz hb)⟩
 ·rw [zjF (by omega)]
  unfold zaH
  rw [qf (show x.Op≠1 by omega),qf (show x.Op≠2 by omega),qf (show x.Op≠3 by omega),qf (show x.Op≠4 by omega),qf (show x.Op≠5 by omega),qt ho]
  simp only [cond_false,cond_true]
  rw [zlE h.shS.len]
  simp only [Option.bind_some]
  rw [zem g2.len]
  simp only [Option.bind_some]
  rw [zem (by have:=g2.1;simp;omega)]
  rfl
 ·rw [instr_plain (by omega) (by omega)]
  unfold zO
  rw [qf (show x.Op≠1 by omega),qf (show x.Op≠2 by omega),qf (show x.Op≠3 by omega),qf (show x.Op≠4 by omega),qf (show x.Op≠5 by omega),qt ho]
  simp only [cond_false,cond_true]
  rw [zii h.shS.len]
  simp only [Option.bind_some]
  rw [zen k2.len]
  simp only [Option.bind_some]
  rw [zen (by have:=k2.1;show ((zbe [78] stk b).2.1++[(zbe [78] stk b).1]).length≤1000;simp;omega)]
  rfl
 ·cases hb:(zbe [84] stk b).2.2 with
  |true =>
   refine zfd rfl ?_
   have:(zbe [78] stk b).2.2=true:=by rw [←zi3 [84] [78]];exact hb
   exact zmD (zmD this)
  |false =>
   have e1:=zey [84] [78] stk b hb
   have e2:=zi3 [84] [78] stk b
   rw [←e1,←e2,hb]
   exact zr8 _ _
theorem zt7{e:Tx}{s:List Tx}{b:Bool}(h:(zbe e s b).2.2=false):b=false:=by
 cases b with
 |false=>rfl
 |true=>rw [zf2 rfl] at h;cases h
theorem zxw(h:zes l L m mt loc stk b)(ho:x.Op=7):
  ∃p r,zg L m c mt loc stk b x=some p∧zh L c mt loc stk b x=some r∧zmV mt.Stack p r∧zln loc stk b p:=by
 obtain ⟨g1,g2⟩:=zdh (b:=b) h.shS (e:=[84]) (by decide)
 obtain ⟨k1,k2⟩:=zdh (b:=b) h.shS (e:=[78]) (by decide)
 generalize hP:zbe [84] stk b=P at g1 g2
 generalize hR:zbe [78] stk b=R at k1 k2
 obtain ⟨g3,g4⟩:=zdh (b:=P.2.2) g2 (e:=[84]) (by decide)
 obtain ⟨k3,k4⟩:=zdh (b:=R.2.2) k2 (e:=[78]) (by decide)
 have hPs:P.2.1<+:stk:=by rw [←hP];exact zf3 _ _ _
 have hPb:b=true→P.2.2=true:=by rw [←hP];exact zf2
 have hPi:P.2.2=false→P.1∈stk:=by rw [←hP];exact zkz
 refine ⟨(loc,(zbe [84] P.2.1 P.2.2).2.1++[P.1]++[(zbe [84] P.2.1 P.2.2).1],(zbe [84] P.2.1 P.2.2).2.2),
  (loc,(znE mt.Stack (znE mt.Stack (zbe [78] R.2.1 R.2.2).2.1 (zbe [78] R.2.1 R.2.2).2.2 R.1).1 (znE mt.Stack (zbe [78] R.2.1 R.2.2).2.1 (zbe [78] R.2.1 R.2.2).2.2 R.1).2 (zbe [78] R.2.1 R.2.2).1).1,
   (znE mt.Stack (znE mt.Stack (zbe [78] R.2.1 R.2.2).2.1 (zbe [78] R.2.1 R.2.2).2.2 R.1).1 (znE mt.Stack (zbe [78] R.2.1 R.2.2).2.1 (zbe [78] R.2.1 R.2.2).2.2 R.1).2 (zbe [78] R.2.1 R.2.2).1).2),?_,?_,?_,zru (fun e=>zf2 (hPb e)) h.shL h.shS ((zf3 _ _ _).trans hPs) g1 (fun hb=>.inl (hPi (zt7 hb))) g3 fun hb=>.inl (hPs.subset (zkz hb))⟩
 ·rw [zjF (by omega)]
  unfold zaH
  rw [qf (show x.Op≠1 by omega),qf (show x.Op≠2 by omega),qf (show x.Op≠3 by omega),qf (show x.Op≠4 by omega),qf (show x.Op≠5 by omega),qf (show x.Op≠6 by omega),qt ho]
  simp only [cond_false,cond_true]
  rw [zlE h.shS.len,hP]
  simp only [Option.bind_some]
  rw [zlE g2.len]
  simp only [Option.bind_some]
  rw [zem g4.len]
  simp only [Option.bind_some]
  rw [zem (by have:=g4.1;simp;omega)]
  rfl
 ·rw [instr_plain (by omega) (by omega)]
  unfold zO
  rw [qf (show x.Op≠1 by omega),qf (show x.Op≠2 by omega),qf (show x.Op≠3 by omega),qf (show x.Op≠4 by omega),qf (show x.Op≠5 by omega),qf (show x.Op≠6 by omega),qt ho]
  simp only [cond_false,cond_true]
  rw [zii h.shS.len,hR]
  simp only [Option.bind_some]
  rw [zii k2.len]
  simp only [Option.bind_some]
  rw [zen k4.len]
  simp only [Option.bind_some]
  rw [zen (by have:=k4.1;show ((zbe [78] R.2.1 R.2.2).2.1++[R.1]).length≤1000;simp;omega)]
  rfl
 ·have e2:P.2=R.2:=by rw [←hP,←hR];exact zi3 [84] [78] stk b
  cases hb:(zbe [84] P.2.1 P.2.2).2.2 with
  |true =>
   refine zfd rfl ?_
   have:(zbe [78] R.2.1 R.2.2).2.2=true:=by rw [←e2,←zi3 [84] [78]];exact hb
   exact zmD (zmD this)
  |false =>
   have e1:P.1=R.1:=by
    rw [←hP,←hR]
    exact zey [84] [78] stk b (by rw [hP];exact zt7 hb)
   have e3:=zey [84] [78] P.2.1 P.2.2 hb
   have e4:=zi3 [84] [78] P.2.1 P.2.2
   rw [←e2,←e1,←e3,←e4,hb]
   exact zr8 _ _
theorem znd(h:58≤x.Op):∀k:Int,k<58→(x.Op == k)=false:=fun k hk=>qf (by omega)
theorem zAY(h:zes l L m mt loc stk b)(ho:x.Op=59):
  ∃p r,zg L m c mt loc stk b x=some p∧zh L c mt loc stk b x=some r∧zmV mt.Stack p r∧zln loc stk b p:=by
 have hq:=znd (x:=x) (by omega)
 refine ⟨(loc,stk++[[73]],b),_,?_,?_,zed _,zdO id h.shL h.shS (List.prefix_refl _) (by decide) fun _=>.inr zkn⟩
 ·rw [zmA (by omega)]
  unfold zbk
  rw [hq 56 (by omega),hq 57 (by omega)]
  unfold zaJ
  rw [qf (show x.Op≠58 by omega),qt ho]
  simp only [cond_false,cond_true]
  rw [zem h.shS.len]
  rfl
 ·rw [instr_plain (by omega) (by omega)]
  unfold zO
  rw [hq 1 (by omega),hq 2 (by omega),hq 3 (by omega),hq 4 (by omega),hq 5 (by omega),hq 6 (by omega),hq 7 (by omega),hq 46 (by omega),hq 47 (by omega),hq 48 (by omega),hq 56 (by omega),hq 57 (by omega),qf (show x.Op≠58 by omega),qt ho]
  simp only [cond_false,cond_true]
  rw [zen h.shS.len]
  rfl
theorem zy8(h:zes l L m mt loc stk b)(ho:x.Op=60∨x.Op=61):
  ∃p r,zg L m c mt loc stk b x=some p∧zh L c mt loc stk b x=some r∧zmV mt.Stack p r∧zln loc stk b p:=by
 have hq:=znd (x:=x) (by omega)
 have h73:([73]:Tx).length≤25:=by decide
 refine ⟨(loc,(zZ L [84] [[73]] stk b).1,(zZ L [84] [[73]] stk b).2),(loc,(zZ L [84] [[73]] stk b).1,(zZ L [84] [[73]] stk b).2),?_,?_,zeB fun _=>?_,zeu (za3 _ _ _) h.shL h.shS (zcZ _ _ _ _ _)⟩
 ·rw [zmA (by omega)]
  unfold zbk
  rw [hq 56 (by omega),hq 57 (by omega)]
  unfold zaJ
  rw [qf (show x.Op≠58 by omega),qf (show x.Op≠59 by omega)]
  simp only [cond_false,cond_true]
  rw [zeS h.made h.map (sh1 h73) h.shS]
  rfl
 ·rw [instr_plain (by omega) (by omega)]
  unfold zO
  rw [hq 1 (by omega),hq 2 (by omega),hq 3 (by omega),hq 4 (by omega),hq 5 (by omega),hq 6 (by omega),hq 7 (by omega),hq 46 (by omega),hq 47 (by omega),hq 48 (by omega),hq 56 (by omega),hq 57 (by omega),qf (show x.Op≠58 by omega),qf (show x.Op≠59 by omega)]
  simp only [cond_false]
  have key:∀v,v=true→(zcP L c mt loc stk b v).bind (fun v=>some (v.1,v.2.1,v.2.2))=some (loc,(zZ L [84] [[73]] stk b).1,(zZ L [84] [[73]] stk b).2):=fun v hv=>by
   unfold zcP
   rw [hv,zdP h.made (sh1 h73) h.shS,zeo [78] [84]]
   rfl
  rcases ho with ho |ho
  ·rw [qt ho]
   exact key _ rfl
  ·rw [qf (show x.Op≠60 by omega),qt ho]
   exact key _ rfl
 ·have:=ziF (L:=L) [84] [[73]] stk b
  have:=h.room
  omega
theorem zvn(h:zes l L m mt loc stk b)(ho:x.Op=58):
  ∃p r,zg L m c mt loc stk b x=some p∧zh L c mt loc stk b x=some r∧zmV mt.Stack p r∧zln loc stk b p:=by
 have hq:=znd (x:=x) (by omega)
 have ht:([84,104,114,111,119,110]:Tx).length≤25:=by decide
 obtain ⟨k1,k2⟩:=zdh (b:=b) h.shS (e:=[78]) (by decide)
 refine ⟨(loc,(zZ L [84] [[84,104,114,111,119,110]] stk b).1,(zZ L [84] [[84,104,114,111,119,110]] stk b).2),(loc,(zZ L [84] [[84,104,114,111,119,110]] stk b).1,(zZ L [84] [[84,104,114,111,119,110]] stk b).2),?_,?_,zeB fun _=>?_,zeu (za3 _ _ _) h.shL h.shS (zcZ _ _ _ _ _)⟩
 ·rw [zmA (by omega)]
  unfold zbk
  rw [hq 56 (by omega),hq 57 (by omega)]
  unfold zaJ
  rw [qt ho]
  simp only [cond_false,cond_true]
  rw [zeS h.made h.map (sh1 ht) h.shS]
  rfl
 ·rw [instr_plain (by omega) (by omega)]
  unfold zO
  rw [hq 1 (by omega),hq 2 (by omega),hq 3 (by omega),hq 4 (by omega),hq 5 (by omega),hq 6 (by omega),hq 7 (by omega),hq 46 (by omega),hq 47 (by omega),hq 48 (by omega),hq 56 (by omega),hq 57 (by omega),qt ho]
  simp only [cond_false,cond_true]
  rw [zii h.shS.len]
  simp only [Option.bind_some]
  rw [zgr h.made k1 ht,zeo [84] [78]]
  rfl
 ·have:=ziF (L:=L) [84] [[84,104,114,111,119,110]] stk b
  have:=h.room
  omega
theorem zsV(h:46≤x.Op∧x.Op≤48):zg L m c mt loc stk b x=(zc8 L m c mt loc stk b x.Op).bind fun v=>some (loc,v.1,v.2):=by
 unfold zg
 rw [bf (by omega),qf (show x.Op≠13 by omega),bf (by omega),qf (show x.Op≠20 by omega),bf (by omega),bf (by omega),bf (by omega),bf (by omega),qf (show x.Op≠37 by omega),bf (by omega),bf (by omega),bt h]
 rfl
theorem zza(h:zes l L m mt loc stk b)(ho:x.Op=46∨x.Op=47):
  ∃p r,zg L m c mt loc stk b x=some p∧zh L c mt loc stk b x=some r∧zmV mt.Stack p r∧zln loc stk b p:=by
 have h73:([73]:Tx).length≤25:=by decide
 have hq:∀k:Int,k<46→(x.Op == k)=false:=fun k hk=>qf (by omega)
 rcases ho with ho |ho
 ·refine ⟨(loc,stk,b||!(mt.Ret == [86])),(loc,stk,b||!(mt.Ret == [86])),?_,?_,zeB fun _=>h.room,zeu (fun e=>by rw [e];rfl) h.shL h.shS (List.prefix_refl _)⟩
  ·rw [zsV (by omega)]
   unfold zc8
   rw [qt ho]
   rfl
  ·rw [instr_plain (by omega) (by omega)]
   unfold zO
   rw [hq 1 (by omega),hq 2 (by omega),hq 3 (by omega),hq 4 (by omega),hq 5 (by omega),hq 6 (by omega),hq 7 (by omega),qt ho]
   rfl
 ·refine ⟨(loc,(zZ L [84] [[73]] stk (b||!(mt.Ret == [73]))).1,(zZ L [84] [[73]] stk (b||!(mt.Ret == [73]))).2),(loc,(zZ L [84] [[73]] stk b).1,(zZ L [84] [[73]] stk b).2||!(mt.Ret == [73])),?_,?_,?_,zeu (fun e=>za3 _ _ _ (by rw [e];rfl)) h.shL h.shS (zcZ _ _ _ _ _)⟩
  ·rw [zsV (by omega)]
   unfold zc8
   rw [qf (show x.Op≠46 by omega),qt ho]
   simp only [cond_false,cond_true]
   rw [zeS h.made h.map (sh1 h73) h.shS]
   rfl
  ·rw [instr_plain (by omega) (by omega)]
   unfold zO
   rw [hq 1 (by omega),hq 2 (by omega),hq 3 (by omega),hq 4 (by omega),hq 5 (by omega),hq 6 (by omega),hq 7 (by omega),qf (show x.Op≠46 by omega),qt ho]
   simp only [cond_false,cond_true]
   rw [zdP h.made (sh1 h73) h.shS,zeo [78] [84]]
   rfl
  ·have hl:=ziF (L:=L) [84] [[73]] stk b
   have hr:=h.room
   cases mt.Ret == [73] with
   |true =>
    rw [show (b||!true)=b by simp]
    rw [show ((zZ L [84] [[73]] stk b).2||!true)=(zZ L [84] [[73]] stk b).2 by simp]
    exact zeB fun _=>by omega
   |false=>exact zfd (za3 _ _ _ (by simp)) (by simp)
end
section
variable {l L : List za} {m : List (Tx × Int)} {c : Tx} {mt : zb} {loc stk : List Tx} {b : Bool} {x : zw}
theorem zxu(h:zes l L m mt loc stk b)(ho:x.Op=3)(hA:0≤x.A):
  ∃p r,zg L m c mt loc stk b x=some p∧zh L c mt loc stk b x=some r∧zmV mt.Stack p r∧zln loc stk b p:=by
 have P0:zg L m c mt loc stk b x=(cond (decide (((List.length loc):Int)≤x.A)) (zba L m c mt loc stk b x true) ((idx loc x.A).bind fun v11=>zba L m c mt loc stk b x (v11 == [84]))).bind fun v=>some (v.1,v.2.1,v.2.2):=by
  rw [zjF (by omega)]
  unfold zaH
  rw [qf (show x.Op≠1 by omega),qf (show x.Op≠2 by omega),qt ho]
  rfl
 have R0:zh L c mt loc stk b x=(cond (decide (x.A<(List.length loc:Int))) ((idx loc (if (IntKind.i64.wrap ((List.length loc:Int)-1))<x.A then (IntKind.i64.wrap ((List.length loc:Int)-1)) else x.A)).bind fun v10=>zbj L c mt loc stk x (b||(!(!(v10 == [84]))))) (zbj L c mt loc stk x (b||(!false)))).bind fun v=>some (v.1,v.2.1,v.2.2):=by
  rw [instr_plain (by omega) (by omega)]
  unfold zO
  rw [qf (show x.Op≠1 by omega),qf (show x.Op≠2 by omega),qt ho]
  rfl
 rw [P0,R0]
 by_cases hlt:x.A<(loc.length:Int)
 ·obtain ⟨k,hk⟩:∃k:Nat,x.A=(k:Int):=⟨x.A.toNat,by omega⟩
  have hkl:k<loc.length:=by omega
  have hw:IntKind.i64.wrap ((loc.length:Int)-1)=(loc.length:Int)-1:=zjY (by omega) (by have:=h.shL.1;omega)
  have hi:idx loc x.A=some loc[k]:=by rw [hk,zB,List.getElem?_eq_getElem hkl]
  rw [hw,if_neg (by omega),decide_eq_false (by omega),decide_eq_true hlt,hi]
  simp only [cond_false,cond_true,Option.bind_some]
  unfold zba zbj
  rw [hi]
  simp only [Option.bind_some]
  cases ht:loc[k] == [84] with
  |true =>
   refine ⟨_,_,rfl,?_,zfd (r:=(loc,stk,true)) rfl rfl,zeu (fun _=>rfl) h.shL h.shS (List.prefix_refl _)⟩
   simp
  |false =>
   rw [zem h.shS.len]
   cases b with
   |true=>exact ⟨_,_,rfl,rfl,zfd rfl rfl,zdO id h.shL h.shS (List.prefix_refl _) (h.shL.2 _ (List.getElem_mem hkl)) fun e=>by cases e⟩
   |false =>
    simp only [Bool.not_false,Bool.not_true,Bool.or_false,cond_true]
    rw [zen h.shS.len]
    exact ⟨_,_,rfl,rfl,zed _,zdO id h.shL h.shS (List.prefix_refl _) (h.shL.2 _ (List.getElem_mem hkl)) fun _=>.inr ⟨h.shL.2 _ (List.getElem_mem hkl),(h.onL _ (List.getElem_mem hkl)).resolve_left fun e=>by rw [e] at ht;cases ht⟩⟩
 ·rw [decide_eq_true (by omega),decide_eq_false hlt]
  simp only [cond_false,cond_true]
  unfold zba zbj
  refine ⟨_,_,rfl,?_,zfd (r:=(loc,stk,true)) rfl rfl,zeu (fun _=>rfl) h.shL h.shS (List.prefix_refl _)⟩
  simp
theorem zvm(h:zes l L m mt loc stk b)(ho:x.Op=4)(hA:0≤x.A):
  ∃p r,zg L m c mt loc stk b x=some p∧zh L c mt loc stk b x=some r∧zmV mt.Stack p r∧zln loc stk b p:=by
 have P0:zg L m c mt loc stk b x=((z7 L m c mt loc stk b).bind fun v15=>cond (decide (((List.length loc):Int)≤x.A)) (some (loc,v15.2.1,true)) ((zmm loc).bind fun v16=>(idx v16 x.A).bind fun v17=>some ((List.set v16 (Int.toNat x.A) v15.1),v15.2.1,v15.2.2))).bind fun v=>some (v.1,v.2.1,v.2.2):=by
  rw [zjF (by omega)]
  unfold zaH
  rw [qf (show x.Op≠1 by omega),qf (show x.Op≠2 by omega),qf (show x.Op≠3 by omega),qt ho]
  rfl
 have R0:zh L c mt loc stk b x=((zad L c mt loc stk b).bind fun v14=>cond (!(v14.2.2||(!(decide (x.A<(List.length loc:Int)))))) ((zdK (zgv.mk loc v14.2.1)).bind fun v15=>(idx v15.1 x.A).bind fun v16=>some ((List.set v15.1 (Int.toNat x.A) v14.1),v15.2,(v14.2.2||(!(decide (x.A<(List.length loc:Int))))))) (some (loc,v14.2.1,(v14.2.2||(!(decide (x.A<(List.length loc:Int)))))))).bind fun v=>some (v.1,v.2.1,v.2.2):=by
  rw [instr_plain (by omega) (by omega)]
  unfold zO
  rw [qf (show x.Op≠1 by omega),qf (show x.Op≠2 by omega),qf (show x.Op≠3 by omega),qt ho]
  rfl
 obtain ⟨g1,g2⟩:=zdh (b:=b) h.shS (e:=[84]) (by decide)
 obtain ⟨k1,k2⟩:=zdh (b:=b) h.shS (e:=[78]) (by decide)
 rw [P0,R0,zlE h.shS.len,zii h.shS.len]
 simp only [Option.bind_some]
 by_cases hlt:x.A<(loc.length:Int)
 ·obtain ⟨k,hk⟩:∃k:Nat,x.A=(k:Int):=⟨x.A.toNat,by omega⟩
  have hkl:k<loc.length:=by omega
  have hi:idx loc x.A=some loc[k]:=by rw [hk,zB,List.getElem?_eq_getElem hkl]
  rw [decide_eq_false (by omega),decide_eq_true hlt,zp7 h.shL.len,zv3 h.shL.len k2.len]
  simp only [cond_false,Option.bind_some,Bool.not_true,Bool.or_false]
  rw [hi]
  have e2:=zi3 [84] [78] stk b
  cases hb:(zbe [78] stk b).2.2 with
  |true=>exact ⟨_,_,rfl,rfl,zfd (by show (zbe [84] stk b).2.2=true;rw [e2];exact hb) rfl,zpK zf2 h.shL h.shS (zf3 _ _ _) g1 zkz⟩
  |false =>
   have e1:=zey [78] [84] stk b hb
   refine ⟨_,_,rfl,rfl,?_,zpK zf2 h.shL h.shS (zf3 _ _ _) g1 zkz⟩
   rw [e1,e2,hb]
   refine zeB fun _=>?_
   have:=zoR [78] stk b
   have:=h.room
   omega
 ·rw [decide_eq_true (by omega),decide_eq_false hlt]
  simp only [cond_true,Bool.not_false,Bool.or_true,Bool.not_true,cond_false]
  exact ⟨_,_,rfl,rfl,zfd rfl rfl,zeu (fun _=>rfl) h.shL h.shS (zf3 _ _ _)⟩
theorem zqV{t:Tx}(ht:ze5 t=true):zq4 L t=thN L t:=by
 unfold zq4
 have e1:(t == [78])=false:=beq_eq_false_iff_ne.2 fun e=>by rw [e,zAG] at ht;cases ht
 have e2:(t == [84])=false:=beq_eq_false_iff_ne.2 fun e=>by rw [e,zAH] at ht;cases ht
 rw [e1,e2];rfl
theorem zxs(h:zes l L m mt loc stk b)(ho:x.Op=56∨x.Op=57)(hC:ze5 x.C=true)(hl:x.C.length≤25):
  ∃p r,zg L m c mt loc stk b x=some p∧zh L c mt loc stk b x=some r∧zmV mt.Stack p r∧zln loc stk b p:=by
 have hq:∀k:Int,k<56→(x.Op == k)=false:=fun k hk=>qf (by omega)
 obtain ⟨g1,g2⟩:=zqQ (b:=b) h.shS (e:=[84]) (by decide)
 have e2:=(zmL (b:=b) h.on).1
 have k2:ShL (zl7 stk b).2.1:=by rw [e2];exact g2
 rcases ho with ho |ho
 ·refine ⟨(loc,(zgq [84] stk b).2.1++[x.C],(zgq [84] stk b).2.2||!thN L x.C),_,?_,?_,zed _,zdO (fun e=>by rw [zlg e];rfl) h.shL h.shS (zjP _ _ _) hl fun _=>.inr (zuO hC hl)⟩
  ·rw [zmA (by omega)]
   unfold zbk
   rw [qt ho]
   unfold zaJ
   simp only [cond_true]
   rw [zpP h.shS]
   simp only [Option.bind_some]
   rw [znn h.made h.map hl,zqV hC]
   simp only [Option.bind_some]
   rw [qt ho]
   simp only [cond_true]
   rw [zem g2.len]
   rfl
  ·rw [instr_plain (by omega) (by omega)]
   unfold zO
   rw [hq 1 (by omega),hq 2 (by omega),hq 3 (by omega),hq 4 (by omega),hq 5 (by omega),hq 6 (by omega),hq 7 (by omega),hq 46 (by omega),hq 47 (by omega),hq 48 (by omega),qt ho]
   simp only [cond_false,cond_true]
   rw [zl8 h.shS]
   simp only [Option.bind_some]
   rw [zdq h.made (by omega)]
   simp only [Option.bind_some]
   rw [zen k2.len,e2]
   rfl
 ·refine ⟨(loc,(zgq [84] stk b).2.1++[[73]],(zgq [84] stk b).2.2||!thN L x.C),_,?_,?_,zed _,zdO (fun e=>by rw [zlg e];rfl) h.shL h.shS (zjP _ _ _) (by decide) fun _=>.inr zkn⟩
  ·rw [zmA (by omega)]
   unfold zbk
   rw [qf (show x.Op≠56 by omega),qt ho]
   unfold zaJ
   simp only [cond_true,cond_false]
   rw [zpP h.shS]
   simp only [Option.bind_some]
   rw [znn h.made h.map hl,zqV hC]
   simp only [Option.bind_some]
   rw [qf (show x.Op≠56 by omega)]
   simp only [cond_false]
   rw [zem g2.len]
   rfl
  ·rw [instr_plain (by omega) (by omega)]
   unfold zO
   rw [hq 1 (by omega),hq 2 (by omega),hq 3 (by omega),hq 4 (by omega),hq 5 (by omega),hq 6 (by omega),hq 7 (by omega),hq 46 (by omega),hq 47 (by omega),hq 48 (by omega),qf (show x.Op≠56 by omega),qt ho]
   simp only [cond_false,cond_true]
   rw [zl8 h.shS]
   simp only [Option.bind_some]
   rw [zdq h.made (by omega)]
   simp only [Option.bind_some]
   rw [zen k2.len,e2]
   rfl
end
section
variable {l L : List za} {m : List (Tx × Int)} {c : Tx} {mt : zb} {loc stk : List Tx} {b : Bool} {x : zw}
theorem zAm{t:Tx}(h1:(t == [73])=false)(h2:ze5 t=true):zlB L [73] t=false:=by
 have e2:(t == [84])=false:=beq_eq_false_iff_ne.2 fun e=>by rw [e,zAH] at h2;cases h2
 have e3:(([73]:Tx) == t)=false:=by rw [Bool.eq_false_iff] at h1 ⊢;intro h;exact h1 (by rw [beq_iff_eq] at h ⊢;exact h.symm)
 rw [zwd,e2]
 simp only [cond_false]
 rw [show (([73]:Tx) == [78])=false from by decide,e3]
 simp
theorem zCC:ze5 [86]=false:=by decide +kernel
theorem zxo(h:zes l L m mt loc stk b)(ho:x.Op=48)(hr:zr2 mt.Ret=true)(hl:mt.Ret.length≤25):
  ∃p r,zg L m c mt loc stk b x=some p∧zh L c mt loc stk b x=some r∧zmV mt.Stack p r∧zln loc stk b p:=by
 have hq:∀k:Int,k<48→(x.Op == k)=false:=fun k hk=>qf (by omega)
 obtain ⟨k1,k2⟩:=zdh (b:=b) h.shS (e:=[78]) (by decide)
 have P0:zg L m c mt loc stk b x=some (loc,(zZ L [84] [mt.Ret] stk (b||!zn6 mt.Ret)).1,(zZ L [84] [mt.Ret] stk (b||!zn6 mt.Ret)).2):=by
  rw [zsV (by omega)]
  unfold zc8
  rw [hq 46 (by omega),hq 47 (by omega),zjA (ztc hl)]
  simp only [cond_false,Option.bind_some]
  rw [zeS h.made h.map (sh1 hl) h.shS]
  rfl
 have R0:zh L c mt loc stk b x=some (loc,(zl7 stk b).2.1,(zl7 stk b).2.2||!(!(mt.Ret == [86])&&(!(mt.Ret == [73])&&zlB L (zl7 stk b).1 mt.Ret))):=by
  rw [instr_plain (by omega) (by omega)]
  unfold zO
  rw [hq 1 (by omega),hq 2 (by omega),hq 3 (by omega),hq 4 (by omega),hq 5 (by omega),hq 6 (by omega),hq 7 (by omega),hq 46 (by omega),hq 47 (by omega),qt ho]
  simp only [cond_false,cond_true]
  rw [zl8 h.shS]
  simp only [Option.bind_some]
  rw [zgr h.made (show (zl7 stk b).1.length≤25 from k1) hl]
  cases mt.Ret == [86] <;> cases mt.Ret == [73] <;> rfl
 refine ⟨_,_,P0,R0,?_,zeu (fun e=>za3 _ _ _ (by rw [e];rfl)) h.shL h.shS (zcZ _ _ _ _ _)⟩
 cases h1:mt.Ret == [86] with
 |true =>
  have e:mt.Ret=[86]:=by simpa using h1
  have:zn6 mt.Ret=false:=by unfold zn6;rw [e,zCC];rfl
  rw [this]
  exact zfd (za3 _ _ _ (by simp)) (by simp)
 |false =>
  cases h2:mt.Ret == [73] with
  |true =>
   have:zn6 mt.Ret=false:=by unfold zn6;rw [h2];rfl
   rw [this]
   exact zfd (za3 _ _ _ (by simp)) (by simp)
  |false =>
   have hm:ze5 mt.Ret=true:=by unfold zr2 at hr;rw [h1] at hr;simpa using hr
   have:zn6 mt.Ret=true:=by unfold zn6;rw [h2,hm];rfl
   rw [this]
   simp only [Bool.not_true,Bool.or_false,Bool.not_false,Bool.true_and]
   have key:((zl7 stk b).2.1,(zl7 stk b).2.2||!zlB L (zl7 stk b).1 mt.Ret)=zZ L [84] [mt.Ret] stk b:=by
    rw [zeo [84] [78]]
    show ((zbe [78] stk b).2.1,((zbe [78] stk b).2.2||!(!((zbe [78] stk b).1 == [73])))||!zlB L (zbe [78] stk b).1 mt.Ret)=((zbe [78] stk b).2.1,(zbe [78] stk b).2.2||!zlB L (zbe [78] stk b).1 mt.Ret)
    cases h3:(zbe [78] stk b).1 == [73] with
    |true =>
     have e:(zbe [78] stk b).1=[73]:=by simpa using h3
     rw [e,zAm h2 hm];simp
    |false=>simp
   rw [←key]
   refine zeB fun _=>?_
   have:=zoR [78] stk b
   have:=h.room
   show (((zbe [78] stk b).2.1).length:Int)≤mt.Stack
   omega
end
theorem zxO(t:Tx):t.length≤(zeT t).length+1:=by
 cases t with
 |nil=>exact Nat.zero_le _
 |cons x r=>rw [zfH];split <;> simp
theorem zp3{t:Tx}(h:zbA t=true):t.length≤8:=by
 unfold zbA znp at h
 simp only [Bool.and_eq_true,decide_eq_true_eq] at h
 have:=h.1.1.2.2
 omega
theorem zzD{t:Tx}(h:ze5 t=true):t.length≤10:=by
 have h1:=zxO t
 have h2:=zxO (zeT t)
 unfold ze5 at h
 rw [Bool.or_eq_true] at h
 rcases h with h |h
 ·have e:zeT (zeT t)=[73]:=by simpa using h
  rw [e] at h2
  simp at h2
  omega
 ·have:=zp3 h
  omega
theorem znD{t:Tx}(h:ze5 t=true):t.length≤25:=by have:=zzD h;omega
theorem zue{t:Tx}(h:zr2 t=true):t.length≤25:=by
 unfold zr2 at h
 rw [Bool.or_eq_true] at h
 rcases h with h |h
 ·have e:t=[86]:=by simpa using h
  rw [e];decide
 ·exact znD h
theorem zy0{t:Tx}(h:zl9 t=true):t.length≤25∧(t=[84]∨onS t):=by
 unfold zl9 at h
 simp only [Bool.or_eq_true,beq_iff_eq] at h
 rcases h with ((h |h) |h) |h
 ·subst h;exact ⟨zkn.1,.inr zkn.2⟩
 ·subst h;exact ⟨zyl.1,.inr zyl.2⟩
 ·subst h;exact ⟨by decide,.inl rfl⟩
 ·unfold zn6 at h
  rw [Bool.and_eq_true] at h
  exact ⟨znD h.2,.inr (.inr h.2)⟩
theorem zzw{α:Type}{bad:List α→α→Bool}:∀{l pre:List α},gB bad pre l=false→∀x∈l,∃q,bad q x=false
 | [],_,_,x,hx=>by cases hx
 |y ::r,pre,h,x,hx=>by
  unfold gB at h
  rw [Bool.or_eq_false_iff] at h
  rcases List.mem_cons.1 hx with e |e
  ·rw [e];exact ⟨pre,h.1⟩
  ·exact zzw h.2 x e
structure zvy(m:zb)(x:zU):Prop where
 locs:(x.Locals.length:Int)=m.Locals
 stks:(x.Stack.length:Int)≤m.Stack
 locT:∀t∈x.Locals,zl9 t=true
 stkT:∀t∈x.Stack,zl9 t=true∧t≠[84]
structure zk0(m:zb):Prop where
 params:∀s∈m.Params,ze5 s=true
 npar:m.Params.length≤6
 ret:zr2 m.Ret=true
 locs:zac m≤m.Locals∧m.Locals≤16
 stack:0≤m.Stack∧m.Stack≤16
 code:1≤m.Code.length∧m.Code.length≤100
 last:∃y,m.Code.getLast?=some y∧zh6 y.Op=true
 ins:∀x∈m.Code,zkw x=true
 traps:∀y∈m.Traps,y.C=[]∨zbA y.C=true
 ntraps:m.Traps.length≤6
 maps:∀x∈m.Maps,zvy m x
 nmaps:m.Maps.length≤100
theorem btw{n a b:Int}(h:zo n a b=true):a≤n∧n≤b:=by
 unfold zo at h
 simpa using h
theorem zsa{l:List Tx}(h:zho l=true):∀t∈l,zl9 t=true:=fun t ht=>by
 unfold zho at h
 rw [Bool.not_eq_true',List.any_eq_false] at h
 simpa using h t ht
theorem ztU{m:zb}(h:ze6 m=true):(∀s∈m.Params,ze5 s=true)∧m.Params.length≤6∧zr2 m.Ret=true:=by
 unfold ze6 at h
 simp only [Bool.and_eq_true,Bool.not_eq_true',Bool.or_eq_false_iff,decide_eq_false_iff_not] at h
 obtain ⟨⟨⟨⟨h1,h2⟩,h3⟩,h4⟩,h5⟩:=h
 refine ⟨fun s hs=>?_,by omega,h4⟩
 unfold zsh at h3
 rw [Bool.not_eq_true',List.any_eq_false] at h3
 simpa using h3 s hs
theorem zyE{m:zb}(h:ze6 m=true)(ha:m.Abstract=true):m.Static=false:=by
 unfold ze6 at h
 rw [ha] at h
 simp only [Bool.and_eq_true,cond_true] at h
 obtain ⟨_,h5⟩:=h
 unfold zfg at h5
 simp only [Bool.and_eq_true,Bool.not_eq_true'] at h5
 first
  |exact h5.1
  |exact h5.1.1
  |exact h5.1.1.1
  |exact h5.1.1.1.1
theorem zCD{m:zb}(h:ze6 m=true)(ha:m.Abstract=false):zk0 m:=by
 obtain ⟨p1,p2,p3⟩:=ztU h
 unfold ze6 at h
 rw [ha] at h
 simp only [Bool.and_eq_true,cond_false] at h
 obtain ⟨_,_,hl,hs,⟨hi,ht⟩,hm⟩:=h
 have hl:=btw hl
 have hs:=btw hs
 unfold instrN at hi
 simp only [Bool.and_eq_true,Bool.not_eq_true'] at hi
 obtain ⟨i1,i2,i3⟩:=hi
 have i1:=btw i1
 unfold zmR at ht
 simp only [Bool.and_eq_true,Bool.not_eq_true',decide_eq_true_eq] at ht
 obtain ⟨t1,t2⟩:=ht
 unfold zqu at hm
 simp only [Bool.and_eq_true,Bool.not_eq_true',decide_eq_true_eq] at hm
 obtain ⟨m1,m2⟩:=hm
 refine ⟨p1,p2,p3,hl,hs,by omega,?_,fun x hx=>?_,fun y hy=>?_,by omega,fun x hx=>?_,by omega⟩
 ·cases hg:m.Code.getLast? with
  |none=>rw [hg] at i2;cases i2
  |some y=>rw [hg] at i2;exact ⟨y,rfl,i2⟩
 ·have:=(List.any_eq_false.1 i3) x hx
  unfold zAA at this
  simp only [Bool.or_eq_true,Bool.not_eq_true',not_or] at this
  simpa using this.1
 ·have:=(List.any_eq_false.1 t1) y hy
  unfold zpu at this
  simp only [Bool.or_eq_true,not_or,Bool.and_eq_true,Bool.not_eq_true',not_and,beq_eq_false_iff_ne] at this
  by_cases e:y.C=[]
  ·exact .inl e
  ·right
   have:=this.2 e
   simpa using this
 ·obtain ⟨q,hq⟩:=zzw m1 x hx
  unfold zzB at hq
  simp only [Bool.or_eq_false_iff,Bool.not_eq_false',beq_iff_eq,decide_eq_false_iff_not] at hq
  obtain ⟨_,⟨h1,h2⟩,⟨h3,h4⟩,h5⟩:=hq
  refine ⟨h1,by omega,zsa h3,fun t ht=>⟨zsa h4 t ht,fun e=>?_⟩⟩
  subst e
  have:=(List.any_eq_false.1 h5) [84] ht
  simp at this
theorem zwD{l L:List za}(h:zeD l L){x:za}(hx:x∈L){f:zb}(hf:f∈x.Methods):ze6 f=true:=by
 rw [h.app] at hx
 rcases List.mem_append.1 hx with e |e
 ·have hg:giv.all (fun c=>decide (c.Methods.length=0))=true:=by decide +kernel
  have:=of_decide_eq_true (List.all_eq_true.1 hg x e)
  rw [List.eq_nil_of_length_eq_zero this] at hf;cases hf
 ·have:=h.may x e
  unfold zpN at this
  simp only [Bool.and_eq_true,Bool.not_eq_true',decide_eq_true_eq] at this
  have h2:=zsi this.2.2.1 f hf
  rw [Bool.and_eq_true] at h2
  exact h2.2
theorem zyi{l L:List za}(h:zeD l L){x:za}(hx:x∈L){f:zq}(hf:f∈x.Fields):ze5 f.Type_=true:=by
 rw [h.app] at hx
 rcases List.mem_append.1 hx with e |e
 ·have hg:giv.all (fun c=>decide (c.Fields.length=0))=true:=by decide +kernel
  have:=of_decide_eq_true (List.all_eq_true.1 hg x e)
  rw [List.eq_nil_of_length_eq_zero this] at hf;cases hf
 ·have:=h.may x e
  unfold zpN at this
  simp only [Bool.and_eq_true,Bool.not_eq_true',decide_eq_true_eq] at this
  have h2:=zsi this.2.1.2.1 f hf
  unfold zlA at h2
  simp only [Bool.and_eq_true] at h2
  exact h2.2
theorem zCz{x:zw}(h:zkw x=true):x.C.length≤10:=by
 unfold zkw at h
 simp only [Bool.and_eq_true] at h
 have:=h.1.2
 unfold zrG at this
 cases h1:zgB x.Op <;> rw [h1] at this
 ·cases h2:zzH x.Op <;> rw [h2] at this
  ·have e:x.C=[]:=by simpa using this
   rw [e];decide
  ·have:=zp3 (show zbA x.C=true from this);omega
 ·have:zn6 x.C=true:=this
  unfold zn6 at this
  rw [Bool.and_eq_true] at this
  exact zzD this.2
def ztT(mt:zb)(n:Int):Option zU:=mt.Maps.find? (fun x=>x.At == n)
def zuB(L:List za)(a b:List Tx):Bool:=((a.length:Int) == (b.length:Int))&&!(List.range a.length).any (fun i=>!zlB L ((a[i]?).getD []) ((b[i]?).getD []))
def zmq(L:List za)(mt:zb)(loc stk:List Tx)(n:Int):Bool:=match ztT mt n with |some x=>zuB L loc x.Locals&&zuB L stk x.Stack |none=>false
theorem zAB{α:Type}(p:α→Bool)(l:List α):decide (ixF p 0 l<0)=!(l.find? p).isSome:=by
 rw [←zla]
 by_cases h:ixF p 0 l<0
 ·rw [decide_eq_true h,decide_eq_false (by omega)];rfl
 ·rw [decide_eq_false h,decide_eq_true (by omega)];rfl
section
variable {l L : List za} {m : List (Tx × Int)} {c : Tx} {mt : zb} {loc stk : List Tx} {b : Bool}
theorem ztk{body:Int→Option (Sum Int (Sum Unit Bool))}{a b:List Tx}(ha:a.length≤1000)(hn:a.length=b.length)
  (hb:∀(i:Nat) x y,a[i]?=some x→b[i]?=some y→body (i:Int)=cond (!zlB L x y) (some (.inr (.inr false))) (some (.inl (IntKind.i64.wrap ((i:Int)+1)))))
  (he:body (a.length:Int)=some (.inr (.inl ()))):((zs body 0).bind fun o=>zQ o (fun _=>some true) some)=some (zuB L a b):=by
 rw [zuY (n:=a.length) (g:=fun i=>cond (!zlB L ((a[i]?).getD []) ((b[i]?).getD [])) (some false) none) (u:=()) (fun i hi=>by
  have h1:a[i]?=some a[i]:=List.getElem?_eq_getElem hi
  have h2:b[i]?=some (b[i]'(by omega)):=List.getElem?_eq_getElem (by omega)
  rw [hb i _ _ h1 h2,h1,h2,zaa (by omega)]
  simp only [Option.getD_some]
  cases zlB L a[i] (b[i]'(by omega)) <;> rfl) he,zcG]
 unfold zuB
 rw [hn,beq_self_eq_true,Bool.true_and]
 cases (List.range b.length).any (fun i=>!zlB L ((a[i]?).getD []) ((b[i]?).getD [])) <;> rfl
theorem zvK{a b:List Tx}(h:a.length≠b.length):zuB L a b=false:=by
 unfold zuB
 rw [beq_eq_false_iff_ne.2 (show (a.length:Int)≠(b.length:Int) by omega)];rfl
theorem zvE(h:zeD l L)(hm:zcD L m){a b:List Tx}(ha:ShL a)(hb2:∀t∈b,t.length≤25):zhr L m a b=some (zuB L a b):=by
 unfold zhr
 by_cases hn:a.length=b.length
 ·rw [show ((a.length:Int) == (b.length:Int))=true by rw [hn];exact beq_self_eq_true _]
  exact ztk (body:=fun z=>zeC L m a b z) ha.len hn (fun i x y hx hy=>by
   show zeC L m a b (i:Int)=_
   have:=ha.2 x (List.mem_of_getElem? hx)
   have:=hb2 y (List.mem_of_getElem? hy)
   unfold zeC
   rw [zfv hx,zB,zB,hx,hy]
   simp only [cond_true,Option.bind_some]
   rw [znW h hm (by omega) (by omega)];rfl) (by
   show zeC L m a b (a.length:Int)=_
   unfold zeC
   rw [zf1];rfl)
 ·rw [beq_eq_false_iff_ne.2 (show (a.length:Int)≠(b.length:Int) by omega),zvK hn];rfl
theorem zk0.lenM(hk:zk0 mt):zje mt.Maps:=by have:=hk.nmaps;unfold zje;omega
theorem zoI(hk:zk0 mt){n:Int}{x:zU}(h:ztT mt n=some x):zvy mt x:=hk.maps x (List.mem_of_find?_eq_some h)
theorem zvy.loc25{x:zU}(h:zvy mt x):∀t∈x.Locals,t.length≤25:=fun t ht=>(zy0 (h.locT t ht)).1
theorem zvy.stk25{x:zU}(h:zvy mt x):∀t∈x.Stack,t.length≤25:=fun t ht=>(zy0 (h.stkT t ht).1).1
theorem zsD(hk:zk0 mt){n:Int}:zcx L m c mt loc stk b n=some (ztT mt n):=by
 unfold zcx zbf
 rw [show ((zs (fun z=>za1 mt.Maps n z) 0).bind fun o=>zQ o (fun b=>zdM) some)=_ from zbx (p:=fun x:zU=>x.At == n) hk.lenM
  (fun i x hx=>by
   unfold za1 zej
   rw [zfv hx,zB,hx];rfl) (by unfold za1;rw [zf1];rfl)]
 simp only [Option.bind_some]
 rw [zAB,zm5]
 unfold ztT
 cases mt.Maps.find? (fun x=>x.At == n) <;> rfl
theorem ztM(h:zeD l L)(hm:zcD L m){x:zU}(hx:zvy mt x)(hl:ShL loc)(hs:ShL stk):zei L m x loc stk=some (zuB L loc x.Locals&&zuB L stk x.Stack):=by
 unfold zei
 rw [zvE h hm hl hx.loc25,zvE h hm hs hx.stk25]
 cases zuB L loc x.Locals <;> rfl
theorem zzy(h:zeD l L)(hm:zcD L m)(hk:zk0 mt)(hl:ShL loc)(hs:ShL stk){n:Int}:zcy L m c mt loc stk b n=some (b||!zmq L mt loc stk n):=by
 unfold zcy zmq
 rw [zsD hk]
 simp only [Option.bind_some]
 cases hf:ztT mt n with
 |none=>rfl
 |some x =>
  show (zei L m x loc stk).bind _=_
  rw [ztM h hm (zoI hk hf) hl hs];rfl
theorem zAw(h:zeD l L)(hm:zcD L m)(hk:zk0 mt)(hl:ShL loc){s:List Tx}(hs:ShL s){n:Int}:zdQ L m c mt loc stk b n s=some (b||!zmq L mt loc s n):=by
 unfold zdQ zmq
 rw [zsD hk]
 simp only [Option.bind_some]
 cases hf:ztT mt n with
 |none=>rfl
 |some x =>
  show (zei L m x loc s).bind _=_
  rw [ztM h hm (zoI hk hf) hl hs];rfl
end
section
variable {l L : List za} {m : List (Tx × Int)} {c : Tx} {mt : zb} {loc stk : List Tx} {b : Bool} {x : zw}
def zmc(L:List za)(C M:Tx):FR:=((zfW L C).findSome? (zxX L M)).getD ([],zF,false)
theorem zwf(h:zeD l L)(C M:Tx):(zmc L C M).2.1.Type_.length≤25∧((zmc L C M).2.2=true→ze5 (zmc L C M).2.1.Type_=true):=by
 unfold zmc
 cases hq:(zfW L C).findSome? (zxX L M) with
 |none=>exact ⟨Nat.zero_le _,fun e=>by cases e⟩
 |some r =>
  obtain ⟨s,hs,e⟩:=List.exists_of_findSome?_eq_some hq
  unfold zxX at e
  cases hc:cl L s with
  |none=>rw [hc] at e;cases e
  |some y =>
   rw [hc] at e
   simp only at e
   cases hf:y.Fields.find? (fun y=>y.Name == M) with
   |none=>rw [hf] at e;cases e
   |some f =>
    rw [hf] at e
    cases e
    have:=zyi h (zbU hc).1 (List.mem_of_find?_eq_some hf)
    exact ⟨znD this,fun _=>this⟩
structure zCs(r:MR):Prop where
 params:∀s∈r.2.1.Params,ze5 s=true
 npar:r.2.1.Params.length≤6
 ret25:r.2.1.Ret.length≤25
 ret:r.2.2=true→zr2 r.2.1.Ret=true
theorem zwF:zCs ([],zM,false):=⟨fun s hs=>(List.not_mem_nil (show s∈([]:List Tx) from hs)).elim,Nat.zero_le _,Nat.zero_le _,fun e=>by cases e⟩
theorem zwC{may:zb→Bool}{n s:Tx}{r:MR}(e:zqw L may n s=some r):∃y f,cl L s=some y∧f∈y.Methods∧r=(s,f,true):=by
 unfold zqw at e
 cases hc:cl L s with
 |none=>rw [hc] at e;cases e
 |some y =>
  rw [hc] at e
  simp only at e
  cases hf:y.Methods.find? (fun y=>y.Name == n) with
  |none=>rw [hf] at e;cases e
  |some f =>
   rw [hf] at e
   simp only at e
   cases hm:may f with
   |false=>rw [hm] at e;cases e
   |true =>
    rw [hm] at e
    cases e
    exact ⟨y,f,rfl,List.mem_of_find?_eq_some hf,rfl⟩
theorem zwE(h:zeD l L)(may:zb→Bool)(n:Tx)(T:List Tx):zCs ((T.findSome? (zqw L may n)).getD ([],zM,false)):=by
 cases hq:T.findSome? (zqw L may n) with
 |none=>exact zwF
 |some r =>
  obtain ⟨s,hs,e⟩:=List.exists_of_findSome?_eq_some hq
  obtain ⟨y,f,hc,hf,rfl⟩:=zwC e
  obtain ⟨p1,p2,p3⟩:=ztU (zwD h (zbU hc).1 hf)
  exact ⟨p1,p2,zue p3,fun _=>p3⟩
theorem zAN(h:zeD l L)(C n:Tx):zCs (znM L C n)∧((znM L C n).2.2=true→(znM L C n).2.1.Static=false):=by
 unfold znM
 cases hF:isF L C with
 |false=>exact ⟨zwF,fun e=>by cases e⟩
 |true =>
  refine ⟨zwE h _ _ _,?_⟩
  simp only [cond_true]
  cases hq:(C ::zeE L C).findSome? (zqw L zel n) with
  |none=>exact fun e=>by cases e
  |some r =>
   obtain ⟨s,hs,e⟩:=List.exists_of_findSome?_eq_some hq
   obtain ⟨y,f,hc,hf,rfl⟩:=zwC e
   intro _
   have hI:isF L s=true:=by
    rcases List.mem_cons.1 hs with e |e
    ·rw [e];exact hF
    ·exact (zrm.1 e).2
   have hy:y.Interface=true:=by unfold isF at hI;rw [hc] at hI;exact hI
   have ha:=zsr h (zbU hc).1 hf
   exact zyE (zwD h (zbU hc).1 hf) (ha.trans hy)
theorem zwO(ho:x.Op=20):zg L m c mt loc stk b x=some (loc,stk,b):=by
 unfold zg
 rw [bf (by omega),qf (show x.Op≠13 by omega),bf (by omega),qt ho]
 rfl
theorem zwP(h:zes l L m mt loc stk b)(ho:21≤x.Op∧x.Op≤26):zg L m c mt loc stk b x=some (loc,zZ L [84] [[73]] stk b):=by
 unfold zg
 rw [bf (by omega),qf (show x.Op≠13 by omega),bf (by omega),qf (show x.Op≠20 by omega),bt ho]
 simp only [cond_false,cond_true]
 rw [zeS h.made h.map (sh1 zkn.1) h.shS]
 rfl
theorem zwQ(h:zes l L m mt loc stk b)(ho:27≤x.Op∧x.Op≤32):zg L m c mt loc stk b x=some (loc,zZ L [84] [[73],[73]] stk b):=by
 unfold zg
 rw [bf (by omega),qf (show x.Op≠13 by omega),bf (by omega),qf (show x.Op≠20 by omega),bf (by omega),bt ho]
 simp only [cond_false,cond_true]
 rw [zeS h.made h.map (sh2 zkn.1 zkn.1) h.shS]
 rfl
theorem zwR(h:zes l L m mt loc stk b)(ho:33≤x.Op∧x.Op≤34):zg L m c mt loc stk b x=some (loc,(zgq [84] stk b).2):=by
 unfold zg
 rw [bf (by omega),qf (show x.Op≠13 by omega),bf (by omega),qf (show x.Op≠20 by omega),bf (by omega),bf (by omega),bt ho]
 simp only [cond_false,cond_true]
 rw [zpP h.shS]
 rfl
theorem zwS(h:zes l L m mt loc stk b)(ho:35≤x.Op∧x.Op≤36):zg L m c mt loc stk b x=some (loc,(zgq [84] (zgq [84] stk b).2.1 (zgq [84] stk b).2.2).2):=by
 unfold zg
 rw [bf (by omega),qf (show x.Op≠13 by omega),bf (by omega),qf (show x.Op≠20 by omega),bf (by omega),bf (by omega),bf (by omega),bt ho]
 simp only [cond_false,cond_true]
 rw [zpP h.shS]
 simp only [Option.bind_some]
 rw [zpP (zqQ h.shS (by decide)).2]
 rfl
theorem zrN(ho:37≤x.Op∧x.Op≤41):zg L m c mt loc stk b x=(zde L m c mt loc stk b x).bind fun v=>some (loc,v.1,v.2):=by
 have e:((x.Op == (37:Int))||zak x.Op 38 41)=true:=by
  by_cases h:x.Op=37
  ·rw [qt h];rfl
  ·rw [bt (show (38:Int)≤x.Op∧x.Op≤41 by omega),Bool.or_true]
 unfold zg
 rw [bf (by omega),qf (show x.Op≠13 by omega),bf (by omega),qf (show x.Op≠20 by omega),bf (by omega),bf (by omega),bf (by omega),bf (by omega),e]
 rfl
theorem zyJ(ho:42≤x.Op∧x.Op≤45):zg L m c mt loc stk b x=(zcw L m c mt loc stk b x).bind fun v=>some (loc,v.1,v.2):=by
 unfold zg
 rw [bf (by omega),qf (show x.Op≠13 by omega),bf (by omega),qf (show x.Op≠20 by omega),bf (by omega),bf (by omega),bf (by omega),bf (by omega),qf (show x.Op≠37 by omega),bf (by omega),bt ho]
 rfl
theorem zgV(ho:49≤x.Op∧x.Op≤55):zg L m c mt loc stk b x=(zal L m c mt loc stk b x).bind fun v=>some (loc,v.1,v.2):=by
 unfold zg
 rw [bf (by omega),qf (show x.Op≠13 by omega),bf (by omega),qf (show x.Op≠20 by omega),bf (by omega),bf (by omega),bf (by omega),bf (by omega),qf (show x.Op≠37 by omega),bf (by omega),bf (by omega),bf (by omega),bt ho]
 rfl
end
theorem zk1{α R:Type}{body:Bool×Int→Option (Sum (Bool×Int) (Sum Bool R))}{l:List α}{p:α→Bool}(hl:l.length≤1000000)
  (hb:∀(i:Nat) x (b:Bool),l[i]?=some x→body (b,(i:Int))=some (.inl (b||p x,IntKind.i64.wrap ((i:Int)+1))))
  (he:∀b:Bool,body (b,(l.length:Int))=some (.inr (.inl b))) (b0:Bool):zs body (b0,0)=some (.inl (b0||l.any p)):=by
 have key:∀(r pre:List α) (b:Bool),l=pre++r→zs body (b,(pre.length:Int))=some (.inl (b||r.any p)):=by
  intro r
  induction r with
  |nil =>
   intro pre b h
   have e:l=pre:=by rw [h,List.append_nil]
   subst e
   rw [zJ,he]
   simp
  |cons x r ih =>
   intro pre b h
   have hlen:l.length=pre.length+(r.length+1):=by rw [h];simp
   have hx:l[pre.length]?=some x:=by rw [h];simp
   rw [zJ,hb _ x b hx,zaa (by omega)]
   have:=ih (pre++[x]) (b||p x) (by rw [h];simp)
   rw [show (pre++[x]).length=pre.length+1 by simp] at this
   simp only [Option.bind_some,Sum.elim_inl]
   rw [this,List.any_cons,Bool.or_assoc]
 exact key l [] b0 rfl
def zfI(L:List za)(mt:zb)(loc stk:List Tx)(n:Int)(g:Bool):List Tx×List Tx×Bool:=
 match ztT mt n with |none=>(loc,stk,!g) |some x=>(x.Locals,x.Stack,g&&!zmq L mt loc stk n)
def zo6:Tx:=[84,104,114,111,119,110]
def zpt(t:zan):Tx:=cond (t.C == []) zo6 t.C
def zo9(L:List za)(mt:zb)(loc:List Tx)(n:Int)(t:zan):Bool:=
 !ztd L (zpt t) zo6||((decide (t.From≤n)&&decide (n<t.To))&&!zmq L mt loc [zpt t] t.At)
section
variable {l L : List za} {m : List (Tx × Int)} {c : Tx} {mt : zb} {loc stk : List Tx} {b : Bool}
theorem zvy.shl{x:zU}(hk:zk0 mt)(h:zvy mt x):ShL x.Locals:=⟨by have:=h.locs;have:=hk.locs.2;omega,h.loc25⟩
theorem zvy.shs{x:zU}(hk:zk0 mt)(h:zvy mt x):ShL x.Stack:=⟨by have:=h.stks;have:=hk.stack.2;omega,h.stk25⟩
theorem zwb(h:zeD l L)(hm:zcD L m)(hk:zk0 mt)(hl:ShL loc)(hs:ShL stk){n:Int}{g:Bool}:
  zer L m c mt loc stk b n g=some ((zfI L mt loc stk n g).1,(zfI L mt loc stk n g).2.1,b||(zfI L mt loc stk n g).2.2):=by
 unfold zer zfI
 rw [zsD hk]
 simp only [Option.bind_some]
 cases hf:ztT mt n with
 |none=>rfl
 |some x =>
  have hx:=zoI hk hf
  simp only [Option.isNone_some,cond_false]
  have key:∀v:Bool,za2 (some x) v=some (x.Locals,x.Stack,v):=fun v=>by
   unfold za2
   show (zmm x.Locals).bind _=_
   rw [zp7 (hx.shl hk).len]
   simp only [Option.bind_some]
   rw [zp7 (hx.shs hk).len]
   rfl
  rw [zzy h hm hk hl hs]
  cases g with
  |true=>simp only [cond_true,Option.bind_some];rw [key];rfl
  |false=>simp only [cond_false];rw [key];simp
theorem zes.to{b':Bool}(h:zes l L m mt loc stk b):zes l L m mt loc stk b':=⟨h.made,h.map,h.lens,h.shL,h.shS,h.on,h.room,h.onL⟩
theorem zsz(h:zes l L m mt loc stk b)(hk:zk0 mt){n:Int}{g b':Bool}:zes l L m mt (zfI L mt loc stk n g).1 (zfI L mt loc stk n g).2.1 b':=by
 unfold zfI
 cases hf:ztT mt n with
 |none=>exact h.to
 |some x =>
  have hx:=zoI hk hf
  exact ⟨h.made,h.map,h.lens,hx.shl hk,hx.shs hk,fun t ht=>((zy0 (hx.stkT t ht).1).2).resolve_left (hx.stkT t ht).2,hx.stks,fun t ht=>(zy0 (hx.locT t ht)).2⟩
theorem zus(hk:zk0 mt){t:zan}(ht:t∈mt.Traps):(zpt t).length≤25:=by
 unfold zpt
 rcases hk.traps t ht with e |e
 ·rw [e];decide
 ·cases t.C == []
  ·have:=zp3 e;show t.C.length≤25;omega
  ·show zo6.length≤25;decide
theorem zA3(h:zeD l L)(hm:zcD L m)(hk:zk0 mt)(hl:ShL loc){n:Int}:zdf L m c mt loc stk b n=some (b||mt.Traps.any (zo9 L mt loc n)):=by
 unfold zdf
 rw [zk1 (body:=fun z=>zbq L m c mt loc stk n z.1 z.2) (l:=mt.Traps) (p:=zo9 L mt loc n) (by have:=hk.ntraps;omega) (fun i t b hi=>by
  have ht:=List.mem_of_getElem? hi
  have hc:=zus hk ht
  have key:∀v:Tx,v=zpt t→zb4 L m c mt loc stk n b (i:Int) t v=some (.inl (b||zo9 L mt loc n t,IntKind.i64.wrap ((i:Int)+1))):=fun v hv=>by
   unfold zb4 zdk
   rw [hv,znm h hm hc (by show _≤_;decide)]
   simp only [Option.bind_some]
   rw [zAw h hm hk hl (sh1 hc)]
   unfold zo9 zo6
   simp only [Option.bind_some]
   cases decide (t.From≤n)&&decide (n<t.To) <;> cases b <;> simp
  show zbq L m c mt loc stk n b (i:Int)=_
  unfold zbq
  rw [zfv hi,zB,hi]
  simp only [cond_true,Option.bind_some]
  cases he:t.C == [] with
  |true=>exact key _ (by unfold zpt;rw [he];rfl)
  |false=>exact key _ (by unfold zpt;rw [he];rfl)) (fun b=>by
  show zbq L m c mt loc stk n b (mt.Traps.length:Int)=_
  unfold zbq
  rw [zf1];rfl)]
 rfl
end
theorem ztH{α β:Type}(p:α→Bool)(g:α→β):∀l:List α,l.findSome? (fun x=>cond (p x) (some (g x)) none)=(l.find? p).map g
 | []=>rfl
 |x ::l=>by
  rw [List.findSome?_cons,List.find?_cons]
  cases p x with
  |true=>rfl
  |false=>exact ztH p g l
section
variable {l L : List za} {m : List (Tx × Int)} {c : Tx} {mt : zb} {loc stk : List Tx} {b : Bool} {x : zw}
def zBH(mt:zb)(n:Int):zU×Bool:=match ztT mt n with |some x=>(x,true) |none=>(zU.mk 0 [] [],false)
theorem zqs(hk:zk0 mt){n:Int}:zc6 L c mt loc stk b n=some (zBH mt n):=by
 have hl:=hk.nmaps
 unfold zc6
 rw [show zs (fun z=>zbL mt n z) 0=some (zop () (mt.Maps.findSome? (fun x=>cond (x.At == n) (some (x,true)) none))) from zex (fun i x hx=>by
  have hi:=(List.getElem?_eq_some_iff.1 hx).1
  show zbL mt n (i:Int)=_
  unfold zbL
  rw [zfv hx,zB,hx,zaa (by omega)]
  simp only [cond_true,Option.bind_some]
  cases x.At == n <;> rfl) (by
  show zbL mt n (mt.Maps.length:Int)=_
  unfold zbL
  rw [zf1];rfl),ztH (fun x:zU=>x.At == n)]
 unfold zBH ztT
 cases mt.Maps.find? (fun x=>x.At == n) <;> rfl
theorem zx7(h:zeD l L){a b:List Tx}(ha:ShL a)(hb2:∀t∈b,t.length≤25):zcb L a b=some (zuB L a b):=by
 unfold zcb
 by_cases hn:a.length=b.length
 ·rw [show ((a.length:Int) == (b.length:Int))=true by rw [hn];exact beq_self_eq_true _]
  exact ztk (body:=fun z=>zco L a b z) ha.len hn (fun i x y hx hy=>by
   show zco L a b (i:Int)=_
   have:=ha.2 x (List.mem_of_getElem? hx)
   have:=hb2 y (List.mem_of_getElem? hy)
   unfold zco
   rw [zfv hx,zB,zB,hx,hy]
   simp only [cond_true,Option.bind_some]
   rw [zgr h (by omega) (by omega)];rfl) (by
   show zco L a b (a.length:Int)=_
   unfold zco
   rw [zf1];rfl)
 ·rw [beq_eq_false_iff_ne.2 (show (a.length:Int)≠(b.length:Int) by omega),zvK hn];rfl
theorem zwn(h:zeD l L)(hk:zk0 mt){p q:List Tx}(hp:ShL p)(hq:ShL q){n:Int}:zdF L c mt loc stk b n p q=some (b||!zmq L mt p q n):=by
 unfold zdF zmq
 rw [zqs hk]
 unfold zBH
 cases hf:ztT mt n with
 |none=>rfl
 |some x =>
  have hx:=zoI hk hf
  simp only [Option.bind_some,cond_true]
  rw [zx7 h hp hx.loc25,zx7 h hq hx.stk25]
  cases zuB L p x.Locals <;> rfl
theorem zAx(h:zeD l L)(hk:zk0 mt){p q:List Tx}(hp:ShL p)(hq:ShL q){n:Int}:zeq L c mt loc stk b n p q=some (b||!zmq L mt p q n):=by
 unfold zeq zmq
 rw [zqs hk]
 unfold zBH
 cases hf:ztT mt n with
 |none=>rfl
 |some x =>
  have hx:=zoI hk hf
  simp only [Option.bind_some,cond_true]
  rw [zx7 h hp hx.loc25,zx7 h hq hx.stk25]
  cases zuB L p x.Locals <;> rfl
theorem zA4(h:zeD l L)(hk:zk0 mt)(hl:ShL loc){n:Int}:zbX L c mt loc stk b n=some (b||mt.Traps.any (zo9 L mt loc n)):=by
 unfold zbX
 rw [zk1 (body:=fun z=>zbM L c mt loc stk n z.1 z.2) (l:=mt.Traps) (p:=zo9 L mt loc n) (by have:=hk.ntraps;omega) (fun i t b hi=>by
  have ht:=List.mem_of_getElem? hi
  have hc:=zus hk ht
  have key:∀v:Tx,v=zpt t→zcQ L c mt loc stk n b (i:Int) t v=some (.inl (b||zo9 L mt loc n t,IntKind.i64.wrap ((i:Int)+1))):=fun v hv=>by
   unfold zcQ zec
   rw [hv,zpQ h hc (by decide)]
   simp only [Option.bind_some]
   rw [zAx h hk hl (sh1 hc)]
   unfold zo9 zo6
   simp only [Option.bind_some]
   cases decide (t.From≤n)&&decide (n<t.To) <;> cases b <;> simp
  show zbM L c mt loc stk n b (i:Int)=_
  unfold zbM
  rw [zfv hi,zB,hi]
  simp only [cond_true,Option.bind_some]
  cases he:t.C == [] with
  |true=>exact key _ (by unfold zpt;rw [he];rfl)
  |false=>exact key _ (by unfold zpt;rw [he];rfl)) (fun b=>by
  show zbM L c mt loc stk n b (mt.Traps.length:Int)=_
  unfold zbM
  rw [zf1];rfl)]
 rfl
theorem zmt{s:List Tx}{e:Bool}(h:zes l L m mt loc stk b)(hk:zk0 mt)(hp:zg L m c mt loc stk b x=some (loc,s,e))
  (hr:zh L c mt loc stk b x=(za5 L c mt loc x s e).bind fun v=>some (loc,v.1,v.2)) (hs:s<+:stk) (he:b=true→e=true):
  ∃p r,zg L m c mt loc stk b x=some p∧zh L c mt loc stk b x=some r∧zmV mt.Stack (p.1,p.2.1,p.2.2||!zmq L mt p.1 p.2.1 x.A) r∧zln loc stk b p:=by
 have hl:=hs.length_le
 have hS:ShL s:=⟨by have:=h.shS.1;omega,fun t ht=>h.shS.2 t (hs.subset ht)⟩
 refine ⟨(loc,s,e),(loc,s,e||!zmq L mt loc s x.A),hp,?_,zeB fun _=>by have:=h.room;show (s.length:Int)≤mt.Stack;omega,zeu he h.shL h.shS hs⟩
 rw [hr]
 unfold za5
 rw [zwn h.made hk h.shL hS];rfl
theorem instr_test(ho:21≤x.Op∧x.Op≤36):zh L c mt loc stk b x=(zcv L c mt loc stk b x).bind fun v=>some (loc,v.1,v.2):=by
 unfold zh
 rw [cf (by omega),ct ho]
 rfl
theorem zxt(h:zes l L m mt loc stk b)(hk:zk0 mt)(ho:20≤x.Op∧x.Op≤36):
  ∃p r,zg L m c mt loc stk b x=some p∧zh L c mt loc stk b x=some r∧zmV mt.Stack (p.1,p.2.1,p.2.2||!zmq L mt p.1 p.2.1 x.A) r∧zln loc stk b p:=by
 by_cases h0:x.Op=20
 ·refine zmt (s:=stk) (e:=b) h hk (zwO h0) ?_ (List.prefix_refl _) id
  unfold zh za5
  rw [cf (by omega),cf (by omega),qt h0]
  simp only [cond_false,cond_true]
  rw [zwn h.made hk h.shL h.shS]
  rfl
 by_cases h1:x.Op≤26
 ·refine zmt (s:=(zZ L [84] [[73]] stk b).1) (e:=(zZ L [84] [[73]] stk b).2) h hk (zwP h ⟨by omega,h1⟩) ?_ (zcZ _ _ _ _ _) (za3 _ _ _)
  rw [instr_test ⟨by omega,ho.2⟩]
  unfold zcv
  rw [decide_eq_true h1]
  simp only [cond_true]
  rw [zdP h.made (sh1 zkn.1) h.shS,zeo [78] [84]]
  rfl
 by_cases h2:x.Op≤32
 ·refine zmt (s:=(zZ L [84] [[73],[73]] stk b).1) (e:=(zZ L [84] [[73],[73]] stk b).2) h hk (zwQ h ⟨by omega,h2⟩) ?_ (zcZ _ _ _ _ _) (za3 _ _ _)
  rw [instr_test ⟨by omega,ho.2⟩]
  unfold zcv
  rw [decide_eq_false h1,decide_eq_true h2]
  simp only [cond_true,cond_false]
  rw [zdP h.made (sh2 zkn.1 zkn.1) h.shS,zeo [78] [84]]
  rfl
 have e2:=(zmL (b:=b) h.on).1
 by_cases h3:x.Op≤34
 ·refine zmt (s:=(zgq [84] stk b).2.1) (e:=(zgq [84] stk b).2.2) h hk (zwR h ⟨by omega,h3⟩) ?_ (zjP _ _ _) zlg
  rw [instr_test ⟨by omega,ho.2⟩]
  unfold zcv
  rw [decide_eq_false h1,decide_eq_false h2,decide_eq_true h3]
  simp only [cond_true,cond_false]
  rw [zl8 h.shS]
  simp only [Option.bind_some]
  rw [e2]
 ·refine zmt (s:=(zgq [84] (zgq [84] stk b).2.1 (zgq [84] stk b).2.2).2.1) (e:=(zgq [84] (zgq [84] stk b).2.1 (zgq [84] stk b).2.2).2.2) h hk (zwS h ⟨by omega,ho.2⟩) ?_ ((zjP _ _ _).trans (zjP _ _ _)) (fun e=>zlg (zlg e))
  rw [instr_test ⟨by omega,ho.2⟩]
  unfold zcv
  rw [decide_eq_false h1,decide_eq_false h2,decide_eq_false h3]
  simp only [cond_false]
  rw [zl8 h.shS]
  simp only [Option.bind_some]
  rw [e2,zl8 (zqQ h.shS (by decide)).2]
  simp only [Option.bind_some]
  rw [(zmL fun t ht=>h.on t ((zjP _ _ _).subset ht)).1]
end
section
variable {l L : List za} {m : List (Tx × Int)} {c : Tx} {mt : zb} {loc stk : List Tx} {b : Bool} {x : zw}
theorem instr_field(ho:37≤x.Op∧x.Op≤41):zh L c mt loc stk b x=(zbW L c mt loc stk b x).bind fun v=>some (loc,v.1,v.2):=by
 unfold zh
 rw [cf (by omega),cf (by omega),qf (show x.Op≠20 by omega),ct ho]
 rfl
def zzE(L:List za)(C:Tx):Bool:=match cl L C with |some y=>!y.Interface |none=>false
theorem zy7(h:zes l L m mt loc stk b)(ho:x.Op=37)(hC:x.C.length≤25):
  ∃p r,zg L m c mt loc stk b x=some p∧zh L c mt loc stk b x=some r∧zmV mt.Stack p r∧zln loc stk b p:=by
 have h26:=h.made.len
 have hP:zg L m c mt loc stk b x=some (loc,stk++[x.C],b||!zzE L x.C):=by
  rw [zrN (by omega)]
  unfold zde zzE
  rw [qt ho]
  simp only [cond_true]
  rw [ziQ h.map]
  simp only [Option.bind_some]
  rw [zem h.shS.len]
  cases cl L x.C <;> rfl
 have hK:zln loc stk b (loc,stk++[x.C],b||!zzE L x.C):=zdO (fun e=>by rw [e];rfl) h.shL h.shS (List.prefix_refl _) hC fun hb=>.inr (by
  simp only [Bool.or_eq_false_iff,Bool.not_eq_false'] at hb
  have hn:=hb.2
  unfold zzE at hn
  cases hc:cl L x.C with
  |none=>rw [hc] at hn;cases hn
  |some y=>exact zuO (zmZ (zi2 h.made (zgf hc))) hC)
 cases hc:cl L x.C with
 |none =>
  have e:zzE L x.C=false:=by unfold zzE;rw [hc]
  refine ⟨_,(loc,stk,true),hP,?_,zfd (by rw [e];simp) rfl,hK⟩
  rw [instr_field (by omega)]
  unfold zbW
  rw [ziO (by omega)]
  simp only [Option.bind_some]
  rw [znu,zlQ hc]
  rfl
 |some y =>
  have e:zzE L x.C=!y.Interface:=by unfold zzE;rw [hc]
  refine ⟨_,_,hP,?_,zed _,hK⟩
  ·rw [instr_field (by omega)]
   unfold zbW
   rw [ziO (by omega)]
   simp only [Option.bind_some]
   rw [znu,zgf hc,qt ho]
   simp only [Bool.not_true,cond_false,cond_true]
   rw [zms,hc]
   simp only [Option.bind_some]
   rw [zen h.shS.len,←e]
   rfl
theorem zoA{b0:Bool}{ts:List Tx}(hb:b0=true→b=true)(hl:ShL loc)(hs:ShL stk):zln loc stk b0 (loc,zZ L [84] ts stk b):=
 zeu (s:=(zZ L [84] ts stk b).1) (b:=(zZ L [84] ts stk b).2) (fun e=>za3 _ _ _ (hb e)) hl hs (zcZ _ _ _ _ _)
def zpG(L:List za)(b:Bool)(x:zw):Bool:=b||!((zmc L x.C x.M).2.2&&((zmc L x.C x.M).2.1.Static == ((x.Op == (40:Int))||(x.Op == (41:Int)))))
def ztI(L:List za)(stk:List Tx)(b:Bool)(x:zw):List Tx×Bool:=
 cond (x.Op == 38) ((zZ L [84] [x.C] stk (zpG L b x)).1++[(zmc L x.C x.M).2.1.Type_],(zZ L [84] [x.C] stk (zpG L b x)).2)
  (cond (x.Op == 39) (zZ L [84] [(zmc L x.C x.M).2.1.Type_,x.C] stk (zpG L b x))
   (cond (x.Op == 40) (stk++[(zmc L x.C x.M).2.1.Type_],zpG L b x) (zZ L [84] [(zmc L x.C x.M).2.1.Type_] stk (zpG L b x))))
theorem zoN(h:zes l L m mt loc stk b)(ho:38≤x.Op∧x.Op≤41)(hC:x.C.length≤25):zg L m c mt loc stk b x=some (loc,ztI L stk b x):=by
 have hT:=(zwf h.made x.C x.M).1
 rw [zrN (by omega)]
 unfold zde ztI
 rw [qf (show x.Op≠37 by omega),zyh h.made h.map h.lens]
 simp only [cond_false,Option.bind_some]
 rw [show (((zfW L x.C).findSome? (zxX L x.M)).getD ([],zF,false))=zmc L x.C x.M from rfl]
 rw [show (b||!((zmc L x.C x.M).2.2&&((zmc L x.C x.M).2.1.Static == ((x.Op == (40:Int))||(x.Op == (41:Int))))))=zpG L b x from rfl]
 rw [zeS h.made h.map (sh1 hC) h.shS,zeS h.made h.map (sh2 hC hT) h.shS,zeS h.made h.map (sh1 hT) h.shS,zem h.shS.len]
 simp only [Option.bind_some,List.reverse_singleton]
 rw [zem (zdj (by decide) _ _ _ h.shS).len]
 cases x.Op == 38 <;> cases x.Op == 39 <;> cases x.Op == 40 <;> rfl
theorem zym(hb:zpG L b x=true):(ztI L stk b x).2=true:=by
 unfold ztI
 cases x.Op == 38 <;> cases x.Op == 39 <;> cases x.Op == 40 <;> first |exact za3 _ _ _ hb |exact hb
theorem zko(h:zes l L m mt loc stk b)(hC:x.C.length≤25):zln loc stk b (loc,ztI L stk b x):=by
 obtain ⟨hT,hM⟩:=zwf h.made x.C x.M
 have hb0:b=true→zpG L b x=true:=fun e=>by unfold zpG;rw [e];rfl
 have hF:zpG L b x=false→zx0 (zmc L x.C x.M).2.1.Type_:=fun e=>by
  unfold zpG at e
  simp only [Bool.or_eq_false_iff,Bool.not_eq_false',Bool.and_eq_true] at e
  exact zuO (hM e.2.1) hT
 have ht:∀{ts:List Tx},(zZ L [84] ts stk (zpG L b x)).2=false→zpG L b x=false:=fun {ts} e=>by
  cases hq:zpG L b x with
  |false=>rfl
  |true=>rw [za3 _ _ _ hq] at e;cases e
 unfold ztI
 cases x.Op == 38 with
 |true=>exact zdO (fun e=>za3 _ _ _ (hb0 e)) h.shL h.shS (zcZ _ _ _ _ _) hT fun e=>.inr (hF (ht e))
 |false =>
  cases x.Op == 39 with
  |true=>exact zoA hb0 h.shL h.shS
  |false =>
   cases x.Op == 40 with
   |true=>exact zdO hb0 h.shL h.shS (List.prefix_refl _) hT fun e=>.inr (hF e)
   |false=>exact zoA hb0 h.shL h.shS
theorem zvl(h:zes l L m mt loc stk b)(ho:38≤x.Op∧x.Op≤41)(hC:x.C.length≤25):
  ∃p r,zg L m c mt loc stk b x=some p∧zh L c mt loc stk b x=some r∧zmV mt.Stack p r∧zln loc stk b p:=by
 have h26:=h.made.len
 have hT:=(zwf h.made x.C x.M).1
 have hD:zbW L c mt loc stk b x=cond (!zb7 L x.C) (some (stk,true)) (cond (zpG L b x) (some (stk,zpG L b x))
   (cond ((x.Op == (39:Int))||(x.Op == (41:Int))) ((zR L c mt loc stk (zpG L b x) [(zmc L x.C x.M).2.1.Type_]).bind fun v12=>zaB L c mt loc x (zmc L x.C x.M) v12.1 v12.2) (zaB L c mt loc x (zmc L x.C x.M) stk (zpG L b x)))):=by
  unfold zbW
  rw [ziO (by omega)]
  simp only [Option.bind_some]
  rw [znu,qf (show x.Op≠37 by omega),zr0 h.made h.lens]
  rfl
 cases hb:zpG L b x with
 |true =>
  refine ⟨_,(loc,stk,true),zoN (c:=c) h ho hC,?_,zfd (zym hb) rfl,zko h hC⟩
  rw [instr_field (by omega),hD,hb]
  cases zb7 L x.C <;> rfl
 |false =>
  have hn:zb7 L x.C=true:=by
   cases hq:zb7 L x.C with
   |true=>rfl
   |false =>
    have:zmc L x.C x.M=([],zF,false):=by unfold zmc;rw [zkT hq];rfl
    unfold zpG at hb
    rw [this] at hb
    simp at hb
  rw [hn,hb] at hD
  simp only [Bool.not_true,cond_false] at hD
  have hr:=h.room
  have hl1:=ziF (L:=L) [84] [x.C] stk false
  have hl2:=ziF (L:=L) [84] [(zmc L x.C x.M).2.1.Type_,x.C] stk false
  have hl3:=ziF (L:=L) [84] [(zmc L x.C x.M).2.1.Type_] stk false
  have hs3:=zdj (L:=L) (e:=[84]) (by decide) [(zmc L x.C x.M).2.1.Type_] stk false h.shS
  have ho4:x.Op=38∨x.Op=39∨x.Op=40∨x.Op=41:=by omega
  rcases ho4 with h4 |h4 |h4 |h4
  ·have e:ztI L stk b x=((zZ L [84] [x.C] stk false).1++[(zmc L x.C x.M).2.1.Type_],(zZ L [84] [x.C] stk false).2):=by unfold ztI;rw [hb,qt h4];rfl
   have hO:=zoN (c:=c) h ho hC
   have hK:=zko (x:=x) h hC
   rw [e] at hO hK
   refine ⟨_,_,hO,?_,zed _,hK⟩
   ·rw [instr_field (by omega),hD]
    unfold zaB zbi
    rw [qf (show x.Op≠39 by omega),qf (show x.Op≠41 by omega),qt h4]
    simp only [Bool.or_false,Bool.true_or,cond_false,cond_true]
    rw [zdP h.made (sh1 hC) h.shS,zeo [78] [84]]
    simp only [Option.bind_some,List.reverse_singleton]
    rw [zen (zdj (by decide) _ _ _ h.shS).len]
    rfl
  ·have e:ztI L stk b x=zZ L [84] [(zmc L x.C x.M).2.1.Type_,x.C] stk false:=by unfold ztI;rw [hb,qf (show x.Op≠38 by omega),qt h4];rfl
   refine ⟨_,(loc,zZ L [84] [(zmc L x.C x.M).2.1.Type_,x.C] stk false),zoN (c:=c) h ho hC,?_,?_,zko (x:=x) h hC⟩
   ·rw [instr_field (by omega),hD]
    unfold zaB zbi
    rw [qf (show x.Op≠38 by omega),qf (show x.Op≠40 by omega),qt h4]
    simp only [Bool.or_false,Bool.true_or,Bool.or_true,cond_false,cond_true]
    rw [zdP h.made (sh1 hT) h.shS,zeo [78] [84]]
    simp only [Option.bind_some,List.reverse_singleton]
    rw [zdP h.made (sh1 hC) hs3,zeo [78] [84]]
    rfl
   ·rw [e];exact zeB fun _=>by show ((zZ L [84] [(zmc L x.C x.M).2.1.Type_,x.C] stk false).1.length:Int)≤mt.Stack;omega
  ·have e:ztI L stk b x=(stk++[(zmc L x.C x.M).2.1.Type_],false):=by unfold ztI;rw [hb,qf (show x.Op≠38 by omega),qf (show x.Op≠39 by omega),qt h4];rfl
   have hO:=zoN (c:=c) h ho hC
   have hK:=zko (x:=x) h hC
   rw [e] at hO hK
   refine ⟨_,_,hO,?_,zed _,hK⟩
   ·rw [instr_field (by omega),hD]
    unfold zaB zbi
    rw [qf (show x.Op≠38 by omega),qf (show x.Op≠39 by omega),qf (show x.Op≠41 by omega),qt h4]
    simp only [Bool.or_false,Bool.or_true,cond_false,cond_true]
    rw [zen h.shS.len]
    rfl
  ·have e:ztI L stk b x=zZ L [84] [(zmc L x.C x.M).2.1.Type_] stk false:=by unfold ztI;rw [hb,qf (show x.Op≠38 by omega),qf (show x.Op≠39 by omega),qf (show x.Op≠40 by omega)];rfl
   refine ⟨_,(loc,zZ L [84] [(zmc L x.C x.M).2.1.Type_] stk false),zoN (c:=c) h ho hC,?_,?_,zko (x:=x) h hC⟩
   ·rw [instr_field (by omega),hD]
    unfold zaB zbi
    rw [qf (show x.Op≠38 by omega),qf (show x.Op≠39 by omega),qf (show x.Op≠40 by omega),qt h4]
    simp only [Bool.or_false,Bool.or_true,cond_false,cond_true]
    rw [zdP h.made (sh1 hT) h.shS,zeo [78] [84]]
    rfl
   ·rw [e];exact zeB fun _=>by show ((zZ L [84] [(zmc L x.C x.M).2.1.Type_] stk false).1.length:Int)≤mt.Stack;omega
end
section
variable {l L : List za} {m : List (Tx × Int)} {c : Tx} {mt : zb} {loc stk : List Tx} {b : Bool} {x : zw}
theorem instr_call(ho:42≤x.Op∧x.Op≤45):zh L c mt loc stk b x=(zdE L c mt loc stk b x).bind fun v=>some (loc,v.1,v.2):=by
 unfold zh
 rw [cf (by omega),cf (by omega),qf (show x.Op≠20 by omega),cf (by omega),ct ho]
 rfl
def zyU(t:Tx)(p:List Tx×Bool):List Tx×Bool:=cond (!(t == [86])) (p.1++[t],p.2) p
def zu3(L:List za)(c:Tx)(x:zw)(s:Tx)(p:List Tx×Bool):List Tx×Bool:=
 cond ((x.Op == 43)||(x.Op == 45)) (zZ L [84] [x.C] p.1 p.2)
  (cond (x.Op == 44) ((zbe [84] p.1 p.2).2.1,(zbe [84] p.1 p.2).2.2||!(zlB L (zbe [84] p.1 p.2).1 x.C&&(zlB L (zbe [84] p.1 p.2).1 c&&(zfW L c).any (fun y=>s == y)))) p)
def zp1(L:List za)(c:Tx)(stk:List Tx)(b:Bool)(x:zw)(s:Tx)(f:zb)(ok:Bool):List Tx×Bool:=
 zyU f.Ret (zu3 L c x s (zZ L [84] f.Params.reverse stk (b||!(ok&&(f.Static == (x.Op == (42:Int)))))))
theorem ztZ(c:Tx)(x:zw)(s:Tx)(p:List Tx×Bool):(zu3 L c x s p).1<+:p.1:=by
 unfold zu3
 cases (x.Op == 43)||(x.Op == 45) with
 |true=>exact zcZ _ _ _ _ _
 |false =>
  cases x.Op == 44 with
  |true=>exact zf3 _ _ _
  |false=>exact List.prefix_refl _
theorem zqz{c:Tx}{x:zw}{s:Tx}{p:List Tx×Bool}(h:p.2=true):(zu3 L c x s p).2=true:=by
 unfold zu3
 cases (x.Op == 43)||(x.Op == 45) with
 |true=>exact za3 _ _ _ h
 |false =>
  cases x.Op == 44 with
  |true=>show ((zbe [84] p.1 p.2).2.2||_)=true;rw [zf2 h];rfl
  |false=>exact h
theorem zuE(h:zes l L m mt loc stk b){s:Tx}{f:zb}{ok:Bool}(hR:f.Ret.length≤25)(hM:ok=true→zr2 f.Ret=true):zln loc stk b (loc,zp1 L c stk b x s f ok):=by
 have hp:=(ztZ (L:=L) c x s (zZ L [84] f.Params.reverse stk (b||!(ok&&(f.Static == (x.Op == (42:Int))))))).trans (zcZ _ _ _ _ _)
 have hb:b=true→(zu3 L c x s (zZ L [84] f.Params.reverse stk (b||!(ok&&(f.Static == (x.Op == (42:Int))))))).2=true:=fun e=>zqz (za3 _ _ _ (by rw [e];rfl))
 unfold zp1 zyU
 cases hv:f.Ret == [86] with
 |true=>exact zeu hb h.shL h.shS hp
 |false =>
  refine zdO hb h.shL h.shS hp hR fun e=>.inr ?_
  have:ok=true:=by
   cases ok with
   |true=>rfl
   |false =>
    rw [zqz (za3 _ _ _ (by simp))] at e
    cases e
  have hr:=hM this
  unfold zr2 at hr
  rw [hv] at hr
  exact zuO (by simpa using hr) hR
theorem zw0{f:zb}(h1:∀s∈f.Params,ze5 s=true)(h2:f.Params.length≤6):ShL f.Params:=⟨by omega,fun s hs=>znD (h1 s hs)⟩
theorem zyy{f:zb}{s:List Tx}{e:Bool}(hs:s.length≤1000):zaI L m c mt loc f s e=some (zyU f.Ret (s,e)):=by
 unfold zaI zyU
 rw [zem hs]
 cases f.Ret == [86] <;> rfl
theorem zAc(h:zes l L m mt loc stk b)(ho:42≤x.Op∧x.Op≤45)(hC:x.C.length≤25)(hc:c.length≤25){s:Tx}{f:zb}{ok:Bool}(h1:∀s∈f.Params,ze5 s=true)(h2:f.Params.length≤6):
  zbz L m c mt loc stk b x s f ok=some (zp1 L c stk b x s f ok):=by
 have h26:=zf6 h.made c
 unfold zbz zp1
 rw [zeS h.made h.map (zw0 h1 h2) h.shS]
 simp only [Option.bind_some]
 generalize hq:zZ L [84] f.Params.reverse stk (b||!(ok&&(f.Static == (x.Op == (42:Int)))))=q
 have hs:ShL q.1:=by rw [←hq];exact zdj (by decide) _ _ _ h.shS
 obtain ⟨g1,g2⟩:=zdh (b:=q.2) hs (e:=[84]) (by decide)
 have hT:∀v:Bool,v=true→za9 L m c mt loc x s f q v=some (zyU f.Ret (zZ L [84] [x.C] q.1 q.2)):=fun v hv=>by
  unfold za9
  rw [hv]
  simp only [cond_true]
  rw [zeS h.made h.map (sh1 hC) hs]
  simp only [Option.bind_some,List.reverse_singleton]
  rw [zyy (zdj (by decide) _ _ _ hs).len]
 have ho4:x.Op=42∨x.Op=43∨x.Op=44∨x.Op=45:=by omega
 unfold zu3
 rcases ho4 with h4 |h4 |h4 |h4
 ·rw [qf (show x.Op≠43 by omega),qf (show x.Op≠45 by omega),qf (show x.Op≠44 by omega)]
  simp only [cond_false,Bool.or_false]
  unfold za9
  rw [qf (show x.Op≠44 by omega)]
  simp only [cond_false]
  exact zyy hs.len
 ·rw [qt h4]
  simp only [cond_true,Bool.true_or]
  exact hT _ rfl
 ·rw [qf (show x.Op≠43 by omega),qf (show x.Op≠45 by omega),qt h4]
  simp only [cond_false,Bool.or_false,cond_true]
  unfold za9
  rw [qt h4]
  simp only [cond_false,cond_true]
  rw [zlE hs.len]
  simp only [Option.bind_some]
  rw [znW h.made h.map g1 hC,znW h.made h.map g1 hc,zkU h.made h.map]
  simp only [Option.bind_some]
  rw [znX (by omega)]
  simp only [Option.bind_some]
  rw [zyy g2.len,zyy g2.len]
  cases zlB L (zbe [84] q.1 q.2).1 x.C <;> cases zlB L (zbe [84] q.1 q.2).1 c <;> rfl
 ·rw [qf (show x.Op≠43 by omega),qt h4]
  simp only [cond_false,cond_true,Bool.or_true]
  exact hT _ rfl
theorem zyb(T:List Tx)(s:Tx):(T.any fun y=>s == y)=T.any fun y=>y == s:=by
 congr 1
 funext y
 rw [Bool.eq_iff_iff,beq_iff_eq,beq_iff_eq]
 exact eq_comm
theorem zBr(h:zes l L m mt loc stk false)(ho:42≤x.Op∧x.Op≤45)(hC:x.C.length≤25)(hc:c.length≤25){s:Tx}{f:zb}(h1:∀s∈f.Params,ze5 s=true)(h2:f.Params.length≤6):
  zaK L c mt loc stk false x f s true=za4 L c mt loc f (zu3 L c x s (zZ L [84] f.Params.reverse stk false)).1 (zu3 L c x s (zZ L [84] f.Params.reverse stk false)).2:=by
 have h26:=zf6 h.made c
 unfold zaK
 simp only [Bool.not_true,Bool.or_false,cond_false]
 rw [zdP h.made (zw0 h1 h2) h.shS,zeo [78] [84]]
 simp only [Option.bind_some]
 generalize hq:zZ L [84] f.Params.reverse stk false=q
 have hs:ShL q.1:=by rw [←hq];exact zdj (by decide) _ _ _ h.shS
 obtain ⟨g1,g2⟩:=zdh (b:=q.2) hs (e:=[78]) (by decide)
 have ho4:x.Op=42∨x.Op=43∨x.Op=44∨x.Op=45:=by omega
 unfold zu3
 rw [zii hs.len]
 simp only [Option.bind_some]
 rw [zgr h.made g1 hC,zgr h.made g1 hc,zgF h.made]
 simp only [Option.bind_some]
 rw [zlh (by omega)]
 simp only [Option.bind_some]
 rcases ho4 with h4 |h4 |h4 |h4
 ·rw [qt h4,qf (show x.Op≠43 by omega),qf (show x.Op≠45 by omega),qf (show x.Op≠44 by omega)]
  rfl
 ·rw [qt h4,qf (show x.Op≠42 by omega),qf (show x.Op≠44 by omega),zeo [84] [78]]
  rfl
 ·rw [qt h4,qf (show x.Op≠42 by omega),qf (show x.Op≠43 by omega),qf (show x.Op≠45 by omega)]
  simp only [Bool.not_false,cond_true,cond_false,Bool.or_false]
  have e2:=zi3 [84] [78] q.1 q.2
  rw [zyb,e2]
  have e3:((zbe [78] q.1 q.2).2.2||!(zlB L (zbe [84] q.1 q.2).1 x.C&&(zlB L (zbe [84] q.1 q.2).1 c&&(zfW L c).any (fun y=>y == s))))=((zbe [78] q.1 q.2).2.2||!(zlB L (zbe [78] q.1 q.2).1 x.C&&(zlB L (zbe [78] q.1 q.2).1 c&&(zfW L c).any (fun y=>y == s)))):=
   zoO fun e=>by rw [zey [78] [84] q.1 q.2 e]
  rw [e3]
  cases zlB L (zbe [78] q.1 q.2).1 x.C <;> cases zlB L (zbe [78] q.1 q.2).1 c <;> cases (zfW L c).any (fun y=>y == s) <;> simp
 ·rw [qt h4,qf (show x.Op≠42 by omega),qf (show x.Op≠43 by omega),qf (show x.Op≠44 by omega),zeo [84] [78]]
  rfl
theorem ztt(h:zes l L m mt loc stk b)(ho:42≤x.Op∧x.Op≤45)(hC:x.C.length≤25)(hc:c.length≤25){s:Tx}{f:zb}{ok:Bool}(h1:∀s∈f.Params,ze5 s=true)(h2:f.Params.length≤6)(h3:f.Ret.length≤25)(h4:ok=true→zr2 f.Ret=true)
  (hP:zcw L m c mt loc stk b x=zbz L m c mt loc stk b x s f ok) (hD:zdE L c mt loc stk b x=zaK L c mt loc stk b x f s (ok&&(f.Static == (x.Op == (42:Int))))):
  ∃p r,zg L m c mt loc stk b x=some p∧zh L c mt loc stk b x=some r∧zmV mt.Stack p r∧zln loc stk b p:=by
 have hO:zg L m c mt loc stk b x=some (loc,zp1 L c stk b x s f ok):=by
  rw [zyJ ho,hP,zAc h ho hC hc h1 h2];rfl
 have hK:=zuE (c:=c) (x:=x) (s:=s) h h3 h4
 cases hb:(b||!(ok&&(f.Static == (x.Op == (42:Int))))) with
 |true =>
  refine ⟨_,(loc,stk,true),hO,?_,zfd ?_ rfl,hK⟩
  ·rw [instr_call ho,hD]
   unfold zaK
   rw [hb];rfl
  ·show (zp1 L c stk b x s f ok).2=true
   have:(zu3 L c x s (zZ L [84] f.Params.reverse stk (b||!(ok&&(f.Static == (x.Op == (42:Int))))))).2=true:=zqz (za3 _ _ _ hb)
   unfold zp1 zyU
   cases f.Ret == [86] <;> exact this
 |false =>
  have hb1:b=false:=by simp only [Bool.or_eq_false_iff] at hb;exact hb.1
  have hb2:(ok&&(f.Static == (x.Op == (42:Int))))=true:=by simp only [Bool.or_eq_false_iff,Bool.not_eq_false'] at hb;exact hb.2
  subst hb1
  rw [hb2,zBr h ho hC hc h1 h2] at hD
  have hl:=(ztZ (L:=L) c x s (zZ L [84] f.Params.reverse stk false)).length_le
  have hl2:=ziF (L:=L) [84] f.Params.reverse stk false
  have hr:=h.room
  have hsh:=h.shS.1
  have eK:zp1 L c stk false x s f ok=zyU f.Ret (zu3 L c x s (zZ L [84] f.Params.reverse stk false)):=by unfold zp1;rw [hb]
  generalize zu3 L c x s (zZ L [84] f.Params.reverse stk false)=q at hD hl eK
  cases hv:f.Ret == [86] with
  |true =>
   refine ⟨_,(loc,q.1,q.2),hO,?_,?_,hK⟩
   ·rw [instr_call ho,hD]
    unfold za4
    rw [hv];rfl
   ·rw [eK]
    unfold zyU
    rw [hv]
    exact zeB fun _=>by omega
  |false =>
   rw [eK] at hO hK
   unfold zyU at hO hK
   rw [hv] at hO hK
   refine ⟨_,_,hO,?_,zed _,hK⟩
   rw [instr_call ho,hD]
   unfold za4
   rw [hv]
   simp only [Bool.not_false,cond_true]
   rw [zen (by omega)]
   rfl
theorem zxr(h:zes l L m mt loc stk b)(ho:42≤x.Op∧x.Op≤45)(hC:x.C.length≤25)(hc:c.length≤25):
  ∃p r,zg L m c mt loc stk b x=some p∧zh L c mt loc stk b x=some r∧zmV mt.Stack p r∧zln loc stk b p:=by
 by_cases h5:x.Op=45
 ·obtain ⟨⟨k1,k2,k3,k4⟩,k5⟩:=zAN h.made x.C x.M
  refine ztt (s:=(znM L x.C x.M).1) (f:=(znM L x.C x.M).2.1) (ok:=(znM L x.C x.M).2.2) h ho hC hc k1 k2 k3 k4 ?_ ?_
  ·unfold zcw
   rw [zrH h.made h.map h.lens,qt h5,zAl h.made h.map h.lens]
   rfl
  ·unfold zdE
   rw [qt h5,zs4 h.made h.lens,qf (show x.Op≠42 by omega)]
   show zaK L c mt loc stk b x _ _ _=_
   congr 1
   cases hq:(znM L x.C x.M).2.2 with
   |false=>rfl
   |true=>rw [k5 hq];rfl
 ·obtain ⟨k1,k2,k3,k4⟩:=zwE h.made zbn x.M (zfW L x.C)
  generalize hR:((zfW L x.C).findSome? (zqw L zbn x.M)).getD ([],zM,false)=R at k1 k2 k3 k4
  refine ztt (s:=R.1) (f:=R.2.1) (ok:=R.2.2&&!R.2.1.Abstract) h ho hC hc k1 k2 k3 (fun e=>k4 (by rw [Bool.and_eq_true] at e;exact e.1)) ?_ ?_
  ·unfold zcw
   rw [zrH h.made h.map h.lens,qf h5,hR]
   rfl
  ·unfold zdE
   rw [qf h5,zqR h.made h.lens,hR]
   show zaK L c mt loc stk b x _ _ _=_
   congr 1
   cases R.2.2 <;> cases R.2.1.Abstract <;> cases R.2.1.Static == (x.Op == (42:Int)) <;> rfl
end
section
variable {l L : List za} {m : List (Tx × Int)} {c : Tx} {mt : zb} {loc stk : List Tx} {b : Bool} {x : zw}
theorem instr_arrays(ho:49≤x.Op∧x.Op≤55):zh L c mt loc stk b x=(zaG L c mt loc stk b x).bind fun v=>some (loc,v.1,v.2):=by
 unfold zh
 rw [cf (by omega),cf (by omega),qf (show x.Op≠20 by omega),cf (by omega),cf (by omega),ct ho]
 rfl
def zvO(C:Tx):Tx:=cond (ze5 (91 ::C)) (91 ::C) []
theorem zAJ{C:Tx}(h:ze5 (91 ::C)=true):ze5 C=true:=by
 have e:zeT (91 ::C)=C:=by rw [zfH,if_pos rfl]
 unfold ze5 at h ⊢
 rw [e] at h
 have hb:brk (zeT C)=false:=by
  rw [Bool.or_eq_true] at h
  rcases h with h |h
  ·have:zeT C=[73]:=by simpa using h
   rw [this];rfl
  ·exact ziR h
 rw [zlk hb]
 exact h
theorem zqj{C:Tx}(h:C.length≤1000):zlb C=some (zvO C):=by
 unfold zlb zvO
 have hl:Len C:=by show C.length≤9223372036854775807;omega
 have hl2:Len (91 ::C):=by show (91 ::C).length≤9223372036854775807;simp;omega
 rw [zgc hl,zvU (by simp;omega)]
 simp only [Option.bind_some,List.singleton_append]
 rw [zgc hl2]
 cases h1:ze5 (91 ::C) with
 |true=>rw [zAJ h1];rfl
 |false=>cases ze5 C <;> rfl
theorem zqH{C:Tx}(h:C.length≤1000):zlf C=some (zvO C):=by
 unfold zlf zvO
 have hl2:Len (91 ::C):=by show (91 ::C).length≤9223372036854775807;simp;omega
 rw [zvU (by simp;omega)]
 simp only [Option.bind_some,List.singleton_append]
 rw [zeI hl2]
 cases ze5 (91 ::C) <;> rfl
theorem zvT(x:UInt8):((x.toNat:Int) == (91:Int))=(x == 91):=by
 rw [Bool.eq_iff_iff,beq_iff_eq,beq_iff_eq]
 constructor
 ·intro h;exact UInt8.toNat_inj.1 (by simpa using (Int.ofNat_inj.1 h))
 ·intro h;rw [h];rfl
theorem zrS{s:Tx}(h:Len s):zmE s=some (zgJ s):=by
 unfold zmE zgJ
 rw [zeI h]
 cases hm:ze5 s with
 |false=>rfl
 |true =>
  cases s with
  |nil =>
   exfalso
   unfold ze5 at hm
   rw [show zeT (zeT [])=[] from rfl] at hm
   simp at hm
   exact ziS hm rfl
  |cons x r =>
   simp only [Option.bind_some,Bool.not_true,cond_false,Bool.true_and]
   rw [zhH]
   simp only [List.getElem?_cons_zero,Option.bind_some,zvT]
   rw [show (1:Int)=((1:Nat):Int) from rfl,zhg (by simp)]
   show cond (!(x == 91)) _ _=some (cond (x == 91) _ _)
   cases x == 91 <;> rfl
theorem zrR(hs:ShL stk):zeb L c mt loc stk b=some (zjh [78] stk b):=by
 unfold zeb zjh
 obtain ⟨h1,h2⟩:=zdh (b:=b) hs (e:=[78]) (by decide)
 rw [zii hs.len]
 simp only [Option.bind_some]
 rw [zrS (ztc h1)]
 cases hq:(zbe [78] stk b).1 == [78] with
 |true =>
  have e:(zbe [78] stk b).1=[78]:=by simpa using hq
  rw [e];simp
 |false=>rfl
def zBd(t:Tx):Bool:=(t == [78])||(decide (1<(t.length:Int))&&brk t)
theorem zAC(t:Tx):((cond (t == [78]) (some true) ((cond (decide (1<(List.length t:Int))) ((idx t 0).bind fun v16=>some ((v16.toNat:Int) == (91:Int))) (some false)).bind fun v17=>some v17)):Option Bool)=some (zBd t):=by
 unfold zBd
 cases t == [78] with
 |true=>rfl
 |false =>
  cases t with
  |nil=>rfl
  |cons x r =>
   rw [zhH]
   simp only [List.getElem?_cons_zero,Option.bind_some,zvT]
   show ((cond (decide (1<(List.length (x ::r):Int))) (some (x == 91)) (some false)).bind fun v17=>some v17)=some (false||(decide (1<(List.length (x ::r):Int))&&(x == 91)))
   cases decide (1<(List.length (x ::r):Int)) <;> rfl
theorem zBE{t:Tx}(h:onS t):zBd t=((zgJ t).2||(t == [78])):=by
 rcases h with rfl |h
 ·unfold zBd
  rw [beq_self_eq_true];simp
 ·unfold zBd zgJ
  rw [h]
  cases hb:brk t with
  |false=>simp
  |true =>
   have h1:=(zn0 h hb).1
   have h2:t.drop 1≠[]:=fun e=>by
    rw [e] at h1
    unfold ze5 at h1
    rw [show zeT (zeT [])=[] from rfl] at h1
    simp at h1
    exact ziS h1 rfl
   have h3:1<t.length:=by
    have:0<(t.drop 1).length:=List.length_pos_iff.2 h2
    simp at this
    omega
   rw [decide_eq_true (show 1<(t.length:Int) by omega)]
   simp
def thA(L:List za)(C:Tx):Bool:=ze5 (91 ::C)&&thN L (91 ::C)
theorem zzS(C:Tx)(T:Tx→Bool)(h:ze5 (91 ::C)=true→T (91 ::C)=thN L (91 ::C)):(cond (!(zvO C == [])) (some (T (zvO C))) (some false))=some (thA L C):=by
 unfold zvO thA
 cases hm:ze5 (91 ::C) with
 |true =>
  rw [←h hm]
  rfl
 |false=>rfl
theorem zxp(h:zes l L m mt loc stk b)(ho:x.Op=49∨x.Op=50∨x.Op=52∨x.Op=53)(hC:x.C.length≤10):
  ∃p r,zg L m c mt loc stk b x=some p∧zh L c mt loc stk b x=some r∧zmV mt.Stack p r∧zln loc stk b p:=by
 have hI:=zkn.1
 have hA:([91,73]:Tx).length≤25:=by decide
 have hr:=h.room
 rcases ho with h4 |h4 |h4 |h4
 ·refine ⟨(loc,(zZ L [84] [[73]] stk b).1++[[91,73]],(zZ L [84] [[73]] stk b).2),_,?_,?_,zed _,zdO (za3 _ _ _) h.shL h.shS (zcZ _ _ _ _ _) hA fun _=>.inr ⟨hA,.inr (by decide +kernel)⟩⟩
  ·rw [zgV (by omega)]
   unfold zal
   rw [qt h4]
   simp only [cond_true]
   rw [zeS h.made h.map (sh1 hI) h.shS]
   simp only [Option.bind_some,List.reverse_singleton]
   rw [zem (zdj (by decide) _ _ _ h.shS).len]
   rfl
  ·rw [instr_arrays (by omega)]
   unfold zaG
   rw [qt h4]
   simp only [cond_true]
   rw [zdP h.made (sh1 hI) h.shS,zeo [78] [84]]
   simp only [Option.bind_some,List.reverse_singleton]
   rw [zen (zdj (by decide) _ _ _ h.shS).len]
   rfl
 ·have hT:(zvO x.C).length≤25:=by
   unfold zvO
   cases ze5 (91 ::x.C)
   ·exact Nat.zero_le _
   ·show (91 ::x.C).length≤25
    simp;omega
  refine ⟨(loc,(zZ L [84] [[73]] stk (b||!thA L x.C)).1++[zvO x.C],(zZ L [84] [[73]] stk (b||!thA L x.C)).2),_,?_,?_,zed _,zdO (fun e=>za3 _ _ _ (by rw [e];rfl)) h.shL h.shS (zcZ _ _ _ _ _) hT fun e=>.inr ?_⟩
  ·rw [zgV (by omega)]
   unfold zal
   rw [qf (show x.Op≠49 by omega),qt h4]
   simp only [cond_true,cond_false]
   rw [zqj (by omega)]
   simp only [Option.bind_some]
   rw [znn h.made h.map hT]
   simp only [Option.bind_some]
   rw [zzS x.C (zq4 L) fun hm=>zqV hm]
   simp only [Option.bind_some]
   rw [zeS h.made h.map (sh1 hI) h.shS]
   simp only [Option.bind_some,List.reverse_singleton]
   rw [zem (zdj (by decide) _ _ _ h.shS).len]
   rfl
  ·rw [instr_arrays (by omega)]
   unfold zaG
   rw [qf (show x.Op≠49 by omega),qt h4]
   simp only [cond_true,cond_false]
   rw [zqH (by omega)]
   simp only [Option.bind_some]
   rw [zdq h.made (by omega)]
   simp only [Option.bind_some]
   rw [zzS x.C (thN L) fun hm=>rfl]
   simp only [Option.bind_some]
   rw [zdP h.made (sh1 hI) h.shS,zeo [78] [84]]
   simp only [Option.bind_some,List.reverse_singleton]
   rw [zen (zdj (by decide) _ _ _ h.shS).len]
   rfl
  ·have hth:thA L x.C=true:=by
    cases hq:thA L x.C with
    |true=>rfl
    |false=>rw [hq,za3 _ _ _ (by simp)] at e;cases e
   unfold thA at hth
   rw [Bool.and_eq_true] at hth
   unfold zvO at hT ⊢
   rw [hth.1] at hT ⊢
   exact zuO hth.1 hT
 ·refine ⟨(loc,(zZ L [84] [[73],[91,73]] stk b).1++[[73]],(zZ L [84] [[73],[91,73]] stk b).2),_,?_,?_,zed _,zdO (za3 _ _ _) h.shL h.shS (zcZ _ _ _ _ _) hI fun _=>.inr zkn⟩
  ·rw [zgV (by omega)]
   unfold zal
   rw [qf (show x.Op≠49 by omega),qf (show x.Op≠50 by omega),qf (show x.Op≠51 by omega),qt h4]
   simp only [cond_true,cond_false]
   rw [zeS h.made h.map (sh2 hA hI) h.shS]
   simp only [Option.bind_some]
   rw [show ([[91,73],[73]]:List Tx).reverse=[[73],[91,73]] from rfl,zem (zdj (by decide) _ _ _ h.shS).len]
   rfl
  ·rw [instr_arrays (by omega)]
   unfold zaG
   rw [qf (show x.Op≠49 by omega),qf (show x.Op≠50 by omega),qf (show x.Op≠51 by omega),qt h4]
   simp only [cond_true,cond_false]
   rw [zdP h.made (sh2 hA hI) h.shS,zeo [78] [84]]
   simp only [Option.bind_some]
   rw [show ([[91,73],[73]]:List Tx).reverse=[[73],[91,73]] from rfl,zen (zdj (by decide) _ _ _ h.shS).len]
   rfl
 ·have hl:=ziF (L:=L) [84] [[73],[73],[91,73]] stk b
  refine ⟨(loc,zZ L [84] [[73],[73],[91,73]] stk b),(loc,zZ L [84] [[73],[73],[91,73]] stk b),?_,?_,zeB fun _=>by show ((zZ L [84] [[73],[73],[91,73]] stk b).1.length:Int)≤mt.Stack;omega,zoA id h.shL h.shS⟩
  ·rw [zgV (by omega)]
   unfold zal
   rw [qf (show x.Op≠49 by omega),qf (show x.Op≠50 by omega),qf (show x.Op≠51 by omega),qf (show x.Op≠52 by omega),qt h4]
   simp only [cond_true,cond_false]
   rw [zeS h.made h.map (sh3 hA hI hI) h.shS]
   rfl
  ·rw [instr_arrays (by omega)]
   unfold zaG
   rw [qf (show x.Op≠49 by omega),qf (show x.Op≠50 by omega),qf (show x.Op≠51 by omega),qf (show x.Op≠52 by omega),qt h4]
   simp only [cond_true,cond_false]
   rw [zdP h.made (sh3 hA hI hI) h.shS,zeo [78] [84]]
   rfl
theorem zz7(e:Tx)(s:List Tx)(b:Bool):(zjh e s b).2.1.length≤s.length:=zoR e s b
theorem zz8{s:List Tx}{b:Bool}(hs:∀t∈s,onS t)(hl:∀t∈s,t.length≤25)(h:(zjh [84] s b).2.2=false):zx0 (zjh [84] s b).1:=by
 unfold zjh at h ⊢
 simp only [Bool.or_eq_false_iff,Bool.not_eq_false'] at h
 have hin:=zkz h.1
 generalize (zbe [84] s b).1=t at h hin
 have h1:=hl t hin
 simp only
 cases hq:t == [78] with
 |true =>
  have e:t=[78]:=by simpa using hq
  rw [e];exact zyl
 |false =>
  rw [hq] at h
  simp only [Bool.false_or,Bool.and_eq_true] at h
  have h2:=h.2.1
  unfold zgJ at h2 ⊢
  cases hb:ze5 t&&brk t with
  |false=>rw [hb] at h2;cases h2
  |true =>
   rw [Bool.and_eq_true] at hb
   refine zuO (zn0 hb.1 hb.2).1 ?_
   show (t.drop 1).length≤25
   simp;omega
theorem zxq(h:zes l L m mt loc stk b)(ho:x.Op=51∨x.Op=54∨x.Op=55):
  ∃p r,zg L m c mt loc stk b x=some p∧zh L c mt loc stk b x=some r∧zmV mt.Stack p r∧zln loc stk b p:=by
 have hI:=zkn.1
 have hr:=h.room
 rcases ho with h4 |h4 |h4
 ·obtain ⟨g1,g2⟩:=zdh (b:=b) h.shS (e:=[84]) (by decide)
  obtain ⟨k1,k2⟩:=zdh (b:=b) h.shS (e:=[78]) (by decide)
  have hb:((zbe [78] stk b).2.2||!zBd (zbe [78] stk b).1)=((zbe [84] stk b).2.2||!((zgJ (zbe [84] stk b).1).2||((zbe [84] stk b).1 == [78]))):=by
   have e2:=zi3 [78] [84] stk b
   rw [e2]
   refine zoO fun e=>?_
   rw [←zey [84] [78] stk b e,zBE (h.on _ (zkz e))]
  refine ⟨(loc,(zbe [84] stk b).2.1++[[73]],(zbe [84] stk b).2.2||!((zgJ (zbe [84] stk b).1).2||((zbe [84] stk b).1 == [78]))),_,?_,?_,zed _,zdO (fun e=>by rw [zf2 e];rfl) h.shL h.shS (zf3 _ _ _) hI fun _=>.inr zkn⟩
  ·rw [zgV (by omega)]
   unfold zal
   rw [qf (show x.Op≠49 by omega),qf (show x.Op≠50 by omega),qt h4]
   simp only [cond_true,cond_false]
   rw [zlE h.shS.len]
   simp only [Option.bind_some]
   rw [zgg (ztc g1)]
   simp only [Option.bind_some]
   rw [zem g2.len]
   rfl
  ·rw [instr_arrays (by omega)]
   unfold zaG
   rw [qf (show x.Op≠49 by omega),qf (show x.Op≠50 by omega),qt h4]
   simp only [cond_true,cond_false]
   rw [zii h.shS.len]
   simp only [Option.bind_some]
   rw [zAC]
   simp only [Option.bind_some]
   rw [zen k2.len,hb,zi3 [78] [84]]
   rfl
 ·have hT:=zdj (L:=L) (e:=[84]) (by decide) [[73]] stk b h.shS
  have hP:=zcZ L [84] [[73]] stk b
  have hB:b=true→(zZ L [84] [[73]] stk b).2=true:=za3 _ _ _
  have hOn:∀t∈(zZ L [84] [[73]] stk b).1,onS t:=fun t ht=>h.on t (hP.subset ht)
  have hO:zg L m c mt loc stk b x=some (loc,(zjh [84] (zZ L [84] [[73]] stk b).1 (zZ L [84] [[73]] stk b).2).2.1++[(zjh [84] (zZ L [84] [[73]] stk b).1 (zZ L [84] [[73]] stk b).2).1],(zjh [84] (zZ L [84] [[73]] stk b).1 (zZ L [84] [[73]] stk b).2).2.2):=by
   rw [zgV (by omega)]
   unfold zal
   rw [qf (show x.Op≠49 by omega),qf (show x.Op≠50 by omega),qf (show x.Op≠51 by omega),qf (show x.Op≠52 by omega),qf (show x.Op≠53 by omega),qt h4]
   simp only [cond_true,cond_false]
   rw [zeS h.made h.map (sh1 hI) h.shS]
   simp only [Option.bind_some,List.reverse_singleton]
   rw [ztp hT]
   simp only [Option.bind_some]
   rw [zem (zsx hT (by decide)).2.len]
   rfl
  have hD:zh L c mt loc stk b x=some (loc,(znE mt.Stack (zjh [78] (zZ L [84] [[73]] stk b).1 (zZ L [84] [[73]] stk b).2).2.1 (zjh [78] (zZ L [84] [[73]] stk b).1 (zZ L [84] [[73]] stk b).2).2.2 (zjh [78] (zZ L [84] [[73]] stk b).1 (zZ L [84] [[73]] stk b).2).1).1,(znE mt.Stack (zjh [78] (zZ L [84] [[73]] stk b).1 (zZ L [84] [[73]] stk b).2).2.1 (zjh [78] (zZ L [84] [[73]] stk b).1 (zZ L [84] [[73]] stk b).2).2.2 (zjh [78] (zZ L [84] [[73]] stk b).1 (zZ L [84] [[73]] stk b).2).1).2):=by
   rw [instr_arrays (by omega)]
   unfold zaG
   rw [qf (show x.Op≠49 by omega),qf (show x.Op≠50 by omega),qf (show x.Op≠51 by omega),qf (show x.Op≠52 by omega),qf (show x.Op≠53 by omega),qt h4]
   simp only [cond_true,cond_false]
   rw [zdP h.made (sh1 hI) h.shS,zeo [78] [84]]
   simp only [Option.bind_some,List.reverse_singleton]
   rw [zrR hT]
   simp only [Option.bind_some]
   rw [zen (zsx hT (by decide)).2.len]
   rfl
  generalize zZ L [84] [[73]] stk b=q at hT hP hB hOn hO hD
  have hK:zln loc stk b (loc,(zjh [84] q.1 q.2).2.1++[(zjh [84] q.1 q.2).1],(zjh [84] q.1 q.2).2.2):=
   zdO (fun e=>ztn (hB e)) h.shL h.shS ((zto _ _ _).trans hP) (zsx hT (by decide)).1 fun e=>.inr (zz8 hOn hT.2 e)
  refine ⟨_,_,hO,hD,?_,hK⟩
  have e2:=zzo [78] [84] q.1 q.2
  cases hb:(zjh [84] q.1 q.2).2.2 with
  |true=>exact zfd rfl (zmD (by rw [e2];exact hb))
  |false =>
   rw [←zuD [84] [78] q.1 q.2 hb,e2,hb]
   exact zed _
 ·have e2:=(zmL (b:=b) h.on).1
  obtain ⟨g1,g2⟩:=zqQ (b:=b) h.shS (e:=[84]) (by decide)
  have hP0:=zjP [84] stk b
  have hB0:b=true→(zgq [84] stk b).2.2=true:=zlg
  have hT:=zdj (L:=L) (e:=[84]) (by decide) [[73]] (zgq [84] stk b).2.1 (zgq [84] stk b).2.2 g2
  have hP:=(zcZ L [84] [[73]] (zgq [84] stk b).2.1 (zgq [84] stk b).2.2).trans hP0
  have hB:b=true→(zZ L [84] [[73]] (zgq [84] stk b).2.1 (zgq [84] stk b).2.2).2=true:=fun e=>za3 _ _ _ (hB0 e)
  have hO:zg L m c mt loc stk b x=some (loc,(zjh [84] (zZ L [84] [[73]] (zgq [84] stk b).2.1 (zgq [84] stk b).2.2).1 (zZ L [84] [[73]] (zgq [84] stk b).2.1 (zgq [84] stk b).2.2).2).2.1,(zjh [84] (zZ L [84] [[73]] (zgq [84] stk b).2.1 (zgq [84] stk b).2.2).1 (zZ L [84] [[73]] (zgq [84] stk b).2.1 (zgq [84] stk b).2.2).2).2.2):=by
   rw [zgV (by omega)]
   unfold zal
   rw [qf (show x.Op≠49 by omega),qf (show x.Op≠50 by omega),qf (show x.Op≠51 by omega),qf (show x.Op≠52 by omega),qf (show x.Op≠53 by omega),qf (show x.Op≠54 by omega)]
   simp only [cond_true,cond_false]
   rw [zpP h.shS]
   simp only [Option.bind_some]
   rw [zeS h.made h.map (sh1 hI) g2]
   simp only [Option.bind_some,List.reverse_singleton]
   rw [ztp hT]
   rfl
  have hD:zh L c mt loc stk b x=some (loc,(zjh [78] (zZ L [84] [[73]] (zgq [84] stk b).2.1 (zgq [84] stk b).2.2).1 (zZ L [84] [[73]] (zgq [84] stk b).2.1 (zgq [84] stk b).2.2).2).2.1,(zjh [78] (zZ L [84] [[73]] (zgq [84] stk b).2.1 (zgq [84] stk b).2.2).1 (zZ L [84] [[73]] (zgq [84] stk b).2.1 (zgq [84] stk b).2.2).2).2.2):=by
   rw [instr_arrays (by omega)]
   unfold zaG
   rw [qf (show x.Op≠49 by omega),qf (show x.Op≠50 by omega),qf (show x.Op≠51 by omega),qf (show x.Op≠52 by omega),qf (show x.Op≠53 by omega),qf (show x.Op≠54 by omega),qt h4]
   simp only [cond_true,cond_false]
   rw [zl8 h.shS]
   simp only [Option.bind_some]
   rw [e2,zdP h.made (sh1 hI) g2,zeo [78] [84]]
   simp only [Option.bind_some,List.reverse_singleton]
   rw [zrR hT]
   rfl
  rw [zzo [78] [84]] at hD
  have hl:=zz7 [84] (zZ L [84] [[73]] (zgq [84] stk b).2.1 (zgq [84] stk b).2.2).1 (zZ L [84] [[73]] (zgq [84] stk b).2.1 (zgq [84] stk b).2.2).2
  have hl2:=hP.length_le
  exact ⟨_,_,hO,hD,zeB fun _=>by omega,zeu (fun e=>ztn (hB e)) h.shL h.shS ((zto _ _ _).trans hP)⟩
end
section
variable {l L : List za} {m : List (Tx × Int)} {c : Tx} {mt : zb} {loc stk : List Tx} {b : Bool} {x : zw}
theorem zwu{x:zw}(h:zkw x=true):(1≤x.Op∧x.Op≤61)∧zjH x.Op x.A=true∧zrG x.Op x.C=true:=by
 unfold zkw zjG zdB at h
 simp only [Bool.and_eq_true,decide_eq_true_eq] at h
 exact ⟨h.1.1.1,h.1.1.2,h.1.2⟩
def zzn(L:List za)(m:List (Tx×Int))(c:Tx)(mt:zb)(loc stk:List Tx)(b:Bool)(x:zw):Prop:=
 ∃p r,zg L m c mt loc stk b x=some p∧zh L c mt loc stk b x=some r∧zmV mt.Stack (p.1,p.2.1,cond (zep x.Op) (p.2.2||!zmq L mt p.1 p.2.1 x.A) p.2.2) r∧zln loc stk b p
theorem zAZ(hj:zep x.Op=false)(h:∃p r,zg L m c mt loc stk b x=some p∧zh L c mt loc stk b x=some r∧zmV mt.Stack p r∧zln loc stk b p):zzn L m c mt loc stk b x:=by
 obtain ⟨p,r,h1,h2,h3,h4⟩:=h
 exact ⟨p,r,h1,h2,by rw [hj];exact h3,h4⟩
theorem zy5(h:zes l L m mt loc stk b)(hk:zk0 mt)(hm:zkw x=true)(hc:c.length≤25):zzn L m c mt loc stk b x:=by
 obtain ⟨hO,hA,hC⟩:=zwu hm
 have h10:=zCz hm
 by_cases hj:20≤x.Op∧x.Op≤36
 ·have e:zep x.Op=true:=bt hj
  obtain ⟨p,r,h1,h2,h3,h4⟩:=zxt (c:=c) h hk hj
  exact ⟨p,r,h1,h2,by rw [e];exact h3,h4⟩
 have e:zep x.Op=false:=bf hj
 refine zAZ e ?_
 by_cases h1:x.Op=1∨x.Op=2
 ·exact zvk h h1
 by_cases h3:x.Op=3
 ·have:0≤x.A:=by
   unfold zjH zdB at hA
   rw [h3] at hA
   simp at hA
   omega
  exact zxu h h3 this
 by_cases h4:x.Op=4
 ·have:0≤x.A:=by
   unfold zjH zdB at hA
   rw [h4] at hA
   simp at hA
   omega
  exact zvm h h4 this
 by_cases h5:x.Op=5
 ·exact zy9 h h5
 by_cases h6:x.Op=6
 ·exact zy6 h h6
 by_cases h7:x.Op=7
 ·exact zxw h h7
 by_cases h8:8≤x.Op∧x.Op≤19
 ·exact zvj h h8
 by_cases h9:x.Op=37
 ·exact zy7 h h9 (by omega)
 by_cases h11:38≤x.Op∧x.Op≤41
 ·exact zvl h h11 (by omega)
 by_cases h12:42≤x.Op∧x.Op≤45
 ·exact zxr h h12 (by omega) hc
 by_cases h13:x.Op=46∨x.Op=47
 ·exact zza h h13
 by_cases h14:x.Op=48
 ·exact zxo h h14 hk.ret (zue hk.ret)
 by_cases h15:x.Op=49∨x.Op=50∨x.Op=52∨x.Op=53
 ·exact zxp h h15 h10
 by_cases h16:x.Op=51∨x.Op=54∨x.Op=55
 ·exact zxq h h16
 by_cases h17:x.Op=56∨x.Op=57
 ·refine zxs h h17 ?_ (by omega)
  have ht:zgB x.Op=true:=by
   unfold zgB
   rcases h17 with e |e <;> rw [e] <;> rfl
  unfold zrG at hC
  rw [ht] at hC
  simp only [cond_true] at hC
  unfold zn6 at hC
  rw [Bool.and_eq_true] at hC
  exact hC.2
 by_cases h18:x.Op=58
 ·exact zvn h h18
 by_cases h19:x.Op=59
 ·exact zAY h h19
 exact zy8 h (by omega)
theorem zv9(n:Int):zhm n=zh6 n:=rfl
theorem zuA(h:zes l L m mt loc stk false)(hk:zk0 mt){p:List Tx×List Tx×Bool}(hp:zln loc stk false p)(hb:p.2.2=false)(hr:(p.2.1.length:Int)≤mt.Stack):zes l L m mt p.1 p.2.1 false:=by
 obtain ⟨_,⟨k1,k2,k3,k4⟩,k5⟩:=hp
 obtain ⟨k6,k7⟩:=k5 hb
 have hs:=hk.stack.2
 refine ⟨h.made,h.map,h.lens,⟨by rw [k1];exact h.shL.1,k3⟩,⟨by omega,k4⟩,fun t ht=>?_,hr,fun t ht=>?_⟩
 ·rcases k6 t ht with e |e
  ·exact h.on t e
  ·exact e.2
 ·rcases k7 t ht with e |e
  ·exact h.onL t e
  ·exact .inr (h.on t e)
end
section
variable {l L : List za} {m : List (Tx × Int)} {c : Tx} {mt : zb} {loc stk : List Tx} {b : Bool}
def zvg(L:List za)(m:List (Tx×Int))(c:Tx)(mt:zb)(z:List Tx×List Tx×Bool×Bool×Int):Option Bool:=
 (zs (fun z=>zar c (zY.mk L m) mt z.1 z.2.1 z.2.2.1 z.2.2.2.1 z.2.2.2.2) z).bind fun o=>zQ o (fun b=>zjc b.1 b.2.1 b.2.2) some
def zyX(L:List za)(c:Tx)(mt:zb)(z:List Tx×List Tx×Bool×Bool×Int):Option Bool:=
 (zs (fun z=>zax c (zT.mk L) mt z.1 z.2.1 z.2.2.1 z.2.2.2.1 z.2.2.2.2) z).bind fun o=>zQ o (fun b=>zhE b.1 b.2.1 b.2.2.1 b.2.2.2) some
theorem zxj{g g':Bool}{i i':Int}{loc' stk':List Tx}{b':Bool}(h:zar c (zY.mk L m) mt loc stk b g i=some (.inl (loc',stk',b',g',i'))):zvg L m c mt (loc,stk,b,g,i)=zvg L m c mt (loc',stk',b',g',i'):=by
 unfold zvg
 rw [zJ]
 show ((zar c (zY.mk L m) mt loc stk b g i).bind _).bind _=_
 rw [h];rfl
theorem zr7{g:Bool}{i:Int}{v:Bool}(h:zar c (zY.mk L m) mt loc stk b g i=some (.inr (.inr v))):zvg L m c mt (loc,stk,b,g,i)=some v:=by
 unfold zvg
 rw [zJ]
 show ((zar c (zY.mk L m) mt loc stk b g i).bind _).bind _=_
 rw [h];rfl
theorem zr6{g:Bool}{i:Int}(h:zar c (zY.mk L m) mt loc stk b g i=some (.inr (.inl (loc,stk,b)))):zvg L m c mt (loc,stk,b,g,i)=some (!b):=by
 unfold zvg
 rw [zJ]
 show ((zar c (zY.mk L m) mt loc stk b g i).bind _).bind _=_
 rw [h];rfl
theorem zxi{g g':Bool}{i i':Int}{loc' stk':List Tx}{b':Bool}(h:zax c (zT.mk L) mt loc stk b g i=some (.inl (loc',stk',b',g',i'))):zyX L c mt (loc,stk,b,g,i)=zyX L c mt (loc',stk',b',g',i'):=by
 unfold zyX
 rw [zJ]
 show ((zax c (zT.mk L) mt loc stk b g i).bind _).bind _=_
 rw [h];rfl
theorem zr5{g:Bool}{i:Int}(h:zax c (zT.mk L) mt loc stk b g i=some (.inr (.inl (loc,stk,b,g)))):zyX L c mt (loc,stk,b,g,i)=some (!b&&!g):=by
 unfold zyX
 rw [zJ]
 show ((zax c (zT.mk L) mt loc stk b g i).bind _).bind _=_
 rw [h];rfl
theorem zuh(h:zeD l L)(hm:zcD L m)(hk:zk0 mt)(hl:ShL loc)(hs:ShL stk){g:Bool}{i:Nat}(hi:i≤mt.Code.length):zvg L m c mt (loc,stk,true,g,(i:Int))=some false:=by
 by_cases hlt:i<mt.Code.length
 ·refine zr7 ?_
  unfold zar
  have hx:mt.Code[i]?=some mt.Code[i]:=List.getElem?_eq_getElem hlt
  rw [zfv hx,zB,hx]
  simp only [cond_true,Option.bind_some]
  rw [zwb h hm hk hl hs]
  rfl
 ·refine zr6 ?_
  unfold zar
  rw [decide_eq_false (by omega)]
  rfl
theorem zqT{g:Bool}{i:Int}:zyX L c mt (loc,stk,true,g,i)=some false:=by
 refine zr5 ?_
 unfold zax
 rw [Bool.not_true,Bool.and_false]
 rfl
theorem zAj(h:zeD l L)(hk:zk0 mt)(hl:ShL loc)(hs:ShL stk){g:Bool}{i:Nat}{x:zw}(hx:mt.Code[i]?=some x):
  zax c (zT.mk L) mt loc stk false g (i:Int) =
   (zbX L c mt (zfI L mt loc stk i g).1 (zfI L mt loc stk i g).2.1 (zfI L mt loc stk i g).2.2 (i:Int)).bind fun v98 =>
    (zh L c mt (zfI L mt loc stk i g).1 (zfI L mt loc stk i g).2.1 v98 x).bind fun v100=>some (.inl (v100.1,v100.2.1,v100.2.2,(!(zhm x.Op)),(IntKind.i64.wrap ((i:Int)+1)))):=by
 unfold zax
 rw [zfv hx]
 simp only [Bool.not_false,Bool.and_true,cond_true]
 rw [zqs hk]
 unfold zBH zfI
 have key:∀(v:zU×Bool) (b:Bool) (p q:List Tx),zdb c (zT.mk L) mt g (i:Int) v b p q =
   (zbX L c mt p q (b||!(v.2||g)) (i:Int)).bind fun v98=>(zh L c mt p q v98 x).bind fun v100=>some (.inl (v100.1,v100.2.1,v100.2.2,(!(zhm x.Op)),(IntKind.i64.wrap ((i:Int)+1)))):=fun v b p q=>by
  unfold zdb
  rw [zB,hx]
  rfl
 cases hf:ztT mt (i:Int) with
 |none =>
  simp only [Option.bind_some,Bool.false_and,cond_false]
  unfold zb6
  simp only [cond_false]
  rw [key]
  simp
 |some y =>
  have hy:=zoI hk hf
  simp only [Option.bind_some,Bool.true_and]
  have key2:∀b:Bool,zb6 c (zT.mk L) mt loc stk g (i:Int) (y,true) b=(zbX L c mt y.Locals y.Stack b (i:Int)).bind fun v98=>(zh L c mt y.Locals y.Stack v98 x).bind fun v100=>some (.inl (v100.1,v100.2.1,v100.2.2,(!(zhm x.Op)),(IntKind.i64.wrap ((i:Int)+1)))):=fun b=>by
   unfold zb6
   simp only [cond_true]
   rw [zv3 (hy.shl hk).len (hy.shs hk).len]
   simp only [Option.bind_some]
   rw [key]
   simp
  rw [zwn h hk hl hs]
  cases g with
  |true=>simp only [cond_true,Option.bind_some,Bool.false_or,Bool.true_and];exact key2 _
  |false=>simp only [cond_false,Bool.false_and];exact key2 _
theorem zyY(hk:zk0 mt)(hc:c.length≤25):∀(d i:Nat) (loc stk:List Tx) (g:Bool),d+i=mt.Code.length→zes l L m mt loc stk false→(d=0→g=false) →
  ∃v,zvg L m c mt (loc,stk,false,g,(i:Int))=some v∧zyX L c mt (loc,stk,false,g,(i:Int))=some v:=by
 intro d
 induction d with
 |zero =>
  intro i loc stk g hd h hg
  have hg:=hg rfl
  subst hg
  refine ⟨true,?_,?_⟩
  ·refine zr6 ?_
   unfold zar
   rw [decide_eq_false (by omega)]
   rfl
  ·refine zr5 ?_
   unfold zax
   rw [decide_eq_false (by omega)]
   rfl
 |succ d ih =>
  intro i loc stk g hd h hg
  have hlt:i<mt.Code.length:=by omega
  have hx:mt.Code[i]?=some mt.Code[i]:=List.getElem?_eq_getElem hlt
  have hxm:=hk.ins _ (List.getElem_mem hlt)
  have h100:=hk.code.2
  generalize mt.Code[i]=x at hx hxm
  have hw:IntKind.i64.wrap ((i:Int)+1)=((i+1:Nat):Int):=zaa (by omega)
  have hE:∀b,zes l L m mt (zfI L mt loc stk i g).1 (zfI L mt loc stk i g).2.1 b:=fun b=>zsz h hk
  have hD:=zAj (c:=c) h.made hk h.shL h.shS (g:=g) hx
  have hP:zar c (zY.mk L m) mt loc stk false g (i:Int)=cond (zfI L mt loc stk i g).2.2 (some (.inr (.inr false))) ((zdf L m c mt (zfI L mt loc stk i g).1 (zfI L mt loc stk i g).2.1 (zfI L mt loc stk i g).2.2 (i:Int)).bind fun v51=>(zg L m c mt (zfI L mt loc stk i g).1 (zfI L mt loc stk i g).2.1 v51 x).bind fun v52=>cond (zep x.Op) ((zcy L m c mt v52.1 v52.2.1 v52.2.2 x.A).bind fun v53=>zd1 mt (i:Int) x v52 v53) (zd1 mt (i:Int) x v52 v52.2.2)):=by
   unfold zar
   rw [zfv hx,zB,hx]
   simp only [cond_true,Option.bind_some]
   rw [zwb h.made h.map hk h.shL h.shS]
   rfl
  generalize zfI L mt loc stk i g=E at hE hD hP
  obtain ⟨p,r,s1,s2,s3,s4⟩:=zy5 (c:=c) (hE (E.2.2||mt.Traps.any (zo9 L mt E.1 i))) hk hxm hc
  rw [zA4 h.made hk (hE false).shL] at hD
  simp only [Option.bind_some] at hD
  rw [s2] at hD
  simp only [Option.bind_some] at hD
  rw [hw,zv9] at hD
  have hDn:=zxi hD
  cases hb:E.2.2 with
  |true =>
   rw [hb] at hP s4
   refine ⟨false,zr7 hP,?_⟩
   have hpb:p.2.2=true:=s4.1 rfl
   have hrb:r.2.2=true:=by
    rw [←s3.1,hpb]
    cases zep x.Op <;> rfl
   rw [hDn,hrb]
   exact zqT
  |false =>
   rw [hb] at hP s1 s4
   simp only [cond_false] at hP
   rw [zA3 h.made h.map hk (hE false).shL] at hP
   simp only [Option.bind_some] at hP
   rw [s1] at hP
   simp only [Option.bind_some] at hP
   obtain ⟨k0,⟨k1,k2,k3,k4⟩,k5⟩:=s4
   have hroom:=(hE false).room
   have hst:=hk.stack.2
   have hl1:ShL p.1:=⟨by rw [k1];exact (hE false).shL.1,k3⟩
   have hs1:ShL p.2.1:=⟨by omega,k4⟩
   rw [zzy h.made h.map hk hl1 hs1] at hP
   have hP2:zar c (zY.mk L m) mt loc stk false g (i:Int)=some (.inl (p.1,p.2.1,r.2.2,!zh6 x.Op,((i+1:Nat):Int))):=by
    rw [hP,←s3.1,←hw]
    unfold zd1
    cases zep x.Op <;> rfl
   have hPn:=zxj hP2
   rw [hPn,hDn]
   cases hrb:r.2.2 with
   |true=>exact ⟨false,zuh h.made h.map hk hl1 hs1 (by omega),zqT⟩
   |false =>
    obtain ⟨e1,e2⟩:=s3.2 hrb
    simp only at e1 e2
    rw [←e1,←e2]
    have hsum:=s3.1
    rw [hrb] at hsum
    simp only [Bool.or_eq_false_iff,Bool.not_eq_false',decide_eq_true_eq] at hsum
    have hpb:p.2.2=false:=by
     have:=hsum.1
     cases hq:zep x.Op with
     |true=>rw [hq] at this;simp only [cond_true,Bool.or_eq_false_iff] at this;exact this.1
     |false=>rw [hq] at this;exact this
    have hT:(false||mt.Traps.any (zo9 L mt E.1 i))=false:=by
     cases hq:(false||mt.Traps.any (zo9 L mt E.1 i)) with
     |false=>rfl
     |true=>rw [hq] at k0;rw [k0 rfl] at hpb;cases hpb
    rw [hT] at k0
    refine ih (i+1) p.1 p.2.1 (!zh6 x.Op) (by omega) (zuA (hE false) hk ⟨k0,⟨k1,k2,k3,k4⟩,k5⟩ hpb hsum.2) fun h0=>?_
    obtain ⟨y,hy1,hy2⟩:=hk.last
    rw [List.getLast?_eq_getElem?] at hy1
    have:mt.Code.length-1=i:=by omega
    rw [this,hx] at hy1
    cases hy1
    rw [hy2];rfl
end
theorem zt5{R:Type}{n:Int}{body:List Tx→Option (Sum (List Tx) (Sum (List Tx) R))}
  (hb:∀z:List Tx,body z=cond (decide (((List.length z):Int)<n)) ((zfY 16 z ([[84]])).bind fun v=>some (.inl v)) (some (.inr (.inl z)))):
  ∀(k:Nat) (z:List Tx),((z.length+k:Nat):Int)=n→z.length+k≤1000→zs body z=some (.inl (z++List.replicate k [84]))
 | 0,z,h,h2=>by
  rw [zJ,hb,decide_eq_false (by omega)]
  simp
 |k+1,z,h,h2=>by
  rw [zJ,hb,decide_eq_true (by omega),zcE (by simp;omega) (by simp;omega)]
  simp only [cond_true,Option.bind_some,Sum.elim_inl]
  rw [zt5 hb k (z++[[84]]) (by simp;omega) (by simp;omega)]
  simp [List.replicate_succ]
section
variable {l L : List za} {m : List (Tx × Int)} {c : Tx} {f : zb} {b : Bool}
def zm3(L:List za)(T:List Tx):Bool:=T.any fun t=>!zq4 L t
theorem zxP(h:zeD l L)(hm:zcD L m){T:List Tx}(hT:ShL T):zhT T L m=some (!zm3 L T):=by
 unfold zhT zaQ zb2
 rw [show ((zs (fun z=>zaW T L m z) 0).bind fun o=>zQ o (fun b=>zdw) some)=_ from zbx (l:=T) (p:=fun t=>!zq4 L t) (by have:=hT.len;omega)
  (fun i x hx=>by
   have hl:=hT.2 x (List.mem_of_getElem? hx)
   unfold zaW zkX zin
   rw [zfv hx,zB,hx]
   simp only [Option.bind_some,cond_true]
   rw [znn h hm hl]
   rfl) (by unfold zaW;rw [zf1];rfl)]
 rw [Option.bind_some,zgb]
 rfl
theorem zzi(h:zeD l L)(hm:zcD L m){T:List Tx}(hT:ShL T):zgH T L m=some (!T.any fun t=>!thN L t):=by
 unfold zgH zaR zb3
 rw [show ((zs (fun z=>zaX T L m z) 0).bind fun o=>zQ o (fun b=>zdx) some)=_ from zbx (l:=T) (p:=fun t=>!thN L t) (by have:=hT.len;omega)
  (fun i x hx=>by
   have hl:=hT.2 x (List.mem_of_getElem? hx)
   unfold zaX zip zio
   rw [zfv hx,zB,hx]
   simp only [Option.bind_some,cond_true]
   rw [znm h hm hl (ztc hl),zn7]
   rfl) (by unfold zaX;rw [zf1];rfl)]
 rw [Option.bind_some,zgb]
 rfl
def zuX(c:Tx)(f:zb):List Tx:=cond (!f.Static) [c] []++f.Params
def zlX(c:Tx)(f:zb):List Tx:=zuX c f++List.replicate (f.Locals.toNat-(zuX c f).length) [84]
theorem zrD(hk:zk0 f):((zuX c f).length:Int)=zac f:=by
 have h6:=hk.npar
 unfold zuX zac
 cases f.Static with
 |true=>simp
 |false =>
  rw [zjY (by omega) (by omega)]
  simp
theorem zzL{R:Type}(hk:zk0 f){body:List Tx→Option (Sum (List Tx) (Sum (List Tx) R))}
  (hb:∀z:List Tx,body z=cond (decide (((List.length z):Int)<f.Locals)) ((zfY 16 z ([[84]])).bind fun v=>some (.inl v)) (some (.inr (.inl z)))):zs body (zuX c f)=some (.inl (zlX c f)):=by
 have h1:=zrD (c:=c) hk
 have h2:=hk.locs
 exact zt5 hb _ _ (by omega) (by omega)
theorem zwz(hk:zk0 f):((zlX c f).length:Int)=f.Locals:=by
 have h1:=zrD (c:=c) hk
 have h2:=hk.locs
 unfold zlX
 simp
 omega
theorem zrE(hk:zk0 f)(hc:ze5 c=true):∀t∈zlX c f,t.length≤25∧(t=[84]∨onS t):=by
 intro t ht
 unfold zlX zuX at ht
 rcases List.mem_append.1 ht with h |h
 ·rcases List.mem_append.1 h with h |h
  ·have:t=c:=by
    cases hs:f.Static with
    |true=>rw [hs] at h;cases h
    |false=>rw [hs] at h;simpa using h
   rw [this]
   exact ⟨znD hc,.inr (.inr hc)⟩
  ·have:=hk.params t h
   exact ⟨znD this,.inr (.inr this)⟩
 ·rw [(List.mem_replicate.1 h).2]
  exact ⟨by decide,.inl rfl⟩
theorem zsu(h:zeD l L)(hm:zcD L m)(hL:zsk L)(hk:zk0 f)(hc:ze5 c=true):zes l L m f (zlX c f) [] false:=by
 have h1:=zwz (c:=c) hk
 have h2:=hk.locs
 have h3:=hk.stack
 exact ⟨h,hm,hL,⟨by omega,fun t ht=>(zrE hk hc t ht).1⟩,⟨Nat.zero_le _,fun t ht=>(List.not_mem_nil ht).elim⟩,fun t ht=>(List.not_mem_nil ht).elim,by simp;omega,fun t ht=>(zrE hk hc t ht).2⟩
def zzr(L:List za)(f:zb):Bool:=((f.Maps.any fun x=>zm3 L x.Locals||zm3 L x.Stack)||!((f.Ret == [86])||thN L f.Ret))||f.Params.any fun t=>!thN L t
theorem zAa(hk:zk0 f)(b:Bool):zfc L c f [] [] b=some (zlX c f):=by
 have h6:=hk.npar
 unfold zfc
 have key:zcN f (cond (!f.Static) [c] [])=some (zlX c f):=by
  unfold zcN
  rw [zcE (by cases f.Static <;> simp <;> omega) (by cases f.Static <;> simp <;> omega)]
  simp only [Option.bind_some]
  rw [show zs (fun z=>zfs f z) (cond (!f.Static) [c] []++f.Params)=_ from zzL (c:=c) hk (body:=fun z=>zfs f z) fun z=>rfl]
  rfl
 cases hs:f.Static with
 |true=>rw [hs] at key;exact key
 |false =>
  rw [hs] at key
  simp only [Bool.not_false,cond_true] at key ⊢
  rw [zcE (by simp) (by simp)]
  exact key
theorem zzM(hk:zk0 f):ShL f.Params:=⟨by have:=hk.npar;omega,fun s hs=>znD (hk.params s hs)⟩
theorem zyG(h:zeD l L)(hm:zcD L m)(hk:zk0 f):((zs (fun z=>zc9 (zY.mk L m) f z.1 z.2) (false,0)).bind fun o=>zQ o (fun b=>zhz c (zY.mk L m) f b) some)=zvg L m c f (zlX c f,[],zzr L f,true,0):=by
 have h6:=hk.npar
 rw [zk1 (body:=fun z=>zc9 (zY.mk L m) f z.1 z.2) (l:=f.Maps) (p:=fun x=>zm3 L x.Locals||zm3 L x.Stack) (by have:=hk.nmaps;omega) (fun i x b hx=>by
  have hy:=hk.maps x (List.mem_of_getElem? hx)
  show zc9 (zY.mk L m) f b (i:Int)=_
  unfold zc9
  rw [zfv hx,zB,hx]
  simp only [cond_true,Option.bind_some]
  rw [zxP h hm (hy.shl hk),zxP h hm (hy.shs hk)]
  cases zm3 L x.Locals <;> cases zm3 L x.Stack <;> rfl) (fun b=>by
  show zc9 (zY.mk L m) f b (f.Maps.length:Int)=_
  unfold zc9
  rw [zf1];rfl)]
 simp only [Option.bind_some,zQ]
 have j4:∀(b v:Bool),zeY c (zY.mk L m) f b v (cond (!f.Static) [c] [])=zvg L m c f (zlX c f,[],b||!v,true,0):=fun b v=>by
  unfold zeY
  rw [zcE (by cases f.Static <;> simp <;> omega) (by cases f.Static <;> simp <;> omega)]
  simp only [Option.bind_some]
  rw [show zs (fun z=>zhA f z) (cond (!f.Static) [c] []++f.Params)=_ from zzL (c:=c) hk (body:=fun z=>zhA f z) fun z=>rfl]
  rfl
 have j3:∀b:Bool,zeX c (zY.mk L m) f b=zvg L m c f (zlX c f,[],b||(f.Params.any fun t=>!thN L t),true,0):=fun b=>by
  unfold zeX
  rw [zzi h hm (zzM hk)]
  simp only [Option.bind_some]
  have:=j4 b (!f.Params.any fun t=>!thN L t)
  rw [Bool.not_not] at this
  rw [←this]
  cases hs:f.Static with
  |true=>rfl
  |false =>
   simp only [Bool.not_false,cond_true]
   rw [zcE (by simp) (by simp)]
   rfl
 unfold zhz zzr
 have hr:=zue hk.ret
 rw [znm h hm hr (ztc hr),zn7]
 simp only [Option.bind_some]
 rw [j3,j3]
 cases f.Ret == [86] <;> simp
theorem zyF(h:zeD l L)(hk:zk0 f):((zs (fun z=>zbG (zT.mk L) f z.1 z.2) (false,0)).bind fun o=>zQ o (fun b=>zge c (zT.mk L) f b) some)=zyX L c f (zlX c f,[],zzr L f,true,0):=by
 have h6:=hk.npar
 rw [zk1 (body:=fun z=>zbG (zT.mk L) f z.1 z.2) (l:=f.Maps) (p:=fun x=>zm3 L x.Locals||zm3 L x.Stack) (by have:=hk.nmaps;omega) (fun i x b hx=>by
  have hy:=hk.maps x (List.mem_of_getElem? hx)
  have hl:=(hy.shl hk).1
  have hs:=(hy.shs hk).1
  show zbG (zT.mk L) f b (i:Int)=_
  unfold zbG
  rw [zfv hx,zB,hx]
  simp only [cond_true,Option.bind_some]
  rw [zcE (by simp;omega) (by simp;omega)]
  simp only [Option.bind_some,List.nil_append]
  rw [zcE (by omega) (by omega)]
  simp only [Option.bind_some]
  rw [zk1 (body:=fun z=>zcs (zT.mk L) (x.Locals++x.Stack) z.1 z.2) (l:=x.Locals++x.Stack) (p:=fun t=>!zq4 L t) (by simp;omega) (fun j t b ht=>by
   have hm:=List.mem_of_getElem? ht
   have h25:t.length≤25:=by
    rcases List.mem_append.1 hm with e |e
    ·exact hy.loc25 t e
    ·exact hy.stk25 t e
   show zcs (zT.mk L) (x.Locals++x.Stack) b (j:Int)=_
   unfold zcs
   rw [zfv ht,zB,ht]
   simp only [cond_true,Option.bind_some]
   rw [zdq h (by omega)]
   unfold zq4
   cases t == [84] <;> cases t == [78] <;> cases thN L t <;> rfl) (fun b=>by
   show zcs (zT.mk L) (x.Locals++x.Stack) b ((x.Locals++x.Stack).length:Int)=_
   unfold zcs
   rw [zf1];rfl)]
  rw [List.any_append]
  rfl) (fun b=>by
  show zbG (zT.mk L) f b (f.Maps.length:Int)=_
  unfold zbG
  rw [zf1];rfl)]
 simp only [Option.bind_some,zQ]
 unfold zge
 rw [zk1 (body:=fun z=>zct (zT.mk L) f z.1 z.2) (l:=f.Params) (p:=fun t=>!thN L t) (by omega) (fun i t b ht=>by
  have h25:=(zzM hk).2 t (List.mem_of_getElem? ht)
  show zct (zT.mk L) f b (i:Int)=_
  unfold zct
  rw [zfv ht,zB,ht]
  simp only [cond_true,Option.bind_some]
  rw [zdq h (by omega)]
  rfl) (fun b=>by
  show zct (zT.mk L) f b (f.Params.length:Int)=_
  unfold zct
  rw [zf1];rfl)]
 simp only [Option.bind_some,zQ]
 unfold zid
 have hr:=zue hk.ret
 rw [zdq h (by omega)]
 have e:((cond (f.Ret == [86]) (some true) ((some (thN L f.Ret)).bind fun v69=>some v69)):Option Bool)=some ((f.Ret == [86])||thN L f.Ret):=by cases f.Ret == [86] <;> rfl
 rw [e]
 simp only [Option.bind_some]
 rw [zAa hk]
 simp only [Option.bind_some]
 have e2:(((false||f.Maps.any fun x=>zm3 L x.Locals||zm3 L x.Stack)||f.Params.any fun t=>!thN L t)||!((f.Ret == [86])||thN L f.Ret))=zzr L f:=by
  unfold zzr
  cases (f.Maps.any fun x=>zm3 L x.Locals||zm3 L x.Stack) <;> cases (f.Params.any fun t=>!thN L t) <;> cases ((f.Ret == [86])||thN L f.Ret) <;> rfl
 rw [e2]
 rfl
theorem zyc(h:zeD l L)(hm:zcD L m)(hL:zsk L)(hk:zk0 f)(hc:ze5 c=true):∃v,zvg L m c f (zlX c f,[],zzr L f,true,0)=some v∧zyX L c f (zlX c f,[],zzr L f,true,0)=some v:=by
 have hA:=zsu h hm hL hk hc
 cases zzr L f with
 |true=>exact ⟨false,zuh (i:=0) h hm hk hA.shL hA.shS (Nat.zero_le _),zqT⟩
 |false=>exact zyY hk (znD hc) f.Code.length 0 (zlX c f) [] true (by omega) hA fun e=>by have:=hk.code.1;omega
theorem zxQ(h:zeD l L)(hm:zcD L m)(hL:zsk L)(c:Tx)(k:Int):∃v,zbE (some (zY.mk L m)) c k=some v∧zdZ (some (zT.mk L)) c k=some v:=by
 have h26:=h.len
 unfold zbE zdZ
 simp only [zzK]
 rw [ziQ hm,ziO (by omega)]
 simp only [Option.bind_some]
 rw [znu]
 cases hc:cl L c with
 |none =>
  rw [zlQ hc]
  exact ⟨false,rfl,rfl⟩
 |some x =>
  rw [zgf hc,zms,hc]
  simp only [Option.bind_some,Bool.not_true,Bool.false_or]
  by_cases h0:k<0
  ·rw [decide_eq_true h0]
   exact ⟨false,rfl,rfl⟩
  rw [decide_eq_false h0]
  simp only [Bool.false_or,cond_false]
  by_cases h1:(x.Methods.length:Int)≤k
  ·rw [decide_eq_true h1]
   exact ⟨false,rfl,rfl⟩
  rw [decide_eq_false h1]
  obtain ⟨n,rfl⟩:∃n:Nat,k=(n:Int):=⟨k.toNat,by omega⟩
  have hn:n<x.Methods.length:=by omega
  have hf:x.Methods[n]?=some x.Methods[n]:=List.getElem?_eq_getElem hn
  have hfm:=List.getElem_mem hn
  generalize x.Methods[n]=f at hf hfm
  rw [zB,hf]
  simp only [Option.bind_some,cond_false]
  cases ha:f.Abstract with
  |true=>exact ⟨false,rfl,rfl⟩
  |false =>
   have hk:=zCD (zwD h (zbU hc).1 hfm) ha
   have hcm:=zmZ (zi2 h (zgf hc))
   simp only [cond_false]
   rw [zyG h hm hk,zyF h hk]
   exact zyc h hm hL hk hcm
end
theorem zAb:zjC=some true:=by kernel_rfl
section
variable {l L : List za} {m : List (Tx × Int)}
theorem zuv(hM:zeD l L)(hm:zcD L m)(hL:zsk L){e1 e2:Int}{i:Nat}{x:za}(hx:l[i]?=some x)(hn:x.Methods.length≤10000):
  ∀(d:Nat) (k:Int),k+(d:Int)=(x.Methods.length:Int)+1→-1≤k→zs (fun z=>zfj l (some (zY.mk L m),e1) (some (zT.mk L),e2) (i:Int) z) k=some (.inl ())
 | 0,k,h,h1=>by
  rw [zJ]
  show (zfj l (some (zY.mk L m),e1) (some (zT.mk L),e2) (i:Int) k).bind _=_
  unfold zfj
  rw [zB,hx]
  simp only [Option.bind_some]
  rw [decide_eq_false (by omega)]
  rfl
 |d+1,k,h,h1=>by
  obtain ⟨v,v1,v2⟩:=zxQ hM hm hL x.Name k
  rw [zJ]
  show (zfj l (some (zY.mk L m),e1) (some (zT.mk L),e2) (i:Int) k).bind _=_
  have hw:IntKind.i64.wrap (k+1)=k+1:=zjY (by omega) (by omega)
  have e:zfj l (some (zY.mk L m),e1) (some (zT.mk L),e2) (i:Int) k=some (.inl (k+1)):=by
   unfold zfj
   rw [zB,hx]
   simp only [Option.bind_some]
   rw [decide_eq_true (by omega),v1,v2,hw]
   simp
  rw [e]
  exact zuv hM hm hL hx hn d (k+1) (by omega) (by omega)
theorem znA(hf:∀c∈l,zme c):ziY l=some true:=by
 have hc:∀c∈l,zzl c:=fun c hc=>(hf c hc).cg
 obtain ⟨m,hm,he⟩:=zsG hc
 unfold ziY
 rw [he,zs2 hc]
 simp only [Option.bind_some]
 cases hE:(zwI l).1 with
 |none=>simp only [Option.map_none,Option.isNone_none,Bool.or_true,cond_true]
 |some L =>
  obtain ⟨hM,hz⟩:=zwJ hE
  have hmp:=hm L hE
  have h16:=hM.few
  have hL:zsk L:=zAD (zAF hM hf)
  rw [hz]
  simp only [Option.map_some,Option.isNone_some,beq_self_eq_true,Bool.not_true,Bool.or_self,cond_false]
  rw [show zs (fun z=>zgj l (some (zY.mk L m),0) (some (zT.mk L),0) z) 0=some (.inl ()) from zx6 (l:=l) (fun i x hx=>by
   have hi:=(List.getElem?_eq_some_iff.1 hx).1
   have hn:=(hf x (List.mem_of_getElem? hx)).methods.len
   show zgj l _ _ (i:Int)=_
   unfold zgj
   rw [zfv hx,zuv hM hmp hL hx hn (x.Methods.length+2) (-1) (by omega) (by omega)]
   simp only [cond_true,Option.bind_some,zQ]
   unfold znB
   rw [zaa (by omega)]) (by
   show zgj l _ _ (l.length:Int)=_
   unfold zgj
   rw [zf1];rfl)]
  rfl
end
theorem ziM{s:List UInt8}{n:Nat}(h:wS s):wS (s.take n):=by
 have:(s.take n).length≤s.length:=by rw [List.length_take];omega
 exact Nat.le_trans this h
theorem zmb{α:Type}{W:α→Prop}{f:α→α}{l:List α}{n:Nat}(hf:∀x,W x→W (f x))(h:wL W l):wL W ((l.take n).map f):=by
 refine ⟨?_,fun y hy=>?_⟩
 ·have:((l.take n).map f).length≤l.length:=by rw [List.length_map,List.length_take];omega
  exact Nat.le_trans this h.1
 ·obtain ⟨x,hx,rfl⟩:=List.mem_map.1 hy
  exact hf x (h.2 x (List.mem_of_mem_take hx))
theorem wcS{n:Nat}{l:List (List UInt8)}(h:wL wS l):wL wS (zv5 n l):=zmb (fun _ h=>ziM h) h
theorem wcM{m:zb}(h:zg5 m):zg5 (zAf m):=by
 obtain ⟨h1,h2,h3,h4,h5,h6,h7,h8,h9,h10⟩:=h
 exact ⟨ziM h1,wcS h2,ziM h3,h4,h5,h6,h7,zmb (fun x h=>⟨h.1,h.2.1,ziM h.2.2.1,ziM h.2.2.2⟩) h8,zmb (fun x h=>⟨h.1,wcS h.2.1,wcS h.2.2⟩) h9,zmb (fun x h=>⟨h.1,h.2.1,h.2.2.1,ziM h.2.2.2⟩) h10⟩
theorem wcC{c:za}(h:zbl c):zbl (zyf c):=by
 obtain ⟨h1,h2,h3,h4,h5,h6⟩:=h
 exact ⟨ziM h1,ziM h2,h3,wcS h4,zmb (fun x h=>⟨ziM h.1,ziM h.2.1,h.2.2⟩) h5,zmb (fun x h=>wcM h) h6⟩
theorem wcA{l:List za}(h:wL zbl l):wL zbl (zBb l):=zmb (fun x h=>wcC h) h
theorem zB4{a:Int}{n:Nat}(ha:¬a<0)(hn:0<n):∃i:Nat,i<n∧zr1 a (n:Int)=some (i:Int):=by
 have h1:=Int.tmod_nonneg (n:Int) (show 0≤a by omega)
 have h2:=Int.tmod_lt_of_pos a (show (0:Int)<n by omega)
 refine ⟨(a.tmod n).toNat,by omega,?_⟩
 unfold zr1
 rw [if_neg (by omega),Int.toNat_of_nonneg h1]
theorem zBc{α:Type}{l:List α}{i:Nat}(h:i<l.length):idx l (i:Int)=some l[i]:=by
 rw [zB];exact List.getElem?_eq_getElem h
theorem zCe{α:Type}{l:List α}{a b:Int}(h1:0≤a)(h2:a≤b)(h3:b≤(l.length:Int)):∃r,zhs l a b=some r∧r.length≤l.length:=by
 unfold zhs
 rw [if_pos ⟨h1,h2,h3⟩]
 exact ⟨_,rfl,by rw [List.length_take,List.length_drop];omega⟩
theorem zBn{α:Type}{w:Nat}{l x:List α}(hw:w≤1000)(h:l.length+x.length≤100000):∃r,zfY w l x=some r∧r.length=l.length+x.length:=by
 unfold zfY
 have:(l.length+x.length)*w≤100000*1000:=Nat.mul_le_mul h hw
 rw [if_pos ⟨by omega,by omega⟩]
 exact ⟨_,rfl,by simp⟩
theorem zBu(a:Int):∃x i,zr1 a 8=some x∧zr1 (IntKind.i64.wrap (x+8)) 8=some i:=by
 have h1:a.tmod 8<8:=Int.tmod_lt_of_pos a (by decide)
 have h2:-8<a.tmod 8:=by
  have:=Int.tmod_lt_of_pos (-a) (show (0:Int)<8 by decide)
  rw [Int.neg_tmod] at this
  omega
 exact ⟨a.tmod 8,_,by unfold zr1;rw [if_neg (by decide)],by unfold zr1;rw [if_neg (by decide)]⟩
theorem zBF{α:Type}{l:List α}{i w:Nat}(hi:i<l.length)(hl:l.length≤10000)(hw:w≤1000){K:Option Bool}:((zhs l 0 (i:Int)).bind fun a=>(zhs l (IntKind.i64.wrap ((i:Int)+1)) (l.length:Int)).bind fun b=>(zfY w ([]:List α) a).bind fun c=>(zfY w c b).bind fun _=>K)=K:=by
 obtain ⟨a,h1,h2⟩:=zCe (l:=l) (a:=0) (b:=(i:Int)) (by omega) (by omega) (by omega)
 have hx:IntKind.i64.wrap ((i:Int)+1)=(i:Int)+1:=zjY (by omega) (by omega)
 obtain ⟨b,h3,h4⟩:=zCe (l:=l) (a:=(i:Int)+1) (b:=(l.length:Int)) (by omega) (by omega) (by omega)
 obtain ⟨c,h5,h6⟩:=zBn (w:=w) (l:=([]:List α)) (x:=a) hw (by simp;omega)
 obtain ⟨d,h7,h8⟩:=zBn (w:=w) (l:=c) (x:=b) hw (by simp at h6;omega)
 rw [h1,Option.bind_some,hx,h3,Option.bind_some,h5,Option.bind_some,h7,Option.bind_some]
section
variable {l : List za} {v2 v3 v4 : Int} {v5 : zw} {v6 : List UInt8}
theorem zB7(h:wL zbl l):zX l=some true:=by
 unfold zX
 rw [zh3,Option.bind_some,znA fun c hc=>(zpz h.2 c hc).fc]
 rfl
theorem zA5(h:wL zbl l):zf0 l v2 v3 v4 v5 v6=some true:=by
 have hj:=zB7 (wcA h)
 unfold zf0
 rw [zAb,zh3]
 simp only [Option.bind_some,Bool.not_true,cond_false,hj]
 have hA:∀c∈zBb l,∀m∈c.Methods,m.Code.length≤104∧m.Maps.length≤104:=fun c hc m hm=>by
  obtain ⟨c0,_,rfl⟩:=List.mem_map.1 hc
  obtain ⟨m0,_,rfl⟩:=List.mem_map.1 (show m∈(c0.Methods.take 10).map zAf from hm)
  exact ⟨by show ((m0.Code.take 104).map zCd).length≤104;rw [List.length_map,List.length_take];omega,by show ((m0.Maps.take 104).map ztx).length≤104;rw [List.length_map,List.length_take];omega⟩
 generalize zBb l=L at hA
 generalize hq:(((((List.length L:Int) == (0:Int))||(decide (v2<0)))||(decide (v3<0)))||(decide (10<(List.length v6:Int))))=q
 cases q with
 |true=>rfl
 |false =>
 simp only [Bool.or_eq_false_iff,decide_eq_false_iff_not,beq_eq_false_iff_ne] at hq
 obtain ⟨⟨⟨q1,q2⟩,q3⟩,_⟩:=hq
 obtain ⟨i,hi,e1⟩:=zB4 (n:=L.length) q2 (by omega)
 simp only [cond_false,e1,Option.bind_some,zBc hi]
 have hc:=hA _ (List.getElem_mem hi)
 generalize L[i]=c at hc
 generalize hq:((List.length c.Methods:Int) == (0:Int))=q
 cases q with
 |true=>rfl
 |false =>
 simp only [beq_eq_false_iff_ne] at hq
 obtain ⟨k,hk,e2⟩:=zB4 (n:=c.Methods.length) q3 (by omega)
 simp only [cond_false,e2,Option.bind_some,zBc hk]
 obtain ⟨m1,m2⟩:=hc _ (List.getElem_mem hk)
 generalize c.Methods[k]=m at m1 m2
 generalize hq:((List.length m.Code:Int) == (0:Int))=q
 cases q with
 |true=>rfl
 |false =>
 simp only [beq_eq_false_iff_ne] at hq
 obtain ⟨p,hp,e3⟩:=zB4 (n:=m.Code.length) q3 (by omega)
 obtain ⟨x8,i8,e4,e5⟩:=zBu v4
 simp only [cond_false,e3,e4,e5,Option.bind_some,zBc hp]
 cases (i8 == (0:Int)) with
 |true=>rfl
 |false =>
 simp only [cond_false]
 cases (i8 == (1:Int)) with
 |true =>
  simp only [cond_true]
  obtain ⟨a,h1,h2⟩:=zCe (l:=m.Code) (a:=0) (b:=(p:Int)) (by omega) (by omega) (by omega)
  obtain ⟨b,h3,h4⟩:=zCe (l:=m.Code) (a:=(p:Int)) (b:=(m.Code.length:Int)) (by omega) (by omega) (by omega)
  obtain ⟨d,h5,h6⟩:=zBn (w:=48) (l:=([]:List zw)) (x:=a) (by decide) (by simp;omega)
  obtain ⟨e,h7,h8⟩:=zBn (w:=48) (l:=d) (x:=[v5]) (by decide) (by simp at h6 ⊢;omega)
  obtain ⟨f,h9,_⟩:=zBn (w:=48) (l:=e) (x:=b) (by decide) (by simp at h6 h8;omega)
  rw [h1,Option.bind_some,h3,Option.bind_some,h5,Option.bind_some,h7,Option.bind_some,h9,Option.bind_some]
 |false =>
 simp only [cond_false]
 cases (i8 == (2:Int)) with
 |true =>
  simp only [cond_true]
  exact zBF hp (by omega) (by decide)
 |false =>
 simp only [cond_false]
 cases (i8 == (3:Int)) with
 |true=>rfl
 |false =>
 simp only [cond_false]
 have maps:∀K:Int→Option Bool,(∀q:Nat,q<m.Maps.length→K (q:Int)=some true)→cond (decide (0<(List.length m.Maps:Int))) ((zr1 v3 (List.length m.Maps:Int)).bind K) (some true)=some true:=fun K hK=>by
  by_cases hn:0<m.Maps.length
  ·obtain ⟨q,hq,e6⟩:=zB4 (n:=m.Maps.length) q3 hn
   rw [show decide (0<(List.length m.Maps:Int))=true from decide_eq_true (by omega),cond_true,e6,Option.bind_some]
   exact hK q hq
  ·rw [show decide (0<(List.length m.Maps:Int))=false from decide_eq_false (by omega)]
   rfl
 cases (i8 == (4:Int)) with
 |true =>
  simp only [cond_true]
  exact maps _ fun q hq=>zBF hq (by omega) (by decide)
 |false =>
 simp only [cond_false]
 cases (i8 == (5:Int)) with
 |true =>
  simp only [cond_true]
  refine maps _ fun q hq=>?_
  simp only [zBc hq,Option.bind_some]
  generalize m.Maps[q]=mp
  by_cases hn:0<mp.Locals.length
  ·obtain ⟨z,hz,e6⟩:=zB4 (n:=mp.Locals.length) q3 hn
   rw [show decide (0<(List.length mp.Locals:Int))=true from decide_eq_true (by omega),cond_true,e6,Option.bind_some,zBc hz]
   rfl
  ·rw [show decide (0<(List.length mp.Locals:Int))=false from decide_eq_false (by omega)]
   rfl
 |false =>
 simp only [cond_false]
 cases (i8 == (6:Int)) with
 |true =>
  simp only [cond_true]
  refine maps _ fun q hq=>?_
  rw [zBc hq]
  rfl
 |false=>rfl
end
theorem zpc(l:List za)(v2 v3 v4:Int)(v5:zw)(v6:List UInt8)(h:wL zbl l)(_:wI .i64 v2)(_:wI .i64 v3)(_:wI .i64 v4)(hx:zhB v5)(hs:wS v6):
  zvA Tryz.prog 6 [.isl 6 (List.map zc l),iA v2,iA v3,iA v4,.agg (zi v5),sA v6]:=
 zlU l v2 v3 v4 v5 v6 (zA5 h) (fun v8 e=>by rw [zh3] at e;cases e;exact wcA h) (fun v8 e c hc m hm p hp=>by
  rw [zh3] at e
  cases e
  obtain ⟨c0,_,rfl⟩:=List.mem_map.1 hc
  obtain ⟨m0,_,rfl⟩:=List.mem_map.1 (show m∈(c0.Methods.take 10).map zAf from hm)
  obtain ⟨p0,_,rfl⟩:=List.mem_map.1 (show p∈(m0.Maps.take 104).map ztx from hp)
  show (zv5 20 p0.Stack).length≤_
  unfold zv5
  rw [List.length_map,List.length_take]
  omega) hx hs fun cs hcs=>⟨_,zh3 cs,znA fun c hc=>(zpz hcs.2 c hc).fc⟩

end
end Go.Proofs.YthmnlfenkhmmhaaGreat
