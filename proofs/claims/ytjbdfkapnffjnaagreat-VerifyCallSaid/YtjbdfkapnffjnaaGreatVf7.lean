/- What the proofs of this seat's laws rest on: how the program's functions compute, each for every input. No further condition. Part 7 of 8. -/
import Derived.Test.YtjbdfkapnffjnaaGreatVf6
namespace Go.Proofs.YtjbdfkapnffjnaaGreat
noncomputable section
open List (length map)
set_option linter.unusedSimpArgs false
set_option linter.unusedVariables false
theorem zn7{α:Type}(p:α→Bool)(l:List α):idx l (ixF p 0 l)=l.find? p:=by
 rcases zpy p l 0 with ⟨j,x,h1,h2,h3,h4⟩ |⟨h1,h2⟩
 ·rw [h1,h4,zD,Nat.zero_add,h2]
 ·rw [h1,h2];rfl
theorem zl8{α:Type}(p:α→Bool)(l:List α):decide (0≤ixF p 0 l)=(l.find? p).isSome:=by
 rw [zha,Bool.eq_iff_iff,List.any_eq_true,List.find?_isSome]
def zF:zt:=zt.mk [] [] false
def zM:zc:=zc.mk [] [] [] false false 0 0 [] [] []
abbrev FR:=List UInt8×zt×Bool
abbrev MR:=List UInt8×zc×Bool
def zyD(L:List za)(n s:Tx):Option FR:=match cl L s with |some x=>(match x.Fields.find? (fun y=>y.Name == n) with |some f=>some (s,f,true) |none=>none) |none=>none
def zrD(L:List za)(may:zc→Bool)(n s:Tx):Option MR:=match cl L s with |some x=>(match x.Methods.find? (fun y=>y.Name == n) with |some f=>cond (may f) (some (s,f,true)) none |none=>none) |none=>none
theorem ziW{R:Type}(o:Option R)(z:R):(some (zpr () o):Option (Sum Unit R)).bind (fun o=>zU o (fun _=>some z) some)=some (o.getD z):=by cases o <;> rfl
section
variable {l L : List za} {m : List (Tx × Int)}
theorem zjO(hm:zdz L m)(n:Tx):zaQ L m n=some (match cl L n with |some c=>(c,true) |none=>(zC,false)):=zuo hm n
def zte(L:List za):Prop:=∀c∈L,zkg c.Fields∧zkg c.Methods
theorem zBb(h:∀c∈L,zmm c):zte L:=fun c hc=>⟨(h c hc).fields.le,(h c hc).methods.le⟩
theorem zyV(h:ze0 l L)(hm:zdz L m)(hL:zte L)(c n:Tx):zhK L m c n=some (((zgX L c).findSome? (zyD L n)).getD ([],zF,false)):=by
 have h26:=zg7 h c
 unfold zhK
 rw [zlY h hm]
 simp only [Option.bind_some]
 rw [show zw (fun z=>zdb L m n (zgX L c) z) 0=some (zpr () ((zgX L c).findSome? (zyD L n))) from zeR (fun i s hs=>by
  have hi:=(List.getElem?_eq_some_iff.1 hs).1
  obtain ⟨x,hx⟩:=zgC (zkV h _ c s (List.mem_of_getElem? hs)).1
  show zdb L m n (zgX L c) (i:Int)=_
  unfold zdb
  rw [zgm hs,zD,hs]
  simp only [cond_true,Option.bind_some]
  rw [zjO hm,hx]
  simp only [Option.bind_some]
  rw [zp8 (hL x (zcX hx).1).1]
  simp only [Option.bind_some]
  rw [zl8,zn7,zaz (by omega)]
  unfold zyD
  rw [hx]
  show _=some (zul i (match x.Fields.find? (fun y=>y.Name == n) with |some f=>some (s,f,true) |none=>none))
  cases x.Fields.find? (fun y=>y.Name == n) <;> rfl) (by
  show zdb L m n (zgX L c) ((zgX L c).length:Int)=_
  unfold zdb
  rw [zg2];rfl)]
 exact ziW _ _
theorem zsU(h:ze0 l L)(hL:zte L)(c n:Tx):zf5 L c n=some (((zgX L c).findSome? (zyD L n)).getD ([],zF,false)):=by
 have h26:=zg7 h c
 have hl:=h.len
 unfold zf5
 rw [zhT h]
 simp only [Option.bind_some]
 rw [show zw (fun z=>zcr L n (zgX L c) z) 0=some (zpr () ((zgX L c).findSome? (zyD L n))) from zeR (fun i s hs=>by
  have hi:=(List.getElem?_eq_some_iff.1 hs).1
  obtain ⟨x,hx⟩:=zgC (zkV h _ c s (List.mem_of_getElem? hs)).1
  show zcr L n (zgX L c) (i:Int)=_
  unfold zcr
  rw [zgm hs,zD,hs]
  simp only [cond_true,Option.bind_some]
  rw [zjN (by omega)]
  simp only [Option.bind_some]
  rw [zmL hx]
  simp only [Option.bind_some]
  rw [znB (hL x (zcX hx).1).1]
  simp only [Option.bind_some]
  rw [zl8,zn7,zaz (by omega)]
  unfold zyD
  rw [hx]
  show _=some (zul i (match x.Fields.find? (fun y=>y.Name == n) with |some f=>some (s,f,true) |none=>none))
  cases x.Fields.find? (fun y=>y.Name == n) <;> rfl) (by
  show zcr L n (zgX L c) ((zgX L c).length:Int)=_
  unfold zcr
  rw [zg2];rfl)]
 exact ziW _ _
theorem zuL(h:ze0 l L)(hm:zdz L m)(hL:zte L){may:zc→Bool}{T:List Tx}(hT:T.length≤1000)(n:Tx){body:Int→Option (Sum Int (Sum Unit MR))}
  (hT2:∀s∈T,zda L s=true)
  (hb:∀(i:Nat) s x,T[i]?=some s→cl L s=some x→body (i:Int)=((zfR x n).bind fun v15=>(cond (decide (0≤v15)) ((idx x.Methods v15).bind fun v16=>some (may v16)) (some false)).bind fun v17=>cond v17 ((idx x.Methods v15).bind fun v18=>some (.inr (.inr (s,v18,true)))) (some (.inl (IntKind.i64.wrap ((i:Int)+1))))))
  (he:body (T.length:Int)=some (.inr (.inl ()))):zw body 0=some (zpr () (T.findSome? (zrD L may n))):=by
 refine zeR (fun i s hs=>?_) he
 have hi:=(List.getElem?_eq_some_iff.1 hs).1
 obtain ⟨x,hx⟩:=zgC (hT2 s (List.mem_of_getElem? hs))
 rw [hb i s x hs hx,zpm (hL x (zcX hx).1).2]
 simp only [Option.bind_some]
 rw [zl8,zn7,zaz (by omega)]
 unfold zrD
 rw [hx]
 show _=some (zul i (match x.Methods.find? (fun y=>y.Name == n) with |some f=>cond (may f) (some (s,f,true)) none |none=>none))
 cases x.Methods.find? (fun y=>y.Name == n) with
 |none=>rfl
 |some f =>
  simp only [Option.isSome_some,cond_true,Option.bind_some]
  cases may f <;> rfl
theorem zyX(h:ze0 l L)(hm:zdz L m)(hL:zte L){T:List Tx}(hT:T.length≤1000)(hT2:∀s∈T,zda L s=true)(n:Tx):ziu L m T n=some ((T.findSome? (zrD L zcA n)).getD ([],zM,false)):=by
 unfold ziu
 rw [show zw (fun z=>zdE L m T n z) 0=some (zpr () (T.findSome? (zrD L zcA n))) from zuL h hm hL hT n hT2 (fun i s x hs hx=>by
  show zdE L m T n (i:Int)=_
  unfold zdE
  rw [zgm hs,zD,hs]
  simp only [cond_true,Option.bind_some]
  rw [zjO hm,hx];rfl) (by
  show zdE L m T n (T.length:Int)=_
  unfold zdE
  rw [zg2];rfl)]
 exact ziW _ _
theorem zyY(h:ze0 l L)(hm:zdz L m)(hL:zte L){T:List Tx}(hT:T.length≤1000)(hT2:∀s∈T,zda L s=true)(n:Tx):ziv L m T n=some ((T.findSome? (zrD L zfd n)).getD ([],zM,false)):=by
 unfold ziv
 rw [show zw (fun z=>zdF L m T n z) 0=some (zpr () (T.findSome? (zrD L zfd n))) from zuL h hm hL hT n hT2 (fun i s x hs hx=>by
  show zdF L m T n (i:Int)=_
  unfold zdF
  rw [zgm hs,zD,hs]
  simp only [cond_true,Option.bind_some]
  rw [zjO hm,hx];rfl) (by
  show zdF L m T n (T.length:Int)=_
  unfold zdF
  rw [zg2];rfl)]
 exact ziW _ _
theorem zs5(h:ze0 l L)(c:Tx):∀s∈zgX L c,zda L s=true:=fun s hs=>(zkV h _ c s hs).1
theorem zsB(h:ze0 l L)(hm:zdz L m)(hL:zte L)(c n:Tx):zgM L m c n=some (((zgX L c).findSome? (zrD L zcA n)).getD ([],zM,false)):=by
 have h26:=zg7 h c
 unfold zgM
 rw [zlY h hm]
 simp only [Option.bind_some]
 rw [zyX h hm hL (by omega) (zs5 h c)];rfl
theorem zrS(h:ze0 l L)(hL:zte L)(c n:Tx):zfs L c n=some (((zgX L c).findSome? (zrD L zcA n)).getD ([],zM,false)):=by
 have h26:=zg7 h c
 have hl:=h.len
 unfold zfs
 rw [zhT h]
 simp only [Option.bind_some]
 rw [show zw (fun z=>zcc L n (zgX L c) z) 0=some (zpr () ((zgX L c).findSome? (zrD L zcA n))) from zeR (fun i s hs=>by
  have hi:=(List.getElem?_eq_some_iff.1 hs).1
  obtain ⟨x,hx⟩:=zgC (zs5 h c s (List.mem_of_getElem? hs))
  show zcc L n (zgX L c) (i:Int)=_
  unfold zcc
  rw [zgm hs,zD,hs]
  simp only [cond_true,Option.bind_some]
  rw [zjN (by omega)]
  simp only [Option.bind_some]
  rw [zmL hx]
  simp only [Option.bind_some]
  rw [zjJ (hL x (zcX hx).1).2]
  simp only [Option.bind_some]
  rw [zl8,zn7,zaz (by omega)]
  unfold zrD
  rw [hx]
  show _=some (zul i (match x.Methods.find? (fun y=>y.Name == n) with |some f=>cond (zcA f) (some (s,f,true)) none |none=>none))
  cases hf:x.Methods.find? (fun y=>y.Name == n) with
  |none=>rfl
  |some f =>
   have e:f.Name=n:=by have:=List.find?_some hf;simpa using this
   simp only [zcA,Option.isSome_some,Bool.true_and,Option.bind_some,e]
   cases (n == [36,105,110,105,116]) <;> rfl) (by
  show zcc L n (zgX L c) ((zgX L c).length:Int)=_
  unfold zcc
  rw [zg2];rfl)]
 exact ziW _ _
def zoR(L:List za)(c n:Tx):MR:=cond (isF L c) (((c ::ze4 L c).findSome? (zrD L zfd n)).getD ([],zM,false)) ([],zM,false)
theorem zxd{c:Tx}(h:isF L c=true):zda L c=true:=by
 unfold isF at h
 cases hc:cl L c with
 |none=>rw [hc] at h;cases h
 |some x=>exact zhq hc
theorem zAT(h:ze0 l L)(hm:zdz L m)(hL:zte L)(c n:Tx):zit L m c n=some (zoR L c n):=by
 have h52:=zni h c
 unfold zit zoR
 rw [zjO hm]
 have e:isF L c=(match cl L c with |some c=>(c,true) |none=>(zC,false)).1.Interface:=by
  unfold isF
  cases cl L c <;> rfl
 cases hF:isF L c with
 |false =>
  rw [hF] at e
  simp only [Option.bind_some]
  rw [←e];rfl
 |true =>
  rw [hF] at e
  simp only [Option.bind_some]
  rw [←e]
  simp only [Bool.not_true,cond_false]
  rw [zsl h hm]
  simp only [Option.bind_some]
  rw [zdm (by simp;omega) (by simp;omega)]
  simp only [Option.bind_some]
  rw [zyY h hm hL (by simp;omega) (fun s hs=>by
   rcases List.mem_cons.1 (show s∈c ::ze4 L c from hs) with e |e
   ·rw [e];exact zxd hF
   ·exact znh h e)]
  rfl
theorem zt0(h:ze0 l L)(hL:zte L)(c n:Tx):zgP L c n=some (zoR L c n):=by
 have h52:=zni h c
 have hl:=h.len
 unfold zgP zoR
 rw [zjN (by omega)]
 simp only [Option.bind_some]
 rw [zot,znk]
 have e:(cond (!zda L c) (some true) ((cl L c).bind fun v5=>some (!v5.Interface)))=some (!isF L c):=by
  unfold isF
  cases hc:cl L c with
  |none=>rw [zmH hc];rfl
  |some x=>rw [zhq hc];rfl
 rw [e]
 simp only [Option.bind_some]
 cases hF:isF L c with
 |false=>rfl
 |true =>
  simp only [Bool.not_true,cond_false,cond_true]
  rw [zoH h]
  simp only [Option.bind_some]
  rw [zdm (by simp;omega) (by simp;omega)]
  simp only [Option.bind_some]
  rw [show zw (fun z=>zcO L n ([c]++ze4 L c) z) 0=some (zpr () ((c ::ze4 L c).findSome? (zrD L zfd n))) from zeR (l:=c ::ze4 L c) (fun i s hs=>by
   have hi:=(List.getElem?_eq_some_iff.1 hs).1
   simp only [List.length_cons] at hi
   have hsh:zda L s=true:=by
    rcases List.mem_cons.1 (List.mem_of_getElem? hs) with e |e
    ·rw [e];exact zxd hF
    ·exact znh h e
   obtain ⟨x,hx⟩:=zgC hsh
   show zcO L n (c ::ze4 L c) (i:Int)=_
   unfold zcO
   rw [zgm hs,zD,hs]
   simp only [cond_true,Option.bind_some]
   rw [zjN (by omega)]
   simp only [Option.bind_some]
   rw [zmL hx]
   simp only [Option.bind_some]
   rw [zjJ (hL x (zcX hx).1).2]
   simp only [Option.bind_some]
   rw [zl8,zn7,zaz (by omega)]
   unfold zrD zfd
   rw [hx]
   show _=some (zul i (match x.Methods.find? (fun y=>y.Name == n) with |some f=>cond true (some (s,f,true)) none |none=>none))
   cases x.Methods.find? (fun y=>y.Name == n) <;> rfl) (by
   show zcO L n (c ::ze4 L c) ((c ::ze4 L c).length:Int)=_
   unfold zcO
   rw [zg2];rfl)]
  exact ziW _ _
theorem ztl(h:ze0 l L){x:za}(hx:x∈L){f:zc}(hf:f∈x.Methods):f.Abstract=x.Interface:=by
 rw [h.app] at hx
 rcases List.mem_append.1 hx with e |e
 ·have hg:giv.all (fun c=>decide (c.Methods.length=0))=true:=by decide +kernel
  have:=of_decide_eq_true (List.all_eq_true.1 hg x e)
  rw [List.eq_nil_of_length_eq_zero this] at hf;cases hf
 ·have:=h.may x e
  unfold zqQ at this
  simp only [Bool.and_eq_true,Bool.not_eq_true',decide_eq_true_eq] at this
  have h2:=ztb this.2.2.1 f hf
  rw [Bool.and_eq_true,beq_iff_eq] at h2
  exact h2.1
end
section
variable {l L : List za} {m : List (Tx × Int)}
def zr0(L:List za)(t:Tx):Bool:=((t == [78])||(t == [84]))||thN L t
def zxP(L:List za)(t:Tx):Bool:=!(t == [73])&&thN L t
def zmv(L:List za)(a b:Tx):Bool:=
 (zr0 L a&&zr0 L b)&&cond ((b == [84])||(a == b)) true (cond (a == [78]) (zxP L b) ((zxP L a&&zxP L b)&&(isF L b||zt9 L a b)))
theorem zo7(t:Tx):zt9 L t t=thN L t:=by
 rw [zua]
 simp
theorem zBf:zfq [78]=false:=by decide +kernel
theorem zBg:zfq [84]=false:=by decide +kernel
theorem zDd:thN L [78]=false:=by unfold thN;rw [zBf];rfl
theorem zDp:thN L [84]=false:=by unfold thN;rw [zBg];rfl
theorem zon(h:ze0 l L)(hm:zdz L m){t:Tx}(ht:t.length≤25):zdy L m t=some (zr0 L t):=by
 unfold zdy zr0
 rw [zom h hm ht (by unfold Len;omega),zo7]
 cases ((t == [78])||(t == [84])) <;> rfl
theorem zxQ(h:ze0 l L)(hm:zdz L m){t:Tx}(ht:t.length≤25):zgl L m t=some (zxP L t):=by
 unfold zgl zxP
 rw [zom h hm ht (by unfold Len;omega),zo7]
 cases (t == [73]) <;> rfl
theorem zxc(b:Tx):isF L b=(match cl L b with |some c=>(c,true) |none=>(zC,false)).1.Interface:=by
 unfold isF
 cases cl L b <;> rfl
theorem zo0(h:ze0 l L)(hm:zdz L m){a b:Tx}(ha:a.length≤25)(hb:b.length≤25):zeF L m a b=some (zmv L a b):=by
 unfold zeF zmv
 rw [zon h hm ha,zon h hm hb,zxQ h hm ha,zxQ h hm hb,zom h hm ha (by unfold Len;omega)]
 have e:zaQ L m b=some (match cl L b with |some c=>(c,true) |none=>(zC,false)):=zuo hm b
 rw [e]
 simp only [Option.bind_some]
 rw [←zxc]
 cases zr0 L a <;> cases zr0 L b <;> cases ((b == [84])||(a == b)) <;> cases (a == [78]) <;> cases zxP L a <;> cases zxP L b <;> cases isF L b <;> rfl
theorem zk2{a b:Tx}(h:a≠b):(a == b)=false:=beq_eq_false_iff_ne.2 h
theorem zwW(a b:Tx):zmv L a b=cond (b == [84]) (((a == [84])||(a == [78]))||thN L a) (cond (a == [78]) ((b == [78])||(!(b == [73])&&thN L b)) (cond (a == b) (thN L a)
  (cond (((a == [73])||(b == [73]))||!thN L a) false (cond (!thN L b) false (isF L b||zt9 L a b))))):=by
 unfold zmv
 by_cases hbT:b=[84]
 ·subst hbT
  unfold zr0
  cases (a == [84]) <;> cases (a == [78]) <;> cases thN L a <;> simp
 ·rw [zk2 hbT]
  by_cases haN:a=[78]
  ·subst haN
   by_cases hbN:b=[78]
   ·subst hbN
    unfold zr0
    simp
   ·have e:(([78]:Tx) == b)=false:=zk2 (Ne.symm hbN)
    unfold zr0 zxP
    rw [e,zk2 hbN,zk2 hbT,zDd]
    cases (b == [73]) <;> cases thN L b <;> simp
  ·rw [zk2 haN]
   by_cases hab:a=b
   ·subst hab
    unfold zr0
    rw [zk2 haN,zk2 hbT]
    cases thN L a <;> simp
   ·rw [zk2 hab]
    by_cases haT:a=[84]
    ·subst haT
     unfold zxP
     rw [zDp]
     simp
    ·by_cases hbN:b=[78]
     ·subst hbN
      unfold zxP
      rw [zDd]
      simp
     ·unfold zr0 zxP
      rw [zk2 haN,zk2 haT,zk2 hbN,zk2 hbT]
      cases (a == [73]) <;> cases (b == [73]) <;> cases thN L a <;> cases thN L b <;> simp
theorem zhx(h:ze0 l L){a b:Tx}(ha:a.length≤25)(hb:b.length≤25):zbM L a b=some (zmv L a b):=by
 have h26:=h.len
 rw [zwW]
 unfold zbM
 rw [zd8 h (by omega),zd8 h (by omega),zjN (by omega),zqT h ha (by omega)]
 simp only [Option.bind_some]
 have e:(cond (decide (0≤atN L b)) ((idx L (atN L b)).bind fun v15=>some v15.Interface) (some false))=some (isF L b):=by
  rw [zpe,znk]
  unfold isF
  cases hc:cl L b with
  |none=>rw [zmH hc];rfl
  |some c=>rw [zhq hc];rfl
 rw [e]
 simp only [Option.bind_some]
 cases (b == [84]) <;> cases (a == [84]) <;> cases (a == [78]) <;> cases (b == [78]) <;> cases (a == [73]) <;> cases (b == [73]) <;> cases (a == b) <;> cases thN L a <;> cases thN L b <;> cases isF L b <;> rfl
end
def ShL(l:List Tx):Prop:=l.length≤100∧∀t∈l,t.length≤25
theorem ShL.add{l:List Tx}{t:Tx}(h:l.length≤99∧∀t∈l,t.length≤25)(ht:t.length≤25):ShL (l++[t]):=
 ⟨by simp;omega,fun x hx=>by
  rcases List.mem_append.1 hx with h1 |h1
  ·exact h.2 x h1
  ·rw [List.mem_singleton.1 h1];exact ht⟩
theorem ShL.drop{l:List Tx}(h:ShL l):ShL l.dropLast:=⟨by rw [List.length_dropLast];have:=h.1;omega,fun x hx=>h.2 x (List.dropLast_subset l hx)⟩
def zb2(e:Tx)(s:List Tx)(b:Bool):Tx×List Tx×Bool:=match s.getLast? with |some t=>(t,s.dropLast,b) |none=>(e,s,true)
theorem zkH(e:Tx)(s:List Tx)(t:Tx)(b:Bool):zb2 e (s++[t]) b=(t,s,b):=by simp [zb2]
theorem zh9(s:List Tx):s=[]∨∃r t,s=r++[t]:=by
 rcases List.eq_nil_or_concat s with h |⟨r,t,h⟩
 ·exact .inl h
 ·exact .inr ⟨r,t,by simpa using h⟩
theorem zd3{e:Tx}{s:List Tx}{b:Bool}(h:ShL s)(he:e.length≤25):(zb2 e s b).1.length≤25∧ShL (zb2 e s b).2.1:=by
 rcases zh9 s with rfl |⟨r,t,rfl⟩
 ·exact ⟨he,h⟩
 ·rw [zkH]
  refine ⟨h.2 t (by simp),⟨?_,fun x hx=>h.2 x (by simp [hx])⟩⟩
  have:=h.1;simp at this;show r.length≤100;omega
theorem zg3{e:Tx}{s:List Tx}{b:Bool}(h:b=true):(zb2 e s b).2.2=true:=by
 unfold zb2;split <;> simp [h]
section
variable {l L : List za} {m : List (Tx × Int)} {c : Tx} {mt : zc} {loc stk : List Tx} {b : Bool}
theorem zmw(hs:stk.length≤1000):zag L m c mt loc stk b=some (zb2 [84] stk b):=by
 unfold zag
 rcases zh9 stk with rfl |⟨r,t,rfl⟩
 ·rfl
 ·have hl:((r++[t]).length:Int)=(r.length:Int)+1:=by simp
  have h0:(((r++[t]).length:Int) == 0)=false:=beq_eq_false_iff_ne.2 (by omega)
  have hw:IntKind.i64.wrap (((r++[t]).length:Int)-1)=(r.length:Int):=by
   rw [hl,zld (by omega) (by simp at hs;omega)];omega
  rw [h0,hw,zkH,zD]
  have h1:(r++[t])[r.length]?=some t:=by simp
  have h2:zkh (r++[t]) 0 (r.length:Int)=some r:=by
   unfold zkh
   rw [if_pos ⟨by omega,by omega,by omega⟩]
   simp
  rw [h1,h2]
  rfl
theorem zeJ{t:Tx}(hs:stk.length≤1000):zB L m c mt loc stk b t=some (stk++[t]):=by
 unfold zB zh2
 rw [if_pos (by simp;omega)]
 rfl
theorem zrc{x:List Tx}(hs:x.length≤1000):zng x=some x:=by
 unfold zng zh2
 rw [if_pos (by simp;omega)]
 rfl
def zai(L:List za)(e:Tx):List Tx→List Tx→Bool→List Tx×Bool
 | [],s,b=>(s,b)
 |w ::r,s,b=>zai L e r (zb2 e s b).2.1 ((zb2 e s b).2.2||!zmv L (zb2 e s b).1 w)
theorem zd4{e:Tx}(he:e.length≤25):∀(ts s:List Tx) (b:Bool),ShL s→ShL (zai L e ts s b).1:=by
 intro ts
 induction ts with
 |nil=>intro s b h;exact h
 |cons w r ih=>intro s b h;exact ih _ _ (zd3 h he).2
theorem zbK{e:Tx}:∀(ts s:List Tx) (b:Bool),b=true→(zai L e ts s b).2=true:=by
 intro ts
 induction ts with
 |nil=>intro s b h;exact h
 |cons w r ih=>intro s b h;exact ih _ _ (by rw [zg3 h];rfl)
theorem zBz(h:ze0 l L)(hm:zdz L m){ts:List Tx}(ht:ShL ts):∀(k:Nat),k≤ts.length→∀(s:List Tx) (b:Bool),ShL s →
  zw (fun z=>zaq L m c mt loc ts z.1 z.2.1 z.2.2) (s,b,(k:Int)-1)=some (.inl (zai L [84] (ts.take k).reverse s b)):=by
 intro k
 induction k with
 |zero =>
  intro _ s b hs
  rw [zN]
  show (zaq L m c mt loc ts s b (((0:Nat):Int)-1)).bind _=_
  unfold zaq
  rw [decide_eq_false (by omega)]
  rfl
 |succ k ih =>
  intro hk s b hs
  rw [zN]
  show (zaq L m c mt loc ts s b (((k+1:Nat):Int)-1)).bind _=_
  have e1:(((k+1:Nat):Int)-1)=(k:Int):=by omega
  have hlt:k<ts.length:=by omega
  obtain ⟨h1,h2⟩:=zd3 (b:=b) hs (e:=[84]) (by decide)
  have hw:IntKind.i64.wrap ((k:Int)-1)=(k:Int)-1:=zld (by omega) (by have:=ht.1;omega)
  have step:zaq L m c mt loc ts s b (((k+1:Nat):Int)-1)=some (.inl ((zb2 [84] s b).2.1,(zb2 [84] s b).2.2||!zmv L (zb2 [84] s b).1 ts[k],(k:Int)-1)):=by
   unfold zaq
   rw [e1,decide_eq_true (by omega),zD,List.getElem?_eq_getElem hlt,zmw (by have:=hs.1;omega)]
   simp only [cond_true,Option.bind_some]
   rw [zo0 h hm h1 (ht.2 _ (List.getElem_mem hlt)),hw]
   rfl
  rw [step]
  simp only [Option.bind_some,Sum.elim_inl]
  rw [show zw (fun z=>zaq L m c mt loc ts z.1 z.2.1 z.2.2) ((zb2 [84] s b).2.1,(zb2 [84] s b).2.2||!zmv L (zb2 [84] s b).1 ts[k],(k:Int)-1)=_ from ih (by omega) _ _ h2]
  have e2:(ts.take (k+1)).reverse=ts[k]::(ts.take k).reverse:=by
   rw [List.take_add_one,List.getElem?_eq_getElem hlt];simp
  rw [e2]
  rfl
theorem zfl(h:ze0 l L)(hm:zdz L m){ts:List Tx}(ht:ShL ts)(hs:ShL stk):zH L m c mt loc stk b ts=some (zai L [84] ts.reverse stk b):=by
 unfold zH
 have hw:IntKind.i64.wrap ((ts.length:Int)-1)=(ts.length:Int)-1:=zld (by omega) (by have:=ht.1;omega)
 rw [hw,show zw (fun z=>zaq L m c mt loc ts z.1 z.2.1 z.2.2) (stk,b,(ts.length:Int)-1)=_ from zBz h hm ht ts.length (Nat.le_refl _) stk b hs,List.take_length]
 rfl
end
theorem sh1{t:Tx}(h:t.length≤25):ShL [t]:=⟨by simp,fun x hx=>by rw [List.mem_singleton.1 hx];exact h⟩
theorem sh2{t u:Tx}(h:t.length≤25)(k:u.length≤25):ShL [t,u]:=⟨by simp,fun x hx=>by
 rcases List.mem_cons.1 hx with rfl |hx
 ·exact h
 ·rw [List.mem_singleton.1 hx];exact k⟩
theorem sh3{t u v:Tx}(h:t.length≤25)(k:u.length≤25)(j:v.length≤25):ShL [t,u,v]:=⟨by simp,fun x hx=>by
 rcases List.mem_cons.1 hx with rfl |hx
 ·exact h
 ·exact (sh2 k j).2 x hx⟩
theorem ShL.len{l:List Tx}(h:ShL l):l.length≤1000:=by have:=h.1;omega
theorem zt8{t:Tx}(h:t.length≤25):Len t:=by
 show t.length≤9223372036854775807
 omega
section
variable {l L : List za} {m : List (Tx × Int)} {c : Tx} {mt : zc} {loc stk : List Tx} {b : Bool}
def zhw(e:Tx)(s:List Tx)(b:Bool):Tx×List Tx×Bool:=
 ((zb2 e s b).1,(zb2 e s b).2.1,(zb2 e s b).2.2||!(((zb2 e s b).1 == [78])||zo6 (zb2 e s b).1))
theorem zrR{e:Tx}{s:List Tx}{b:Bool}(h:ShL s)(he:e.length≤25):(zhw e s b).1.length≤25∧ShL (zhw e s b).2.1:=zd3 h he
theorem zqS(hs:ShL stk):zb1 L m c mt loc stk b=some (zhw [84] stk b):=by
 unfold zb1 zhw
 obtain ⟨h1,h2⟩:=zd3 (b:=b) hs (e:=[84]) (by decide)
 rw [zmw hs.len]
 simp only [Option.bind_some]
 rw [zkB (zt8 h1)]
 cases (zb2 [84] stk b).1 == [78] <;> rfl
def zki(e:Tx)(s:List Tx)(b:Bool):Tx×List Tx×Bool:=
 (cond ((zb2 e s b).1 == [78]) (zb2 e s b).1 (zh1 (zb2 e s b).1).1,(zb2 e s b).2.1,(zb2 e s b).2.2||!(((zb2 e s b).1 == [78])||((zh1 (zb2 e s b).1).2&&!((zh1 (zb2 e s b).1).1 == [73]))))
theorem zwP{t:Tx}(h:t.length≤25):(zh1 t).1.length≤25:=by
 unfold zh1
 cases zfq t&&brk t
 ·exact Nat.zero_le _
 ·show (t.drop 1).length≤25
  simp;omega
theorem ztp{e:Tx}{s:List Tx}{b:Bool}(h:ShL s)(he:e.length≤25):(zki e s b).1.length≤25∧ShL (zki e s b).2.1:=by
 obtain ⟨h1,h2⟩:=zd3 (b:=b) h he
 refine ⟨?_,h2⟩
 unfold zki
 cases (zb2 e s b).1 == [78]
 ·exact zwP h1
 ·exact h1
theorem zuk(hs:ShL stk):zc7 L m c mt loc stk b=some (zki [84] stk b):=by
 unfold zc7 zki
 obtain ⟨h1,h2⟩:=zd3 (b:=b) hs (e:=[84]) (by decide)
 rw [zmw hs.len]
 simp only [Option.bind_some]
 rw [zhr (zt8 h1)]
 cases (zb2 [84] stk b).1 == [78] <;> rfl
theorem zj4(e f:Tx)(s:List Tx)(b:Bool):(zb2 e s b).2=(zb2 f s b).2:=by
 unfold zb2;split <;> rfl
theorem zeS(e f:Tx)(s:List Tx)(b:Bool)(h:(zb2 e s b).2.2=false):(zb2 e s b).1=(zb2 f s b).1:=by
 unfold zb2 at h ⊢
 split
 ·rfl
 ·rename_i hq;rw [hq] at h;cases h
theorem zpN{a p q:Bool}(h:a=false→p=q):(a||p)=(a||q):=by
 cases a
 ·rw [h rfl]
 ·rfl
theorem zeL(e f:Tx):∀(ts s:List Tx) (b:Bool),zai L e ts s b=zai L f ts s b:=by
 intro ts
 induction ts with
 |nil=>intro s b;rfl
 |cons w r ih =>
  intro s b
  show zai L e r (zb2 e s b).2.1 ((zb2 e s b).2.2||!zmv L (zb2 e s b).1 w)=zai L f r (zb2 f s b).2.1 ((zb2 f s b).2.2||!zmv L (zb2 f s b).1 w)
  rw [ih,←zj4 e f s b,zpN (fun h=>by rw [zeS e f s b h])]
theorem zAs(e f:Tx)(s:List Tx)(b:Bool):(zhw e s b).2=(zhw f s b).2:=by
 unfold zhw
 rw [←zj4 e f s b,zpN (fun h=>by rw [zeS e f s b h])]
theorem zvZ(e f:Tx)(s:List Tx)(b:Bool)(h:(zhw e s b).2.2=false):(zhw e s b).1=(zhw f s b).1:=
 zeS e f s b (by unfold zhw at h;simp only [Bool.or_eq_false_iff] at h;exact h.1)
theorem zz0(e f:Tx)(s:List Tx)(b:Bool):(zki e s b).2=(zki f s b).2:=by
 unfold zki
 rw [←zj4 e f s b,zpN (fun h=>by rw [zeS e f s b h])]
theorem zvr(e f:Tx)(s:List Tx)(b:Bool)(h:(zki e s b).2.2=false):(zki e s b).1=(zki f s b).1:=by
 have h1:(zb2 e s b).2.2=false:=by unfold zki at h;simp only [Bool.or_eq_false_iff] at h;exact h.1
 unfold zki
 rw [zeS e f s b h1]
end
section
variable {l L : List za} {c : Tx} {mt : zc} {loc stk : List Tx} {b : Bool}
theorem zjk(hs:stk.length≤1000):zau L c mt loc stk b=some (zb2 [78] stk b):=by
 unfold zau
 rcases zh9 stk with rfl |⟨r,t,rfl⟩
 ·rfl
 ·have hl:((r++[t]).length:Int)=(r.length:Int)+1:=by simp
  have h0:(((r++[t]).length:Int) == 0)=false:=beq_eq_false_iff_ne.2 (by omega)
  have hw:IntKind.i64.wrap (((r++[t]).length:Int)-1)=(r.length:Int):=by
   rw [hl,zld (by omega) (by simp at hs;omega)];omega
  rw [h0,hw,zkH,zD]
  have h1:(r++[t])[r.length]?=some t:=by simp
  have h2:zkh (r++[t]) 0 (r.length:Int)=some r:=by
   unfold zkh
   rw [if_pos ⟨by omega,by omega,by omega⟩]
   simp
  rw [h1,h2]
  rfl
theorem zzw(h:ze0 l L){ts:List Tx}(ht:ShL ts):∀(k:Nat),k≤ts.length→∀(s:List Tx) (b:Bool),ShL s →
  zw (fun z=>zaH L c mt loc ts z.1 z.2.1 z.2.2) (s,b,(k:Int)-1)=some (.inl (zai L [78] (ts.take k).reverse s b)):=by
 intro k
 induction k with
 |zero =>
  intro _ s b hs
  rw [zN]
  show (zaH L c mt loc ts s b (((0:Nat):Int)-1)).bind _=_
  unfold zaH
  rw [decide_eq_false (by omega)]
  rfl
 |succ k ih =>
  intro hk s b hs
  rw [zN]
  show (zaH L c mt loc ts s b (((k+1:Nat):Int)-1)).bind _=_
  have e1:(((k+1:Nat):Int)-1)=(k:Int):=by omega
  have hlt:k<ts.length:=by omega
  obtain ⟨h1,h2⟩:=zd3 (b:=b) hs (e:=[78]) (by decide)
  have hw:IntKind.i64.wrap ((k:Int)-1)=(k:Int)-1:=zld (by omega) (by have:=ht.1;omega)
  have step:zaH L c mt loc ts s b (((k+1:Nat):Int)-1)=some (.inl ((zb2 [78] s b).2.1,(zb2 [78] s b).2.2||!zmv L (zb2 [78] s b).1 ts[k],(k:Int)-1)):=by
   unfold zaH
   rw [e1,decide_eq_true (by omega),zD,List.getElem?_eq_getElem hlt,zjk hs.len]
   simp only [cond_true,Option.bind_some]
   rw [zhx h h1 (ht.2 _ (List.getElem_mem hlt)),hw]
   rfl
  rw [step]
  simp only [Option.bind_some,Sum.elim_inl]
  rw [show zw (fun z=>zaH L c mt loc ts z.1 z.2.1 z.2.2) ((zb2 [78] s b).2.1,(zb2 [78] s b).2.2||!zmv L (zb2 [78] s b).1 ts[k],(k:Int)-1)=_ from ih (by omega) _ _ h2]
  have e2:(ts.take (k+1)).reverse=ts[k]::(ts.take k).reverse:=by
   rw [List.take_add_one,List.getElem?_eq_getElem hlt];simp
  rw [e2]
  rfl
theorem zel(h:ze0 l L){ts:List Tx}(ht:ShL ts)(hs:ShL stk):zS L c mt loc stk b ts=some (zai L [78] ts.reverse stk b):=by
 unfold zS
 have hw:IntKind.i64.wrap ((ts.length:Int)-1)=(ts.length:Int)-1:=zld (by omega) (by have:=ht.1;omega)
 rw [hw,show zw (fun z=>zaH L c mt loc ts z.1 z.2.1 z.2.2) (stk,b,(ts.length:Int)-1)=_ from zzw h ht ts.length (Nat.le_refl _) stk b hs,List.take_length]
 rfl
def zoE(most:Int)(s:List Tx)(b:Bool)(t:Tx):List Tx×Bool:=(s++[t],b||!decide (((s++[t]).length:Int)≤most))
theorem zeK{t:Tx}(hs:stk.length≤1000):zP L c mt loc stk b t=some (zoE mt.Stack stk b t):=by
 unfold zP zoE zh2
 rw [if_pos (by simp;omega)]
 simp only [List.nil_append,Option.bind_some]
 rw [if_pos (by simp;omega)]
 rfl
def zm3(s:List Tx)(b:Bool):Tx×List Tx×Bool:=((zb2 [78] s b).1,(zb2 [78] s b).2.1,(zb2 [78] s b).2.2||!(!((zb2 [78] s b).1 == [73])))
theorem zm4(hs:ShL stk):zbJ L c mt loc stk b=some (zm3 stk b):=by
 unfold zbJ
 rw [zjk hs.len]
 rfl
theorem zwM{p q:List Tx}(hp:p.length≤1000)(hq:q.length≤1000):zeh (zhB.mk p q)=some (p,q):=by
 unfold zeh zh2
 simp only
 rw [if_pos (by simp;omega),if_pos (by simp;omega)]
 rfl
end
def znW(most:Int)(p r:List Tx×List Tx×Bool):Prop:=
 (p.2.2||!decide ((p.2.1.length:Int)≤most))=r.2.2∧(r.2.2=false→p.1=r.1∧p.2.1=r.2.1)
section
variable {L : List za} {most : Int} {loc s : List Tx} {b : Bool}
theorem zeE(t:Tx):znW most (loc,s++[t],b) (loc,(zoE most s b t).1,(zoE most s b t).2):=⟨rfl,fun _=>⟨rfl,rfl⟩⟩
theorem zs2(t u:Tx):znW most (loc,s++[t]++[u],b) (loc,(zoE most (zoE most s b t).1 (zoE most s b t).2 u).1,(zoE most (zoE most s b t).1 (zoE most s b t).2 u).2):=by
 refine ⟨?_,fun _=>⟨rfl,rfl⟩⟩
 show (b||!decide (((s++[t]++[u]).length:Int)≤most))=((b||!decide (((s++[t]).length:Int)≤most))||!decide (((s++[t]++[u]).length:Int)≤most))
 by_cases h:((s++[t]++[u]).length:Int)≤most
 ·have h2:((s++[t]).length:Int)≤most:=by simp at h ⊢;omega
  rw [decide_eq_true h,decide_eq_true h2];simp
 ·rw [decide_eq_false h];simp
theorem zeY(h:b=false→(s.length:Int)≤most):znW most (loc,s,b) (loc,s,b):=by
 refine ⟨?_,fun _=>⟨rfl,rfl⟩⟩
 show (b||!decide ((s.length:Int)≤most))=b
 cases b with
 |true=>rfl
 |false=>rw [decide_eq_true (h rfl)];rfl
theorem zfN{p r:List Tx×List Tx×Bool}(hp:p.2.2=true)(hr:r.2.2=true):znW most p r:=
 ⟨by rw [hp,hr];rfl,fun h=>by rw [hr] at h;cases h⟩
theorem zpQ(e:Tx)(s:List Tx)(b:Bool):(zb2 e s b).2.1.length≤s.length:=by
 rcases zh9 s with rfl |⟨r,t,rfl⟩
 ·exact Nat.le_refl _
 ·rw [zkH];simp
theorem zjC(e:Tx):∀(ts s:List Tx) (b:Bool),(zai L e ts s b).1.length≤s.length:=by
 intro ts
 induction ts with
 |nil=>intro s b;exact Nat.le_refl _
 |cons w r ih=>intro s b;exact Nat.le_trans (ih _ _) (zpQ e s b)
theorem zyh(e w w':Tx)(s:List Tx)(b:Bool):zai L e [w,w'] s b=zai L e [w'] (zai L e [w] s b).1 (zai L e [w] s b).2:=rfl
end
def onS(t:Tx):Prop:=t=[78]∨zfq t=true
theorem znJ{s:List Tx}{b:Bool}(h:∀t∈s,onS t):(zm3 s b).2=(zhw [84] s b).2∧((zm3 s b).2.2=false→(zm3 s b).1=(zhw [84] s b).1):=by
 have key:(zm3 s b).2=(zhw [78] s b).2:=by
  unfold zm3 zhw
  rcases zh9 s with rfl |⟨r,t,rfl⟩
  ·rfl
  ·rw [zkH]
   have ht:=h t (by simp)
   show (r,b||!(!(t == [73])))=(r,b||!((t == [78])||zo6 t))
   rcases ht with rfl |ht
   ·rfl
   ·unfold zo6
    rw [ht]
    have:(t == [78])=false:=beq_eq_false_iff_ne.2 fun e=>by rw [e,zBf] at ht;cases ht
    rw [this]
    cases t == [73] <;> rfl
 refine ⟨key.trans (zAs [78] [84] s b),fun hf=>?_⟩
 have:(zm3 s b).2.2=(zhw [84] s b).2.2:=by rw [key,zAs [78] [84] s b]
 rw [this] at hf
 exact (zvZ [84] [78] s b hf).symm
def zyI(t:Tx):Prop:=t.length≤25∧onS t
theorem zlo:zyI [73]:=⟨by decide,.inr (by decide +kernel)⟩
theorem zyZ:zyI [78]:=⟨by decide,.inl rfl⟩
theorem zvB{t:Tx}(h:zfq t=true)(hl:t.length≤25):zyI t:=⟨hl,.inr h⟩
def zmg(loc stk:List Tx)(b:Bool)(p:List Tx×List Tx×Bool):Prop:=
 (b=true→p.2.2=true) ∧
 (p.1.length=loc.length∧p.2.1.length≤stk.length+2∧(∀t∈p.1,t.length≤25)∧∀t∈p.2.1,t.length≤25) ∧
 (p.2.2=false→(∀t∈p.2.1,t∈stk∨zyI t)∧∀t∈p.1,t∈loc∨t∈stk)
theorem zg4(e:Tx)(s:List Tx)(b:Bool):(zb2 e s b).2.1<+:s:=by
 rcases zh9 s with rfl |⟨r,t,rfl⟩
 ·exact List.prefix_refl _
 ·rw [zkH];exact List.prefix_append _ _
theorem zlC{e:Tx}{s:List Tx}{b:Bool}(h:(zb2 e s b).2.2=false):(zb2 e s b).1∈s:=by
 rcases zh9 s with rfl |⟨r,t,rfl⟩
 ·cases h
 ·rw [zkH];simp
theorem zkS(e:Tx)(s:List Tx)(b:Bool):(zhw e s b).2.1<+:s:=zg4 e s b
theorem zuj(e:Tx)(s:List Tx)(b:Bool):(zki e s b).2.1<+:s:=zg4 e s b
theorem zmb{e:Tx}{s:List Tx}{b:Bool}(h:b=true):(zhw e s b).2.2=true:=by unfold zhw;rw [zg3 h];rfl
theorem zui{e:Tx}{s:List Tx}{b:Bool}(h:b=true):(zki e s b).2.2=true:=by unfold zki;rw [zg3 h];rfl
theorem zdK(L:List za)(e:Tx):∀(ts s:List Tx) (b:Bool),(zai L e ts s b).1<+:s:=by
 intro ts
 induction ts with
 |nil=>intro s b;exact List.prefix_refl _
 |cons w r ih=>intro s b;exact (ih _ _).trans (zg4 e s b)
section
variable {L : List za} {loc stk s : List Tx} {b0 b : Bool}
theorem zeQ(hb0:b0=true→b=true)(hl:ShL loc)(hs:ShL stk)(h:s<+:stk):zmg loc stk b0 (loc,s,b):=
 ⟨hb0,⟨rfl,by have:=h.length_le;show s.length≤_;omega,hl.2,fun t ht=>hs.2 t (h.subset ht)⟩,fun _=>⟨fun t ht=>.inl (h.subset ht),fun t ht=>.inl ht⟩⟩
theorem zek{u:Tx}(hb0:b0=true→b=true)(hl:ShL loc)(hs:ShL stk)(h:s<+:stk)(h1:u.length≤25)(hu:b=false→u∈stk∨zyI u):zmg loc stk b0 (loc,s++[u],b):=
 ⟨hb0,⟨rfl,by have:=h.length_le;show (s++[u]).length≤_;simp;omega,hl.2,fun t ht=>by
  rcases List.mem_append.1 ht with k |k
  ·exact hs.2 t (h.subset k)
  ·rw [List.mem_singleton.1 k];exact h1⟩,fun hb=>⟨fun t ht=>by
  rcases List.mem_append.1 ht with k |k
  ·exact .inl (h.subset k)
  ·rw [List.mem_singleton.1 k];exact hu hb,fun t ht=>.inl ht⟩⟩
theorem zst{u v:Tx}(hb0:b0=true→b=true)(hl:ShL loc)(hs:ShL stk)(h:s<+:stk)(h1:u.length≤25)(hu:b=false→u∈stk∨zyI u)(h2:v.length≤25)(hv:b=false→v∈stk∨zyI v):zmg loc stk b0 (loc,s++[u]++[v],b):=
 ⟨hb0,⟨rfl,by have:=h.length_le;show (s++[u]++[v]).length≤_;simp;omega,hl.2,fun t ht=>by
  rcases List.mem_append.1 ht with k |k
  ·rcases List.mem_append.1 k with k |k
   ·exact hs.2 t (h.subset k)
   ·rw [List.mem_singleton.1 k];exact h1
  ·rw [List.mem_singleton.1 k];exact h2⟩,fun hb=>⟨fun t ht=>by
  rcases List.mem_append.1 ht with k |k
  ·rcases List.mem_append.1 k with k |k
   ·exact .inl (h.subset k)
   ·rw [List.mem_singleton.1 k];exact hu hb
  ·rw [List.mem_singleton.1 k];exact hv hb,fun t ht=>.inl ht⟩⟩
theorem zqM{k:Nat}{u:Tx}(hb0:b0=true→b=true)(hl:ShL loc)(hs:ShL stk)(h:s<+:stk)(h1:u.length≤25)(hu:b=false→u∈stk):zmg loc stk b0 (loc.set k u,s,b):=
 ⟨hb0,⟨List.length_set ..,by have:=h.length_le;show s.length≤_;omega,fun t ht=>by
  rcases List.mem_or_eq_of_mem_set ht with k |rfl
  ·exact hl.2 t k
  ·exact h1,fun t ht=>hs.2 t (h.subset ht)⟩,fun hb=>⟨fun t ht=>.inl (h.subset ht),fun t ht=>by
  rcases List.mem_or_eq_of_mem_set ht with k |rfl
  ·exact .inl k
  ·exact .inr (hu hb)⟩⟩
end
theorem bt{n a b:Int}(h:a≤n∧n≤b):zaM n a b=true:=by
 unfold zaM;rw [decide_eq_true h.1,decide_eq_true h.2];rfl
theorem bf{n a b:Int}(h:¬(a≤n∧n≤b)):zaM n a b=false:=by
 unfold zaM
 rw [Bool.and_eq_false_iff,decide_eq_false_iff_not,decide_eq_false_iff_not];omega
theorem ct{n a b:Int}(h:a≤n∧n≤b):(decide (a≤n)&&decide (n≤b))=true:=bt h
theorem cf{n a b:Int}(h:¬(a≤n∧n≤b)):(decide (a≤n)&&decide (n≤b))=false:=bf h
theorem qt{n k:Int}(h:n=k):(n == k)=true:=by rw [h];exact beq_self_eq_true k
theorem qf{n k:Int}(h:n≠k):(n == k)=false:=beq_eq_false_iff_ne.2 h
structure zeP(l L:List za)(m:List (Tx×Int))(mt:zc)(loc stk:List Tx)(b:Bool):Prop where
 made:ze0 l L
 map:zdz L m
 lens:zte L
 shL:ShL loc
 shS:ShL stk
 on:∀t∈stk,onS t
 room:(stk.length:Int)≤mt.Stack
 onL:∀t∈loc,t=[84]∨onS t
section
variable {l L : List za} {m : List (Tx × Int)} {c : Tx} {mt : zc} {loc stk : List Tx} {b : Bool} {x : zp}
theorem zv5(h:zeP l L m mt loc stk b)(ho:8≤x.Op∧x.Op≤19):
  ∃p r,zk L m c mt loc stk b x=some p∧zm L c mt loc stk b x=some r∧znW mt.Stack p r∧zmg loc stk b p:=by
 have h73:([73]:Tx).length≤25:=by decide
 by_cases hn:x.Op=13
 ·refine ⟨(loc,(zai L [84] [[73]] stk b).1++[[73]],(zai L [84] [[73]] stk b).2),_,?_,?_,zeE _,zek (zbK _ _ _) h.shL h.shS (zdK _ _ _ _ _) (by decide) fun _=>.inr zlo⟩
  ·unfold zk
   rw [bf (by omega),qt hn,zfl h.made h.map (sh1 h73) h.shS]
   simp only [cond_false,cond_true,Option.bind_some,List.reverse_singleton]
   rw [zeJ (zd4 (by decide) _ _ _ h.shS).len]
   rfl
  ·unfold zm
   rw [ct ho,zel h.made (sh1 h73) h.shS,qt hn]
   simp only [cond_false,cond_true,Option.bind_some,List.reverse_singleton,Bool.not_true]
   unfold zch
   rw [zeK (zd4 (by decide) _ _ _ h.shS).len,zeL [78] [84]]
   rfl
 ·refine ⟨(loc,(zai L [84] [[73],[73]] stk b).1++[[73]],(zai L [84] [[73],[73]] stk b).2),_,?_,?_,zeE _,zek (zbK _ _ _) h.shL h.shS (zdK _ _ _ _ _) (by decide) fun _=>.inr zlo⟩
  ·unfold zk
   rw [bf (by omega),qf hn,bt ho,zfl h.made h.map (sh2 h73 h73) h.shS]
   simp only [cond_false,cond_true,Option.bind_some]
   rw [show ([[73],[73]]:List Tx).reverse=[[73],[73]] from rfl,zeJ (zd4 (by decide) _ _ _ h.shS).len]
   rfl
  ·unfold zm
   have hs:=zd4 (L:=L) (e:=[78]) (by decide) [[73]] stk b h.shS
   rw [ct ho,zel h.made (sh1 h73) h.shS,qf hn]
   simp only [cond_false,cond_true,Option.bind_some,List.reverse_singleton,Bool.not_false]
   rw [zel h.made (sh1 h73) hs]
   simp only [Option.bind_some,List.reverse_singleton]
   unfold zch
   rw [zeK (zd4 (by decide) _ _ _ hs).len]
   rw [←zyh,zeL [78] [84]]
   rfl
theorem instr_plain(h1:¬(8≤x.Op∧x.Op≤45))(h2:¬(49≤x.Op∧x.Op≤55)):zm L c mt loc stk b x=(zQ L c mt loc stk b x).bind fun v=>some (v.1,v.2.1,v.2.2):=by
 unfold zm
 rw [cf (by omega),cf (by omega),qf (show x.Op≠20 by omega),cf (by omega),cf (by omega),cf (by omega)]
 rfl
theorem zkF(h:1≤x.Op∧x.Op≤7):zk L m c mt loc stk b x=(zaY L m c mt loc stk b x).bind fun v=>some (v.1,v.2.1,v.2.2):=by
 unfold zk
 rw [bt h]
 rfl
theorem zny(h:56≤x.Op∧x.Op≤61):zk L m c mt loc stk b x=(zbH L m c mt loc stk b x).bind fun v=>some (loc,v.1,v.2):=by
 unfold zk
 rw [bf (by omega),qf (by omega),bf (by omega),qf (by omega),bf (by omega),bf (by omega),bf (by omega),bf (by omega),qf (by omega),bf (by omega),bf (by omega),bf (by omega),bf (by omega)]
 rfl
theorem zv6(h:zeP l L m mt loc stk b)(ho:x.Op=1∨x.Op=2):
  ∃p r,zk L m c mt loc stk b x=some p∧zm L c mt loc stk b x=some r∧znW mt.Stack p r∧zmg loc stk b p:=by
 rcases ho with ho |ho
 ·refine ⟨(loc,stk++[[73]],b),_,?_,?_,zeE _,zek id h.shL h.shS (List.prefix_refl _) (by decide) fun _=>.inr zlo⟩
  ·rw [zkF (by omega)]
   unfold zaY
   rw [qt ho,zeJ h.shS.len]
   rfl
  ·rw [instr_plain (by omega) (by omega)]
   unfold zQ
   rw [qt ho,zeK h.shS.len]
   rfl
 ·refine ⟨(loc,stk++[[78]],b),_,?_,?_,zeE _,zek id h.shL h.shS (List.prefix_refl _) (by decide) fun _=>.inr zyZ⟩
  ·rw [zkF (by omega)]
   unfold zaY
   rw [qf (show x.Op≠1 by omega),qt ho]
   simp only [cond_false,cond_true]
   rw [zeJ h.shS.len]
   rfl
  ·rw [instr_plain (by omega) (by omega)]
   unfold zQ
   rw [qf (show x.Op≠1 by omega),qt ho]
   simp only [cond_false,cond_true]
   rw [zeK h.shS.len]
   rfl
theorem zzJ(h:zeP l L m mt loc stk b)(ho:x.Op=5):
  ∃p r,zk L m c mt loc stk b x=some p∧zm L c mt loc stk b x=some r∧znW mt.Stack p r∧zmg loc stk b p:=by
 obtain ⟨g1,g2⟩:=zd3 (b:=b) h.shS (e:=[84]) (by decide)
 obtain ⟨k1,k2⟩:=zd3 (b:=b) h.shS (e:=[78]) (by decide)
 ·refine ⟨(loc,(zb2 [84] stk b).2.1,(zb2 [84] stk b).2.2),(loc,(zb2 [84] stk b).2.1,(zb2 [84] stk b).2.2),?_,?_,zeY fun _=>?_,zeQ zg3 h.shL h.shS (zg4 _ _ _)⟩
  ·rw [zkF (by omega)]
   unfold zaY
   rw [qf (show x.Op≠1 by omega),qf (show x.Op≠2 by omega),qf (show x.Op≠3 by omega),qf (show x.Op≠4 by omega),qt ho]
   simp only [cond_false,cond_true]
   rw [zmw h.shS.len]
   rfl
  ·rw [instr_plain (by omega) (by omega)]
   unfold zQ
   rw [qf (show x.Op≠1 by omega),qf (show x.Op≠2 by omega),qf (show x.Op≠3 by omega),qf (show x.Op≠4 by omega),qt ho]
   simp only [cond_false,cond_true]
   rw [zjk h.shS.len,zj4 [84] [78]]
   rfl
  ·have:=zpQ [84] stk b
   have:=h.room
   omega
end
section
variable {l L : List za} {m : List (Tx × Int)} {c : Tx} {mt : zc} {loc stk : List Tx} {b : Bool} {x : zp}
theorem znA{most:Int}{s:List Tx}{b:Bool}{t:Tx}(h:b=true):(zoE most s b t).2=true:=by
 unfold zoE;rw [h];rfl
theorem zzG(h:zeP l L m mt loc stk b)(ho:x.Op=6):
  ∃p r,zk L m c mt loc stk b x=some p∧zm L c mt loc stk b x=some r∧znW mt.Stack p r∧zmg loc stk b p:=by
 obtain ⟨g1,g2⟩:=zd3 (b:=b) h.shS (e:=[84]) (by decide)
 obtain ⟨k1,k2⟩:=zd3 (b:=b) h.shS (e:=[78]) (by decide)
 refine ⟨(loc,(zb2 [84] stk b).2.1++[(zb2 [84] stk b).1]++[(zb2 [84] stk b).1],(zb2 [84] stk b).2.2),
  (loc,(zoE mt.Stack (zoE mt.Stack (zb2 [78] stk b).2.1 (zb2 [78] stk b).2.2 (zb2 [78] stk b).1).1 (zoE mt.Stack (zb2 [78] stk b).2.1 (zb2 [78] stk b).2.2 (zb2 [78] stk b).1).2 (zb2 [78] stk b).1).1,
   (zoE mt.Stack (zoE mt.Stack (zb2 [78] stk b).2.1 (zb2 [78] stk b).2.2 (zb2 [78] stk b).1).1 (zoE mt.Stack (zb2 [78] stk b).2.1 (zb2 [78] stk b).2.2 (zb2 [78] stk b).1).2 (zb2 [78] stk b).1).2),?_,?_,?_,zst zg3 h.shL h.shS (zg4 _ _ _) g1 (fun hb=>.inl (zlC hb)) g1 fun hb=>.inl (zlC hb)⟩
 ·rw [zkF (by omega)]
  unfold zaY
  rw [qf (show x.Op≠1 by omega),qf (show x.Op≠2 by omega),qf (show x.Op≠3 by omega),qf (show x.Op≠4 by omega),qf (show x.Op≠5 by omega),qt ho]
  simp only [cond_false,cond_true]
  rw [zmw h.shS.len]
  simp only [Option.bind_some]
  rw [zeJ g2.len]
  simp only [Option.bind_some]
  rw [zeJ (by have:=g2.1;simp;omega)]
  rfl
 ·rw [instr_plain (by omega) (by omega)]
  unfold zQ
  rw [qf (show x.Op≠1 by omega),qf (show x.Op≠2 by omega),qf (show x.Op≠3 by omega),qf (show x.Op≠4 by omega),qf (show x.Op≠5 by omega),qt ho]
  simp only [cond_false,cond_true]
  rw [zjk h.shS.len]
  simp only [Option.bind_some]
  rw [zeK k2.len]
  simp only [Option.bind_some]
  rw [zeK (by have:=k2.1;show ((zb2 [78] stk b).2.1++[(zb2 [78] stk b).1]).length≤1000;simp;omega)]
  rfl
 ·cases hb:(zb2 [84] stk b).2.2 with
  |true =>
   refine zfN rfl ?_
   have:(zb2 [78] stk b).2.2=true:=by rw [←zj4 [84] [78]];exact hb
   exact znA (znA this)
  |false =>
   have e1:=zeS [84] [78] stk b hb
   have e2:=zj4 [84] [78] stk b
   rw [←e1,←e2,hb]
   exact zs2 _ _
theorem zuW{e:Tx}{s:List Tx}{b:Bool}(h:(zb2 e s b).2.2=false):b=false:=by
 cases b with
 |false=>rfl
 |true=>rw [zg3 rfl] at h;cases h
theorem zyb(h:zeP l L m mt loc stk b)(ho:x.Op=7):
  ∃p r,zk L m c mt loc stk b x=some p∧zm L c mt loc stk b x=some r∧znW mt.Stack p r∧zmg loc stk b p:=by
 obtain ⟨g1,g2⟩:=zd3 (b:=b) h.shS (e:=[84]) (by decide)
 obtain ⟨k1,k2⟩:=zd3 (b:=b) h.shS (e:=[78]) (by decide)
 generalize hP:zb2 [84] stk b=P at g1 g2
 generalize hR:zb2 [78] stk b=R at k1 k2
 obtain ⟨g3,g4⟩:=zd3 (b:=P.2.2) g2 (e:=[84]) (by decide)
 obtain ⟨k3,k4⟩:=zd3 (b:=R.2.2) k2 (e:=[78]) (by decide)
 have hPs:P.2.1<+:stk:=by rw [←hP];exact zg4 _ _ _
 have hPb:b=true→P.2.2=true:=by rw [←hP];exact zg3
 have hPi:P.2.2=false→P.1∈stk:=by rw [←hP];exact zlC
 refine ⟨(loc,(zb2 [84] P.2.1 P.2.2).2.1++[P.1]++[(zb2 [84] P.2.1 P.2.2).1],(zb2 [84] P.2.1 P.2.2).2.2),
  (loc,(zoE mt.Stack (zoE mt.Stack (zb2 [78] R.2.1 R.2.2).2.1 (zb2 [78] R.2.1 R.2.2).2.2 R.1).1 (zoE mt.Stack (zb2 [78] R.2.1 R.2.2).2.1 (zb2 [78] R.2.1 R.2.2).2.2 R.1).2 (zb2 [78] R.2.1 R.2.2).1).1,
   (zoE mt.Stack (zoE mt.Stack (zb2 [78] R.2.1 R.2.2).2.1 (zb2 [78] R.2.1 R.2.2).2.2 R.1).1 (zoE mt.Stack (zb2 [78] R.2.1 R.2.2).2.1 (zb2 [78] R.2.1 R.2.2).2.2 R.1).2 (zb2 [78] R.2.1 R.2.2).1).2),?_,?_,?_,zst (fun e=>zg3 (hPb e)) h.shL h.shS ((zg4 _ _ _).trans hPs) g1 (fun hb=>.inl (hPi (zuW hb))) g3 fun hb=>.inl (hPs.subset (zlC hb))⟩
 ·rw [zkF (by omega)]
  unfold zaY
  rw [qf (show x.Op≠1 by omega),qf (show x.Op≠2 by omega),qf (show x.Op≠3 by omega),qf (show x.Op≠4 by omega),qf (show x.Op≠5 by omega),qf (show x.Op≠6 by omega),qt ho]
  simp only [cond_false,cond_true]
  rw [zmw h.shS.len,hP]
  simp only [Option.bind_some]
  rw [zmw g2.len]
  simp only [Option.bind_some]
  rw [zeJ g4.len]
  simp only [Option.bind_some]
  rw [zeJ (by have:=g4.1;simp;omega)]
  rfl
 ·rw [instr_plain (by omega) (by omega)]
  unfold zQ
  rw [qf (show x.Op≠1 by omega),qf (show x.Op≠2 by omega),qf (show x.Op≠3 by omega),qf (show x.Op≠4 by omega),qf (show x.Op≠5 by omega),qf (show x.Op≠6 by omega),qt ho]
  simp only [cond_false,cond_true]
  rw [zjk h.shS.len,hR]
  simp only [Option.bind_some]
  rw [zjk k2.len]
  simp only [Option.bind_some]
  rw [zeK k4.len]
  simp only [Option.bind_some]
  rw [zeK (by have:=k4.1;show ((zb2 [78] R.2.1 R.2.2).2.1++[R.1]).length≤1000;simp;omega)]
  rfl
 ·have e2:P.2=R.2:=by rw [←hP,←hR];exact zj4 [84] [78] stk b
  cases hb:(zb2 [84] P.2.1 P.2.2).2.2 with
  |true =>
   refine zfN rfl ?_
   have:(zb2 [78] R.2.1 R.2.2).2.2=true:=by rw [←e2,←zj4 [84] [78]];exact hb
   exact znA (znA this)
  |false =>
   have e1:P.1=R.1:=by
    rw [←hP,←hR]
    exact zeS [84] [78] stk b (by rw [hP];exact zuW hb)
   have e3:=zeS [84] [78] P.2.1 P.2.2 hb
   have e4:=zj4 [84] [78] P.2.1 P.2.2
   rw [←e2,←e1,←e3,←e4,hb]
   exact zs2 _ _
theorem zof(h:58≤x.Op):∀k:Int,k<58→(x.Op == k)=false:=fun k hk=>qf (by omega)
theorem zBw(h:zeP l L m mt loc stk b)(ho:x.Op=59):
  ∃p r,zk L m c mt loc stk b x=some p∧zm L c mt loc stk b x=some r∧znW mt.Stack p r∧zmg loc stk b p:=by
 have hq:=zof (x:=x) (by omega)
 refine ⟨(loc,stk++[[73]],b),_,?_,?_,zeE _,zek id h.shL h.shS (List.prefix_refl _) (by decide) fun _=>.inr zlo⟩
 ·rw [zny (by omega)]
  unfold zbH
  rw [hq 56 (by omega),hq 57 (by omega)]
  unfold zaC
  rw [qf (show x.Op≠58 by omega),qt ho]
  simp only [cond_false,cond_true]
  rw [zeJ h.shS.len]
  rfl
 ·rw [instr_plain (by omega) (by omega)]
  unfold zQ
  rw [hq 1 (by omega),hq 2 (by omega),hq 3 (by omega),hq 4 (by omega),hq 5 (by omega),hq 6 (by omega),hq 7 (by omega),hq 46 (by omega),hq 47 (by omega),hq 48 (by omega),hq 56 (by omega),hq 57 (by omega),qf (show x.Op≠58 by omega),qt ho]
  simp only [cond_false,cond_true]
  rw [zeK h.shS.len]
  rfl
theorem zzI(h:zeP l L m mt loc stk b)(ho:x.Op=60∨x.Op=61):
  ∃p r,zk L m c mt loc stk b x=some p∧zm L c mt loc stk b x=some r∧znW mt.Stack p r∧zmg loc stk b p:=by
 have hq:=zof (x:=x) (by omega)
 have h73:([73]:Tx).length≤25:=by decide
 refine ⟨(loc,(zai L [84] [[73]] stk b).1,(zai L [84] [[73]] stk b).2),(loc,(zai L [84] [[73]] stk b).1,(zai L [84] [[73]] stk b).2),?_,?_,zeY fun _=>?_,zeQ (zbK _ _ _) h.shL h.shS (zdK _ _ _ _ _)⟩
 ·rw [zny (by omega)]
  unfold zbH
  rw [hq 56 (by omega),hq 57 (by omega)]
  unfold zaC
  rw [qf (show x.Op≠58 by omega),qf (show x.Op≠59 by omega)]
  simp only [cond_false,cond_true]
  rw [zfl h.made h.map (sh1 h73) h.shS]
  rfl
 ·rw [instr_plain (by omega) (by omega)]
  unfold zQ
  rw [hq 1 (by omega),hq 2 (by omega),hq 3 (by omega),hq 4 (by omega),hq 5 (by omega),hq 6 (by omega),hq 7 (by omega),hq 46 (by omega),hq 47 (by omega),hq 48 (by omega),hq 56 (by omega),hq 57 (by omega),qf (show x.Op≠58 by omega),qf (show x.Op≠59 by omega)]
  simp only [cond_false]
  have key:∀v,v=true→(zci L c mt loc stk b v).bind (fun v=>some (v.1,v.2.1,v.2.2))=some (loc,(zai L [84] [[73]] stk b).1,(zai L [84] [[73]] stk b).2):=fun v hv=>by
   unfold zci
   rw [hv,zel h.made (sh1 h73) h.shS,zeL [78] [84]]
   rfl
  rcases ho with ho |ho
  ·rw [qt ho]
   exact key _ rfl
  ·rw [qf (show x.Op≠60 by omega),qt ho]
   exact key _ rfl
 ·have:=zjC (L:=L) [84] [[73]] stk b
  have:=h.room
  omega
theorem zv9(h:zeP l L m mt loc stk b)(ho:x.Op=58):
  ∃p r,zk L m c mt loc stk b x=some p∧zm L c mt loc stk b x=some r∧znW mt.Stack p r∧zmg loc stk b p:=by
 have hq:=zof (x:=x) (by omega)
 have ht:([84,104,114,111,119,110]:Tx).length≤25:=by decide
 obtain ⟨k1,k2⟩:=zd3 (b:=b) h.shS (e:=[78]) (by decide)
 refine ⟨(loc,(zai L [84] [[84,104,114,111,119,110]] stk b).1,(zai L [84] [[84,104,114,111,119,110]] stk b).2),(loc,(zai L [84] [[84,104,114,111,119,110]] stk b).1,(zai L [84] [[84,104,114,111,119,110]] stk b).2),?_,?_,zeY fun _=>?_,zeQ (zbK _ _ _) h.shL h.shS (zdK _ _ _ _ _)⟩
 ·rw [zny (by omega)]
  unfold zbH
  rw [hq 56 (by omega),hq 57 (by omega)]
  unfold zaC
  rw [qt ho]
  simp only [cond_false,cond_true]
  rw [zfl h.made h.map (sh1 ht) h.shS]
  rfl
 ·rw [instr_plain (by omega) (by omega)]
  unfold zQ
  rw [hq 1 (by omega),hq 2 (by omega),hq 3 (by omega),hq 4 (by omega),hq 5 (by omega),hq 6 (by omega),hq 7 (by omega),hq 46 (by omega),hq 47 (by omega),hq 48 (by omega),hq 56 (by omega),hq 57 (by omega),qt ho]
  simp only [cond_false,cond_true]
  rw [zjk h.shS.len]
  simp only [Option.bind_some]
  rw [zhx h.made k1 ht,zeL [84] [78]]
  rfl
 ·have:=zjC (L:=L) [84] [[84,104,114,111,119,110]] stk b
  have:=h.room
  omega
theorem ztP(h:46≤x.Op∧x.Op≤48):zk L m c mt loc stk b x=(zc4 L m c mt loc stk b x.Op).bind fun v=>some (loc,v.1,v.2):=by
 unfold zk
 rw [bf (by omega),qf (show x.Op≠13 by omega),bf (by omega),qf (show x.Op≠20 by omega),bf (by omega),bf (by omega),bf (by omega),bf (by omega),qf (show x.Op≠37 by omega),bf (by omega),bf (by omega),bt h]
 rfl
theorem zzK(h:zeP l L m mt loc stk b)(ho:x.Op=46∨x.Op=47):
  ∃p r,zk L m c mt loc stk b x=some p∧zm L c mt loc stk b x=some r∧znW mt.Stack p r∧zmg loc stk b p:=by
 have h73:([73]:Tx).length≤25:=by decide
 have hq:∀k:Int,k<46→(x.Op == k)=false:=fun k hk=>qf (by omega)
 rcases ho with ho |ho
 ·refine ⟨(loc,stk,b||!(mt.Ret == [86])),(loc,stk,b||!(mt.Ret == [86])),?_,?_,zeY fun _=>h.room,zeQ (fun e=>by rw [e];rfl) h.shL h.shS (List.prefix_refl _)⟩
  ·rw [ztP (by omega)]
   unfold zc4
   rw [qt ho]
   rfl
  ·rw [instr_plain (by omega) (by omega)]
   unfold zQ
   rw [hq 1 (by omega),hq 2 (by omega),hq 3 (by omega),hq 4 (by omega),hq 5 (by omega),hq 6 (by omega),hq 7 (by omega),qt ho]
   rfl
 ·refine ⟨(loc,(zai L [84] [[73]] stk (b||!(mt.Ret == [73]))).1,(zai L [84] [[73]] stk (b||!(mt.Ret == [73]))).2),(loc,(zai L [84] [[73]] stk b).1,(zai L [84] [[73]] stk b).2||!(mt.Ret == [73])),?_,?_,?_,zeQ (fun e=>zbK _ _ _ (by rw [e];rfl)) h.shL h.shS (zdK _ _ _ _ _)⟩
  ·rw [ztP (by omega)]
   unfold zc4
   rw [qf (show x.Op≠46 by omega),qt ho]
   simp only [cond_false,cond_true]
   rw [zfl h.made h.map (sh1 h73) h.shS]
   rfl
  ·rw [instr_plain (by omega) (by omega)]
   unfold zQ
   rw [hq 1 (by omega),hq 2 (by omega),hq 3 (by omega),hq 4 (by omega),hq 5 (by omega),hq 6 (by omega),hq 7 (by omega),qf (show x.Op≠46 by omega),qt ho]
   simp only [cond_false,cond_true]
   rw [zel h.made (sh1 h73) h.shS,zeL [78] [84]]
   rfl
  ·have hl:=zjC (L:=L) [84] [[73]] stk b
   have hr:=h.room
   cases mt.Ret == [73] with
   |true =>
    rw [show (b||!true)=b by simp]
    rw [show ((zai L [84] [[73]] stk b).2||!true)=(zai L [84] [[73]] stk b).2 by simp]
    exact zeY fun _=>by omega
   |false=>exact zfN (zbK _ _ _ (by simp)) (by simp)
end
section
variable {l L : List za} {m : List (Tx × Int)} {c : Tx} {mt : zc} {loc stk : List Tx} {b : Bool} {x : zp}
theorem zx9(h:zeP l L m mt loc stk b)(ho:x.Op=3)(hA:0≤x.A):
  ∃p r,zk L m c mt loc stk b x=some p∧zm L c mt loc stk b x=some r∧znW mt.Stack p r∧zmg loc stk b p:=by
 have P0:zk L m c mt loc stk b x=(cond (decide (((List.length loc):Int)≤x.A)) (za5 L m c mt loc stk b x true) ((idx loc x.A).bind fun v11=>za5 L m c mt loc stk b x (v11 == [84]))).bind fun v=>some (v.1,v.2.1,v.2.2):=by
  rw [zkF (by omega)]
  unfold zaY
  rw [qf (show x.Op≠1 by omega),qf (show x.Op≠2 by omega),qt ho]
  rfl
 have R0:zm L c mt loc stk b x=(cond (decide (x.A<(List.length loc:Int))) ((idx loc (if (IntKind.i64.wrap ((List.length loc:Int)-1))<x.A then (IntKind.i64.wrap ((List.length loc:Int)-1)) else x.A)).bind fun v10=>zbb L c mt loc stk x (b||(!(!(v10 == [84]))))) (zbb L c mt loc stk x (b||(!false)))).bind fun v=>some (v.1,v.2.1,v.2.2):=by
  rw [instr_plain (by omega) (by omega)]
  unfold zQ
  rw [qf (show x.Op≠1 by omega),qf (show x.Op≠2 by omega),qt ho]
  rfl
 rw [P0,R0]
 by_cases hlt:x.A<(loc.length:Int)
 ·obtain ⟨k,hk⟩:∃k:Nat,x.A=(k:Int):=⟨x.A.toNat,by omega⟩
  have hkl:k<loc.length:=by omega
  have hw:IntKind.i64.wrap ((loc.length:Int)-1)=(loc.length:Int)-1:=zld (by omega) (by have:=h.shL.1;omega)
  have hi:idx loc x.A=some loc[k]:=by rw [hk,zD,List.getElem?_eq_getElem hkl]
  rw [hw,if_neg (by omega),decide_eq_false (by omega),decide_eq_true hlt,hi]
  simp only [cond_false,cond_true,Option.bind_some]
  unfold za5 zbb
  rw [hi]
  simp only [Option.bind_some]
  cases ht:loc[k] == [84] with
  |true =>
   refine ⟨_,_,rfl,?_,zfN (r:=(loc,stk,true)) rfl rfl,zeQ (fun _=>rfl) h.shL h.shS (List.prefix_refl _)⟩
   simp
  |false =>
   rw [zeJ h.shS.len]
   cases b with
   |true=>exact ⟨_,_,rfl,rfl,zfN rfl rfl,zek id h.shL h.shS (List.prefix_refl _) (h.shL.2 _ (List.getElem_mem hkl)) fun e=>by cases e⟩
   |false =>
    simp only [Bool.not_false,Bool.not_true,Bool.or_false,cond_true]
    rw [zeK h.shS.len]
    exact ⟨_,_,rfl,rfl,zeE _,zek id h.shL h.shS (List.prefix_refl _) (h.shL.2 _ (List.getElem_mem hkl)) fun _=>.inr ⟨h.shL.2 _ (List.getElem_mem hkl),(h.onL _ (List.getElem_mem hkl)).resolve_left fun e=>by rw [e] at ht;cases ht⟩⟩
 ·rw [decide_eq_true (by omega),decide_eq_false hlt]
  simp only [cond_false,cond_true]
  unfold za5 zbb
  refine ⟨_,_,rfl,?_,zfN (r:=(loc,stk,true)) rfl rfl,zeQ (fun _=>rfl) h.shL h.shS (List.prefix_refl _)⟩
  simp
theorem zv8(h:zeP l L m mt loc stk b)(ho:x.Op=4)(hA:0≤x.A):
  ∃p r,zk L m c mt loc stk b x=some p∧zm L c mt loc stk b x=some r∧znW mt.Stack p r∧zmg loc stk b p:=by
 have P0:zk L m c mt loc stk b x=((zag L m c mt loc stk b).bind fun v15=>cond (decide (((List.length loc):Int)≤x.A)) (some (loc,v15.2.1,true)) ((zng loc).bind fun v16=>(idx v16 x.A).bind fun v17=>some ((List.set v16 (Int.toNat x.A) v15.1),v15.2.1,v15.2.2))).bind fun v=>some (v.1,v.2.1,v.2.2):=by
  rw [zkF (by omega)]
  unfold zaY
  rw [qf (show x.Op≠1 by omega),qf (show x.Op≠2 by omega),qf (show x.Op≠3 by omega),qt ho]
  rfl
 have R0:zm L c mt loc stk b x=((zau L c mt loc stk b).bind fun v14=>cond (!(v14.2.2||(!(decide (x.A<(List.length loc:Int)))))) ((zeh (zhB.mk loc v14.2.1)).bind fun v15=>(idx v15.1 x.A).bind fun v16=>some ((List.set v15.1 (Int.toNat x.A) v14.1),v15.2,(v14.2.2||(!(decide (x.A<(List.length loc:Int))))))) (some (loc,v14.2.1,(v14.2.2||(!(decide (x.A<(List.length loc:Int)))))))).bind fun v=>some (v.1,v.2.1,v.2.2):=by
  rw [instr_plain (by omega) (by omega)]
  unfold zQ
  rw [qf (show x.Op≠1 by omega),qf (show x.Op≠2 by omega),qf (show x.Op≠3 by omega),qt ho]
  rfl
 obtain ⟨g1,g2⟩:=zd3 (b:=b) h.shS (e:=[84]) (by decide)
 obtain ⟨k1,k2⟩:=zd3 (b:=b) h.shS (e:=[78]) (by decide)
 rw [P0,R0,zmw h.shS.len,zjk h.shS.len]
 simp only [Option.bind_some]
 by_cases hlt:x.A<(loc.length:Int)
 ·obtain ⟨k,hk⟩:∃k:Nat,x.A=(k:Int):=⟨x.A.toNat,by omega⟩
  have hkl:k<loc.length:=by omega
  have hi:idx loc x.A=some loc[k]:=by rw [hk,zD,List.getElem?_eq_getElem hkl]
  rw [decide_eq_false (by omega),decide_eq_true hlt,zrc h.shL.len,zwM h.shL.len k2.len]
  simp only [cond_false,Option.bind_some,Bool.not_true,Bool.or_false]
  rw [hi]
  have e2:=zj4 [84] [78] stk b
  cases hb:(zb2 [78] stk b).2.2 with
  |true=>exact ⟨_,_,rfl,rfl,zfN (by show (zb2 [84] stk b).2.2=true;rw [e2];exact hb) rfl,zqM zg3 h.shL h.shS (zg4 _ _ _) g1 zlC⟩
  |false =>
   have e1:=zeS [78] [84] stk b hb
   refine ⟨_,_,rfl,rfl,?_,zqM zg3 h.shL h.shS (zg4 _ _ _) g1 zlC⟩
   rw [e1,e2,hb]
   refine zeY fun _=>?_
   have:=zpQ [78] stk b
   have:=h.room
   omega
 ·rw [decide_eq_true (by omega),decide_eq_false hlt]
  simp only [cond_true,Bool.not_false,Bool.or_true,Bool.not_true,cond_false]
  exact ⟨_,_,rfl,rfl,zfN rfl rfl,zeQ (fun _=>rfl) h.shL h.shS (zg4 _ _ _)⟩
theorem zrW{t:Tx}(ht:zfq t=true):zr0 L t=thN L t:=by
 unfold zr0
 have e1:(t == [78])=false:=beq_eq_false_iff_ne.2 fun e=>by rw [e,zBf] at ht;cases ht
 have e2:(t == [84])=false:=beq_eq_false_iff_ne.2 fun e=>by rw [e,zBg] at ht;cases ht
 rw [e1,e2];rfl
theorem zx7(h:zeP l L m mt loc stk b)(ho:x.Op=56∨x.Op=57)(hC:zfq x.C=true)(hl:x.C.length≤25):
  ∃p r,zk L m c mt loc stk b x=some p∧zm L c mt loc stk b x=some r∧znW mt.Stack p r∧zmg loc stk b p:=by
 have hq:∀k:Int,k<56→(x.Op == k)=false:=fun k hk=>qf (by omega)
 obtain ⟨g1,g2⟩:=zrR (b:=b) h.shS (e:=[84]) (by decide)
 have e2:=(znJ (b:=b) h.on).1
 have k2:ShL (zm3 stk b).2.1:=by rw [e2];exact g2
 rcases ho with ho |ho
 ·refine ⟨(loc,(zhw [84] stk b).2.1++[x.C],(zhw [84] stk b).2.2||!thN L x.C),_,?_,?_,zeE _,zek (fun e=>by rw [zmb e];rfl) h.shL h.shS (zkS _ _ _) hl fun _=>.inr (zvB hC hl)⟩
  ·rw [zny (by omega)]
   unfold zbH
   rw [qt ho]
   unfold zaC
   simp only [cond_true]
   rw [zqS h.shS]
   simp only [Option.bind_some]
   rw [zon h.made h.map hl,zrW hC]
   simp only [Option.bind_some]
   rw [qt ho]
   simp only [cond_true]
   rw [zeJ g2.len]
   rfl
  ·rw [instr_plain (by omega) (by omega)]
   unfold zQ
   rw [hq 1 (by omega),hq 2 (by omega),hq 3 (by omega),hq 4 (by omega),hq 5 (by omega),hq 6 (by omega),hq 7 (by omega),hq 46 (by omega),hq 47 (by omega),hq 48 (by omega),qt ho]
   simp only [cond_false,cond_true]
   rw [zm4 h.shS]
   simp only [Option.bind_some]
   rw [zd8 h.made (by omega)]
   simp only [Option.bind_some]
   rw [zeK k2.len,e2]
   rfl
 ·refine ⟨(loc,(zhw [84] stk b).2.1++[[73]],(zhw [84] stk b).2.2||!thN L x.C),_,?_,?_,zeE _,zek (fun e=>by rw [zmb e];rfl) h.shL h.shS (zkS _ _ _) (by decide) fun _=>.inr zlo⟩
  ·rw [zny (by omega)]
   unfold zbH
   rw [qf (show x.Op≠56 by omega),qt ho]
   unfold zaC
   simp only [cond_true,cond_false]
   rw [zqS h.shS]
   simp only [Option.bind_some]
   rw [zon h.made h.map hl,zrW hC]
   simp only [Option.bind_some]
   rw [qf (show x.Op≠56 by omega)]
   simp only [cond_false]
   rw [zeJ g2.len]
   rfl
  ·rw [instr_plain (by omega) (by omega)]
   unfold zQ
   rw [hq 1 (by omega),hq 2 (by omega),hq 3 (by omega),hq 4 (by omega),hq 5 (by omega),hq 6 (by omega),hq 7 (by omega),hq 46 (by omega),hq 47 (by omega),hq 48 (by omega),qf (show x.Op≠56 by omega),qt ho]
   simp only [cond_false,cond_true]
   rw [zm4 h.shS]
   simp only [Option.bind_some]
   rw [zd8 h.made (by omega)]
   simp only [Option.bind_some]
   rw [zeK k2.len,e2]
   rfl
end
section
variable {l L : List za} {m : List (Tx × Int)} {c : Tx} {mt : zc} {loc stk : List Tx} {b : Bool} {x : zp}
theorem zAU{t:Tx}(h1:(t == [73])=false)(h2:zfq t=true):zmv L [73] t=false:=by
 have e2:(t == [84])=false:=beq_eq_false_iff_ne.2 fun e=>by rw [e,zBg] at h2;cases h2
 have e3:(([73]:Tx) == t)=false:=by rw [Bool.eq_false_iff] at h1 ⊢;intro h;exact h1 (by rw [beq_iff_eq] at h ⊢;exact h.symm)
 rw [zwW,e2]
 simp only [cond_false]
 rw [show (([73]:Tx) == [78])=false from by decide,e3]
 simp
theorem zCN:zfq [86]=false:=by decide +kernel
theorem zx3(h:zeP l L m mt loc stk b)(ho:x.Op=48)(hr:zsV mt.Ret=true)(hl:mt.Ret.length≤25):
  ∃p r,zk L m c mt loc stk b x=some p∧zm L c mt loc stk b x=some r∧znW mt.Stack p r∧zmg loc stk b p:=by
 have hq:∀k:Int,k<48→(x.Op == k)=false:=fun k hk=>qf (by omega)
 obtain ⟨k1,k2⟩:=zd3 (b:=b) h.shS (e:=[78]) (by decide)
 have P0:zk L m c mt loc stk b x=some (loc,(zai L [84] [mt.Ret] stk (b||!zo6 mt.Ret)).1,(zai L [84] [mt.Ret] stk (b||!zo6 mt.Ret)).2):=by
  rw [ztP (by omega)]
  unfold zc4
  rw [hq 46 (by omega),hq 47 (by omega),zkB (zt8 hl)]
  simp only [cond_false,Option.bind_some]
  rw [zfl h.made h.map (sh1 hl) h.shS]
  rfl
 have R0:zm L c mt loc stk b x=some (loc,(zm3 stk b).2.1,(zm3 stk b).2.2||!(!(mt.Ret == [86])&&(!(mt.Ret == [73])&&zmv L (zm3 stk b).1 mt.Ret))):=by
  rw [instr_plain (by omega) (by omega)]
  unfold zQ
  rw [hq 1 (by omega),hq 2 (by omega),hq 3 (by omega),hq 4 (by omega),hq 5 (by omega),hq 6 (by omega),hq 7 (by omega),hq 46 (by omega),hq 47 (by omega),qt ho]
  simp only [cond_false,cond_true]
  rw [zm4 h.shS]
  simp only [Option.bind_some]
  rw [zhx h.made (show (zm3 stk b).1.length≤25 from k1) hl]
  cases mt.Ret == [86] <;> cases mt.Ret == [73] <;> rfl
 refine ⟨_,_,P0,R0,?_,zeQ (fun e=>zbK _ _ _ (by rw [e];rfl)) h.shL h.shS (zdK _ _ _ _ _)⟩
 cases h1:mt.Ret == [86] with
 |true =>
  have e:mt.Ret=[86]:=by simpa using h1
  have:zo6 mt.Ret=false:=by unfold zo6;rw [e,zCN];rfl
  rw [this]
  exact zfN (zbK _ _ _ (by simp)) (by simp)
 |false =>
  cases h2:mt.Ret == [73] with
  |true =>
   have:zo6 mt.Ret=false:=by unfold zo6;rw [h2];rfl
   rw [this]
   exact zfN (zbK _ _ _ (by simp)) (by simp)
  |false =>
   have hm:zfq mt.Ret=true:=by unfold zsV at hr;rw [h1] at hr;simpa using hr
   have:zo6 mt.Ret=true:=by unfold zo6;rw [h2,hm];rfl
   rw [this]
   simp only [Bool.not_true,Bool.or_false,Bool.not_false,Bool.true_and]
   have key:((zm3 stk b).2.1,(zm3 stk b).2.2||!zmv L (zm3 stk b).1 mt.Ret)=zai L [84] [mt.Ret] stk b:=by
    rw [zeL [84] [78]]
    show ((zb2 [78] stk b).2.1,((zb2 [78] stk b).2.2||!(!((zb2 [78] stk b).1 == [73])))||!zmv L (zb2 [78] stk b).1 mt.Ret)=((zb2 [78] stk b).2.1,(zb2 [78] stk b).2.2||!zmv L (zb2 [78] stk b).1 mt.Ret)
    cases h3:(zb2 [78] stk b).1 == [73] with
    |true =>
     have e:(zb2 [78] stk b).1=[73]:=by simpa using h3
     rw [e,zAU h2 hm];simp
    |false=>simp
   rw [←key]
   refine zeY fun _=>?_
   have:=zpQ [78] stk b
   have:=h.room
   show (((zb2 [78] stk b).2.1).length:Int)≤mt.Stack
   omega
end
theorem zys(t:Tx):t.length≤(zfm t).length+1:=by
 cases t with
 |nil=>exact Nat.zero_le _
 |cons x r=>rw [zgz];split <;> simp
theorem zoZ{t:Tx}(h:zcy t=true):t.length≤8:=by
 unfold zcy zop at h
 simp only [Bool.and_eq_true,decide_eq_true_eq] at h
 have:=h.1.1.2.2
 omega
theorem zAh{t:Tx}(h:zfq t=true):t.length≤10:=by
 have h1:=zys t
 have h2:=zys (zfm t)
 unfold zfq at h
 rw [Bool.or_eq_true] at h
 rcases h with h |h
 ·have e:zfm (zfm t)=[73]:=by simpa using h
  rw [e] at h2
  simp at h2
  omega
 ·have:=zoZ h
  omega
theorem zoC{t:Tx}(h:zfq t=true):t.length≤25:=by have:=zAh h;omega
theorem zsW{t:Tx}(h:zsV t=true):t.length≤25:=by
 unfold zsV at h
 rw [Bool.or_eq_true] at h
 rcases h with h |h
 ·have e:t=[86]:=by simpa using h
  rw [e];decide
 ·exact zoC h
theorem zzA{t:Tx}(h:zm6 t=true):t.length≤25∧(t=[84]∨onS t):=by
 unfold zm6 at h
 simp only [Bool.or_eq_true,beq_iff_eq] at h
 rcases h with ((h |h) |h) |h
 ·subst h;exact ⟨zlo.1,.inr zlo.2⟩
 ·subst h;exact ⟨zyZ.1,.inr zyZ.2⟩
 ·subst h;exact ⟨by decide,.inl rfl⟩
 ·unfold zo6 at h
  rw [Bool.and_eq_true] at h
  exact ⟨zoC h.2,.inr (.inr h.2)⟩
theorem zz9{α:Type}{bad:List α→α→Bool}:∀{l pre:List α},gB bad pre l=false→∀x∈l,∃q,bad q x=false
 | [],_,_,x,hx=>by cases hx
 |y ::r,pre,h,x,hx=>by
  unfold gB at h
  rw [Bool.or_eq_false_iff] at h
  rcases List.mem_cons.1 hx with e |e
  ·rw [e];exact ⟨pre,h.1⟩
  ·exact zz9 h.2 x e
structure zwh(m:zc)(x:z8):Prop where
 locs:(x.Locals.length:Int)=m.Locals
 stks:(x.Stack.length:Int)≤m.Stack
 locT:∀t∈x.Locals,zm6 t=true
 stkT:∀t∈x.Stack,zm6 t=true∧t≠[84]
structure zle(m:zc):Prop where
 params:∀s∈m.Params,zfq s=true
 npar:m.Params.length≤6
 ret:zsV m.Ret=true
 locs:zaa m≤m.Locals∧m.Locals≤16
 stack:0≤m.Stack∧m.Stack≤16
 code:1≤m.Code.length∧m.Code.length≤100
 last:∃y,m.Code.getLast?=some y∧ziE y.Op=true
 ins:∀x∈m.Code,zlA x=true
 traps:∀y∈m.Traps,y.C=[]∨zcy y.C=true
 ntraps:m.Traps.length≤6
 maps:∀x∈m.Maps,zwh m x
 nmaps:m.Maps.length≤100
theorem btw{n a b:Int}(h:zn n a b=true):a≤n∧n≤b:=by
 unfold zn at h
 simpa using h
theorem zs3{l:List Tx}(h:ziz l=true):∀t∈l,zm6 t=true:=fun t ht=>by
 unfold ziz at h
 rw [Bool.not_eq_true',List.any_eq_false] at h
 simpa using h t ht
theorem zuK{m:zc}(h:zfH m=true):(∀s∈m.Params,zfq s=true)∧m.Params.length≤6∧zsV m.Ret=true:=by
 unfold zfH at h
 simp only [Bool.and_eq_true,Bool.not_eq_true',Bool.or_eq_false_iff,decide_eq_false_iff_not] at h
 obtain ⟨⟨⟨⟨h1,h2⟩,h3⟩,h4⟩,h5⟩:=h
 refine ⟨fun s hs=>?_,by omega,h4⟩
 unfold zta at h3
 rw [Bool.not_eq_true',List.any_eq_false] at h3
 simpa using h3 s hs
theorem zze{m:zc}(h:zfH m=true)(ha:m.Abstract=true):m.Static=false:=by
 unfold zfH at h
 rw [ha] at h
 simp only [Bool.and_eq_true,cond_true] at h
 obtain ⟨_,h5⟩:=h
 unfold zfT at h5
 simp only [Bool.and_eq_true,Bool.not_eq_true'] at h5
 first
  |exact h5.1
  |exact h5.1.1
  |exact h5.1.1.1
  |exact h5.1.1.1.1
theorem zCO{m:zc}(h:zfH m=true)(ha:m.Abstract=false):zle m:=by
 obtain ⟨p1,p2,p3⟩:=zuK h
 unfold zfH at h
 rw [ha] at h
 simp only [Bool.and_eq_true,cond_false] at h
 obtain ⟨_,_,hl,hs,⟨hi,ht⟩,hm⟩:=h
 have hl:=btw hl
 have hs:=btw hs
 unfold instrN at hi
 simp only [Bool.and_eq_true,Bool.not_eq_true'] at hi
 obtain ⟨i1,i2,i3⟩:=hi
 have i1:=btw i1
 unfold znO at ht
 simp only [Bool.and_eq_true,Bool.not_eq_true',decide_eq_true_eq] at ht
 obtain ⟨t1,t2⟩:=ht
 unfold zrB at hm
 simp only [Bool.and_eq_true,Bool.not_eq_true',decide_eq_true_eq] at hm
 obtain ⟨m1,m2⟩:=hm
 refine ⟨p1,p2,p3,hl,hs,by omega,?_,fun x hx=>?_,fun y hy=>?_,by omega,fun x hx=>?_,by omega⟩
 ·cases hg:m.Code.getLast? with
  |none=>rw [hg] at i2;cases i2
  |some y=>rw [hg] at i2;exact ⟨y,rfl,i2⟩
 ·have:=(List.any_eq_false.1 i3) x hx
  unfold zA8 at this
  simp only [Bool.or_eq_true,Bool.not_eq_true',not_or] at this
  simpa using this.1
 ·have:=(List.any_eq_false.1 t1) y hy
  unfold zqw at this
  simp only [Bool.or_eq_true,not_or,Bool.and_eq_true,Bool.not_eq_true',not_and,beq_eq_false_iff_ne] at this
  by_cases e:y.C=[]
  ·exact .inl e
  ·right
   have:=this.2 e
   simpa using this
 ·obtain ⟨q,hq⟩:=zz9 m1 x hx
  unfold zAf at hq
  simp only [Bool.or_eq_false_iff,Bool.not_eq_false',beq_iff_eq,decide_eq_false_iff_not] at hq
  obtain ⟨_,⟨h1,h2⟩,⟨h3,h4⟩,h5⟩:=hq
  refine ⟨h1,by omega,zs3 h3,fun t ht=>⟨zs3 h4 t ht,fun e=>?_⟩⟩
  subst e
  have:=(List.any_eq_false.1 h5) [84] ht
  simp at this
theorem zxj{l L:List za}(h:ze0 l L){x:za}(hx:x∈L){f:zc}(hf:f∈x.Methods):zfH f=true:=by
 rw [h.app] at hx
 rcases List.mem_append.1 hx with e |e
 ·have hg:giv.all (fun c=>decide (c.Methods.length=0))=true:=by decide +kernel
  have:=of_decide_eq_true (List.all_eq_true.1 hg x e)
  rw [List.eq_nil_of_length_eq_zero this] at hf;cases hf
 ·have:=h.may x e
  unfold zqQ at this
  simp only [Bool.and_eq_true,Bool.not_eq_true',decide_eq_true_eq] at this
  have h2:=ztb this.2.2.1 f hf
  rw [Bool.and_eq_true] at h2
  exact h2.2
theorem zyW{l L:List za}(h:ze0 l L){x:za}(hx:x∈L){f:zt}(hf:f∈x.Fields):zfq f.Type_=true:=by
 rw [h.app] at hx
 rcases List.mem_append.1 hx with e |e
 ·have hg:giv.all (fun c=>decide (c.Fields.length=0))=true:=by decide +kernel
  have:=of_decide_eq_true (List.all_eq_true.1 hg x e)
  rw [List.eq_nil_of_length_eq_zero this] at hf;cases hf
 ·have:=h.may x e
  unfold zqQ at this
  simp only [Bool.and_eq_true,Bool.not_eq_true',decide_eq_true_eq] at this
  have h2:=ztb this.2.1.2.1 f hf
  unfold zmu at h2
  simp only [Bool.and_eq_true] at h2
  exact h2.2
theorem zBW{x:zp}(h:zlA x=true):x.C.length≤10:=by
 unfold zlA at h
 simp only [Bool.and_eq_true] at h
 have:=h.1.2
 unfold zsA at this
 cases h1:zhM x.Op <;> rw [h1] at this
 ·cases h2:zAl x.Op <;> rw [h2] at this
  ·have e:x.C=[]:=by simpa using this
   rw [e];decide
  ·have:=zoZ (show zcy x.C=true from this);omega
 ·have:zo6 x.C=true:=this
  unfold zo6 at this
  rw [Bool.and_eq_true] at this
  exact zAh this.2
def zuI(mt:zc)(n:Int):Option z8:=mt.Maps.find? (fun x=>x.At == n)
def zvn(L:List za)(a b:List Tx):Bool:=((a.length:Int) == (b.length:Int))&&!(List.range a.length).any (fun i=>!zmv L ((a[i]?).getD []) ((b[i]?).getD []))
def znj(L:List za)(mt:zc)(loc stk:List Tx)(n:Int):Bool:=match zuI mt n with |some x=>zvn L loc x.Locals&&zvn L stk x.Stack |none=>false
theorem zA9{α:Type}(p:α→Bool)(l:List α):decide (ixF p 0 l<0)=!(l.find? p).isSome:=by
 rw [←zl8]
 by_cases h:ixF p 0 l<0
 ·rw [decide_eq_true h,decide_eq_false (by omega)];rfl
 ·rw [decide_eq_false h,decide_eq_true (by omega)];rfl
section
variable {l L : List za} {m : List (Tx × Int)} {c : Tx} {mt : zc} {loc stk : List Tx} {b : Bool}
theorem zuf{body:Int→Option (Sum Int (Sum Unit Bool))}{a b:List Tx}(ha:a.length≤1000)(hn:a.length=b.length)
  (hb:∀(i:Nat) x y,a[i]?=some x→b[i]?=some y→body (i:Int)=cond (!zmv L x y) (some (.inr (.inr false))) (some (.inl (IntKind.i64.wrap ((i:Int)+1)))))
  (he:body (a.length:Int)=some (.inr (.inl ()))):((zw body 0).bind fun o=>zU o (fun _=>some true) some)=some (zvn L a b):=by
 rw [zvH (n:=a.length) (g:=fun i=>cond (!zmv L ((a[i]?).getD []) ((b[i]?).getD [])) (some false) none) (u:=()) (fun i hi=>by
  have h1:a[i]?=some a[i]:=List.getElem?_eq_getElem hi
  have h2:b[i]?=some (b[i]'(by omega)):=List.getElem?_eq_getElem (by omega)
  rw [hb i _ _ h1 h2,h1,h2,zaz (by omega)]
  simp only [Option.getD_some]
  cases zmv L a[i] (b[i]'(by omega)) <;> rfl) he,zdB]
 unfold zvn
 rw [hn,beq_self_eq_true,Bool.true_and]
 cases (List.range b.length).any (fun i=>!zmv L ((a[i]?).getD []) ((b[i]?).getD [])) <;> rfl
theorem zwt{a b:List Tx}(h:a.length≠b.length):zvn L a b=false:=by
 unfold zvn
 rw [beq_eq_false_iff_ne.2 (show (a.length:Int)≠(b.length:Int) by omega)];rfl
theorem zwo(h:ze0 l L)(hm:zdz L m){a b:List Tx}(ha:ShL a)(hb2:∀t∈b,t.length≤25):zhy L m a b=some (zvn L a b):=by
 unfold zhy
 by_cases hn:a.length=b.length
 ·rw [show ((a.length:Int) == (b.length:Int))=true by rw [hn];exact beq_self_eq_true _]
  exact zuf (body:=fun z=>zdL L m a b z) ha.len hn (fun i x y hx hy=>by
   show zdL L m a b (i:Int)=_
   have:=ha.2 x (List.mem_of_getElem? hx)
   have:=hb2 y (List.mem_of_getElem? hy)
   unfold zdL
   rw [zgm hx,zD,zD,hx,hy]
   simp only [cond_true,Option.bind_some]
   rw [zo0 h hm (by omega) (by omega)];rfl) (by
   show zdL L m a b (a.length:Int)=_
   unfold zdL
   rw [zg2];rfl)
 ·rw [beq_eq_false_iff_ne.2 (show (a.length:Int)≠(b.length:Int) by omega),zwt hn];rfl
theorem zle.lenM(hk:zle mt):zkg mt.Maps:=by have:=hk.nmaps;unfold zkg;omega
theorem zpE(hk:zle mt){n:Int}{x:z8}(h:zuI mt n=some x):zwh mt x:=hk.maps x (List.mem_of_find?_eq_some h)
theorem zwh.loc25{x:z8}(h:zwh mt x):∀t∈x.Locals,t.length≤25:=fun t ht=>(zzA (h.locT t ht)).1
theorem zwh.stk25{x:z8}(h:zwh mt x):∀t∈x.Stack,t.length≤25:=fun t ht=>(zzA (h.stkT t ht).1).1
theorem ztv(hk:zle mt){n:Int}:zcI L m c mt loc stk b n=some (zuI mt n):=by
 unfold zcI zb4
 rw [show ((zw (fun z=>zas mt.Maps n z) 0).bind fun o=>zU o (fun b=>zbF) some)=_ from zcw (p:=fun x:z8=>x.At == n) hk.lenM
  (fun i x hx=>by
   unfold zas zeH
   rw [zgm hx,zD,hx];rfl) (by unfold zas;rw [zg2];rfl)]
 simp only [Option.bind_some]
 rw [zA9,zn7]
 unfold zuI
 cases mt.Maps.find? (fun x=>x.At == n) <;> rfl
theorem zuC(h:ze0 l L)(hm:zdz L m){x:z8}(hx:zwh mt x)(hl:ShL loc)(hs:ShL stk):zeG L m x loc stk=some (zvn L loc x.Locals&&zvn L stk x.Stack):=by
 unfold zeG
 rw [zwo h hm hl hx.loc25,zwo h hm hs hx.stk25]
 cases zvn L loc x.Locals <;> rfl
theorem zAb(h:ze0 l L)(hm:zdz L m)(hk:zle mt)(hl:ShL loc)(hs:ShL stk){n:Int}:zcJ L m c mt loc stk b n=some (b||!znj L mt loc stk n):=by
 unfold zcJ znj
 rw [ztv hk]
 simp only [Option.bind_some]
 cases hf:zuI mt n with
 |none=>rfl
 |some x =>
  show (zeG L m x loc stk).bind _=_
  rw [zuC h hm (zpE hk hf) hl hs];rfl
theorem zA3(h:ze0 l L)(hm:zdz L m)(hk:zle mt)(hl:ShL loc){s:List Tx}(hs:ShL s){n:Int}:zdl L m c mt loc stk b n s=some (b||!znj L mt loc s n):=by
 unfold zdl znj
 rw [ztv hk]
 simp only [Option.bind_some]
 cases hf:zuI mt n with
 |none=>rfl
 |some x =>
  show (zeG L m x loc s).bind _=_
  rw [zuC h hm (zpE hk hf) hl hs];rfl
end
section
variable {l L : List za} {m : List (Tx × Int)} {c : Tx} {mt : zc} {loc stk : List Tx} {b : Bool} {x : zp}
def zm8(L:List za)(C M:Tx):FR:=((zgX L C).findSome? (zyD L M)).getD ([],zF,false)
theorem zwY(h:ze0 l L)(C M:Tx):(zm8 L C M).2.1.Type_.length≤25∧((zm8 L C M).2.2=true→zfq (zm8 L C M).2.1.Type_=true):=by
 unfold zm8
 cases hq:(zgX L C).findSome? (zyD L M) with
 |none=>exact ⟨Nat.zero_le _,fun e=>by cases e⟩
 |some r =>
  obtain ⟨s,hs,e⟩:=List.exists_of_findSome?_eq_some hq
  unfold zyD at e
  cases hc:cl L s with
  |none=>rw [hc] at e;cases e
  |some y =>
   rw [hc] at e
   simp only at e
   cases hf:y.Fields.find? (fun y=>y.Name == M) with
   |none=>rw [hf] at e;cases e
   |some f =>
    rw [hf] at e
    cases e
    have:=zyW h (zcX hc).1 (List.mem_of_find?_eq_some hf)
    exact ⟨zoC this,fun _=>this⟩
structure zCD(r:MR):Prop where
 params:∀s∈r.2.1.Params,zfq s=true
 npar:r.2.1.Params.length≤6
 ret25:r.2.1.Ret.length≤25
 ret:r.2.2=true→zsV r.2.1.Ret=true
theorem zxl:zCD ([],zM,false):=⟨fun s hs=>(List.not_mem_nil (show s∈([]:List Tx) from hs)).elim,Nat.zero_le _,Nat.zero_le _,fun e=>by cases e⟩
theorem zxi{may:zc→Bool}{n s:Tx}{r:MR}(e:zrD L may n s=some r):∃y f,cl L s=some y∧f∈y.Methods∧r=(s,f,true):=by
 unfold zrD at e
 cases hc:cl L s with
 |none=>rw [hc] at e;cases e
 |some y =>
  rw [hc] at e
  simp only at e
  cases hf:y.Methods.find? (fun y=>y.Name == n) with
  |none=>rw [hf] at e;cases e
  |some f =>
   rw [hf] at e
   simp only at e
   cases hm:may f with
   |false=>rw [hm] at e;cases e
   |true =>
    rw [hm] at e
    cases e
    exact ⟨y,f,rfl,List.mem_of_find?_eq_some hf,rfl⟩
theorem zxk(h:ze0 l L)(may:zc→Bool)(n:Tx)(T:List Tx):zCD ((T.findSome? (zrD L may n)).getD ([],zM,false)):=by
 cases hq:T.findSome? (zrD L may n) with
 |none=>exact zxl
 |some r =>
  obtain ⟨s,hs,e⟩:=List.exists_of_findSome?_eq_some hq
  obtain ⟨y,f,hc,hf,rfl⟩:=zxi e
  obtain ⟨p1,p2,p3⟩:=zuK (zxj h (zcX hc).1 hf)
  exact ⟨p1,p2,zsW p3,fun _=>p3⟩
theorem zBm(h:ze0 l L)(C n:Tx):zCD (zoR L C n)∧((zoR L C n).2.2=true→(zoR L C n).2.1.Static=false):=by
 unfold zoR
 cases hF:isF L C with
 |false=>exact ⟨zxl,fun e=>by cases e⟩
 |true =>
  refine ⟨zxk h _ _ _,?_⟩
  simp only [cond_true]
  cases hq:(C ::ze4 L C).findSome? (zrD L zfd n) with
  |none=>exact fun e=>by cases e
  |some r =>
   obtain ⟨s,hs,e⟩:=List.exists_of_findSome?_eq_some hq
   obtain ⟨y,f,hc,hf,rfl⟩:=zxi e
   intro _
   have hI:isF L s=true:=by
    rcases List.mem_cons.1 hs with e |e
    ·rw [e];exact hF
    ·exact (zsm.1 e).2
   have hy:y.Interface=true:=by unfold isF at hI;rw [hc] at hI;exact hI
   have ha:=ztl h (zcX hc).1 hf
   exact zze (zxj h (zcX hc).1 hf) (ha.trans hy)
theorem zxt(ho:x.Op=20):zk L m c mt loc stk b x=some (loc,stk,b):=by
 unfold zk
 rw [bf (by omega),qf (show x.Op≠13 by omega),bf (by omega),qt ho]
 rfl
theorem zxu(h:zeP l L m mt loc stk b)(ho:21≤x.Op∧x.Op≤26):zk L m c mt loc stk b x=some (loc,zai L [84] [[73]] stk b):=by
 unfold zk
 rw [bf (by omega),qf (show x.Op≠13 by omega),bf (by omega),qf (show x.Op≠20 by omega),bt ho]
 simp only [cond_false,cond_true]
 rw [zfl h.made h.map (sh1 zlo.1) h.shS]
 rfl
theorem zxv(h:zeP l L m mt loc stk b)(ho:27≤x.Op∧x.Op≤32):zk L m c mt loc stk b x=some (loc,zai L [84] [[73],[73]] stk b):=by
 unfold zk
 rw [bf (by omega),qf (show x.Op≠13 by omega),bf (by omega),qf (show x.Op≠20 by omega),bf (by omega),bt ho]
 simp only [cond_false,cond_true]
 rw [zfl h.made h.map (sh2 zlo.1 zlo.1) h.shS]
 rfl
theorem zxw(h:zeP l L m mt loc stk b)(ho:33≤x.Op∧x.Op≤34):zk L m c mt loc stk b x=some (loc,(zhw [84] stk b).2):=by
 unfold zk
 rw [bf (by omega),qf (show x.Op≠13 by omega),bf (by omega),qf (show x.Op≠20 by omega),bf (by omega),bf (by omega),bt ho]
 simp only [cond_false,cond_true]
 rw [zqS h.shS]
 rfl
theorem zxx(h:zeP l L m mt loc stk b)(ho:35≤x.Op∧x.Op≤36):zk L m c mt loc stk b x=some (loc,(zhw [84] (zhw [84] stk b).2.1 (zhw [84] stk b).2.2).2):=by
 unfold zk
 rw [bf (by omega),qf (show x.Op≠13 by omega),bf (by omega),qf (show x.Op≠20 by omega),bf (by omega),bf (by omega),bf (by omega),bt ho]
 simp only [cond_false,cond_true]
 rw [zqS h.shS]
 simp only [Option.bind_some]
 rw [zqS (zrR h.shS (by decide)).2]
 rfl
theorem zsH(ho:37≤x.Op∧x.Op≤41):zk L m c mt loc stk b x=(zc8 L m c mt loc stk b x).bind fun v=>some (loc,v.1,v.2):=by
 have e:((x.Op == (37:Int))||zaM x.Op 38 41)=true:=by
  by_cases h:x.Op=37
  ·rw [qt h];rfl
  ·rw [bt (show (38:Int)≤x.Op∧x.Op≤41 by omega),Bool.or_true]
 unfold zk
 rw [bf (by omega),qf (show x.Op≠13 by omega),bf (by omega),qf (show x.Op≠20 by omega),bf (by omega),bf (by omega),bf (by omega),bf (by omega),e]
 rfl
theorem zzk(ho:42≤x.Op∧x.Op≤45):zk L m c mt loc stk b x=(zcH L m c mt loc stk b x).bind fun v=>some (loc,v.1,v.2):=by
 unfold zk
 rw [bf (by omega),qf (show x.Op≠13 by omega),bf (by omega),qf (show x.Op≠20 by omega),bf (by omega),bf (by omega),bf (by omega),bf (by omega),qf (show x.Op≠37 by omega),bf (by omega),bt ho]
 rfl
theorem zia(ho:49≤x.Op∧x.Op≤55):zk L m c mt loc stk b x=(zay L m c mt loc stk b x).bind fun v=>some (loc,v.1,v.2):=by
 unfold zk
 rw [bf (by omega),qf (show x.Op≠13 by omega),bf (by omega),qf (show x.Op≠20 by omega),bf (by omega),bf (by omega),bf (by omega),bf (by omega),qf (show x.Op≠37 by omega),bf (by omega),bf (by omega),bf (by omega),bt ho]
 rfl
end
theorem zl3{α R:Type}{body:Bool×Int→Option (Sum (Bool×Int) (Sum Bool R))}{l:List α}{p:α→Bool}(hl:l.length≤1000000)
  (hb:∀(i:Nat) x (b:Bool),l[i]?=some x→body (b,(i:Int))=some (.inl (b||p x,IntKind.i64.wrap ((i:Int)+1))))
  (he:∀b:Bool,body (b,(l.length:Int))=some (.inr (.inl b))) (b0:Bool):zw body (b0,0)=some (.inl (b0||l.any p)):=by
 have key:∀(r pre:List α) (b:Bool),l=pre++r→zw body (b,(pre.length:Int))=some (.inl (b||r.any p)):=by
  intro r
  induction r with
  |nil =>
   intro pre b h
   have e:l=pre:=by rw [h,List.append_nil]
   subst e
   rw [zN,he]
   simp
  |cons x r ih =>
   intro pre b h
   have hlen:l.length=pre.length+(r.length+1):=by rw [h];simp
   have hx:l[pre.length]?=some x:=by rw [h];simp
   rw [zN,hb _ x b hx,zaz (by omega)]
   have:=ih (pre++[x]) (b||p x) (by rw [h];simp)
   rw [show (pre++[x]).length=pre.length+1 by simp] at this
   simp only [Option.bind_some,Sum.elim_inl]
   rw [this,List.any_cons,Bool.or_assoc]
 exact key l [] b0 rfl
def zgB(L:List za)(mt:zc)(loc stk:List Tx)(n:Int)(g:Bool):List Tx×List Tx×Bool:=
 match zuI mt n with |none=>(loc,stk,!g) |some x=>(x.Locals,x.Stack,g&&!znj L mt loc stk n)
def zp1:Tx:=[84,104,114,111,119,110]
def zqv(t:zaF):Tx:=cond (t.C == []) zp1 t.C
def zp4(L:List za)(mt:zc)(loc:List Tx)(n:Int)(t:zaF):Bool:=
 !zt9 L (zqv t) zp1||((decide (t.From≤n)&&decide (n<t.To))&&!znj L mt loc [zqv t] t.At)
section
variable {l L : List za} {m : List (Tx × Int)} {c : Tx} {mt : zc} {loc stk : List Tx} {b : Bool}
theorem zwh.shl{x:z8}(hk:zle mt)(h:zwh mt x):ShL x.Locals:=⟨by have:=h.locs;have:=hk.locs.2;omega,h.loc25⟩
theorem zwh.shs{x:z8}(hk:zle mt)(h:zwh mt x):ShL x.Stack:=⟨by have:=h.stks;have:=hk.stack.2;omega,h.stk25⟩
theorem zwT(h:ze0 l L)(hm:zdz L m)(hk:zle mt)(hl:ShL loc)(hs:ShL stk){n:Int}{g:Bool}:
  zd1 L m c mt loc stk b n g=some ((zgB L mt loc stk n g).1,(zgB L mt loc stk n g).2.1,b||(zgB L mt loc stk n g).2.2):=by
 unfold zd1 zgB
 rw [ztv hk]
 simp only [Option.bind_some]
 cases hf:zuI mt n with
 |none=>rfl
 |some x =>
  have hx:=zpE hk hf
  simp only [Option.isNone_some,cond_false]
  have key:∀v:Bool,zbG (some x) v=some (x.Locals,x.Stack,v):=fun v=>by
   unfold zbG
   show (zng x.Locals).bind _=_
   rw [zrc (hx.shl hk).len]
   simp only [Option.bind_some]
   rw [zrc (hx.shs hk).len]
   rfl
  rw [zAb h hm hk hl hs]
  cases g with
  |true=>simp only [cond_true,Option.bind_some];rw [key];rfl
  |false=>simp only [cond_false];rw [key];simp
theorem zeP.to{b':Bool}(h:zeP l L m mt loc stk b):zeP l L m mt loc stk b':=⟨h.made,h.map,h.lens,h.shL,h.shS,h.on,h.room,h.onL⟩
theorem ztr(h:zeP l L m mt loc stk b)(hk:zle mt){n:Int}{g b':Bool}:zeP l L m mt (zgB L mt loc stk n g).1 (zgB L mt loc stk n g).2.1 b':=by
 unfold zgB
 cases hf:zuI mt n with
 |none=>exact h.to
 |some x =>
  have hx:=zpE hk hf
  exact ⟨h.made,h.map,h.lens,hx.shl hk,hx.shs hk,fun t ht=>((zzA (hx.stkT t ht).1).2).resolve_left (hx.stkT t ht).2,hx.stks,fun t ht=>(zzA (hx.locT t ht)).2⟩
theorem zvd(hk:zle mt){t:zaF}(ht:t∈mt.Traps):(zqv t).length≤25:=by
 unfold zqv
 rcases hk.traps t ht with e |e
 ·rw [e];decide
 ·cases t.C == []
  ·have:=zoZ e;show t.C.length≤25;omega
  ·show zp1.length≤25;decide
theorem zBA(h:ze0 l L)(hm:zdz L m)(hk:zle mt)(hl:ShL loc){n:Int}:zc9 L m c mt loc stk b n=some (b||mt.Traps.any (zp4 L mt loc n)):=by
 unfold zc9
 rw [zl3 (body:=fun z=>zbe L m c mt loc stk n z.1 z.2) (l:=mt.Traps) (p:=zp4 L mt loc n) (by have:=hk.ntraps;omega) (fun i t b hi=>by
  have ht:=List.mem_of_getElem? hi
  have hc:=zvd hk ht
  have key:∀v:Tx,v=zqv t→zbI L m c mt loc stk n b (i:Int) t v=some (.inl (b||zp4 L mt loc n t,IntKind.i64.wrap ((i:Int)+1))):=fun v hv=>by
   unfold zbI zcm
   rw [hv,zom h hm hc (by show _≤_;decide)]
   simp only [Option.bind_some]
   rw [zA3 h hm hk hl (sh1 hc)]
   unfold zp4 zp1
   simp only [Option.bind_some]
   cases decide (t.From≤n)&&decide (n<t.To) <;> cases b <;> simp
  show zbe L m c mt loc stk n b (i:Int)=_
  unfold zbe
  rw [zgm hi,zD,hi]
  simp only [cond_true,Option.bind_some]
  cases he:t.C == [] with
  |true=>exact key _ (by unfold zqv;rw [he];rfl)
  |false=>exact key _ (by unfold zqv;rw [he];rfl)) (fun b=>by
  show zbe L m c mt loc stk n b (mt.Traps.length:Int)=_
  unfold zbe
  rw [zg2];rfl)]
 rfl
end
theorem zuz{α β:Type}(p:α→Bool)(g:α→β):∀l:List α,l.findSome? (fun x=>cond (p x) (some (g x)) none)=(l.find? p).map g
 | []=>rfl
 |x ::l=>by
  rw [List.findSome?_cons,List.find?_cons]
  cases p x with
  |true=>rfl
  |false=>exact zuz p g l
section
variable {l L : List za} {m : List (Tx × Int)} {c : Tx} {mt : zc} {loc stk : List Tx} {b : Bool} {x : zp}
def zBY(mt:zc)(n:Int):z8×Bool:=match zuI mt n with |some x=>(x,true) |none=>(z8.mk 0 [] [],false)
theorem zrA(hk:zle mt){n:Int}:zc2 L c mt loc stk b n=some (zBY mt n):=by
 have hl:=hk.nmaps
 unfold zc2
 rw [show zw (fun z=>zbx mt n z) 0=some (zpr () (mt.Maps.findSome? (fun x=>cond (x.At == n) (some (x,true)) none))) from zeR (fun i x hx=>by
  have hi:=(List.getElem?_eq_some_iff.1 hx).1
  show zbx mt n (i:Int)=_
  unfold zbx
  rw [zgm hx,zD,hx,zaz (by omega)]
  simp only [cond_true,Option.bind_some]
  cases x.At == n <;> rfl) (by
  show zbx mt n (mt.Maps.length:Int)=_
  unfold zbx
  rw [zg2];rfl),zuz (fun x:z8=>x.At == n)]
 unfold zBY zuI
 cases mt.Maps.find? (fun x=>x.At == n) <;> rfl
theorem zyP(h:ze0 l L){a b:List Tx}(ha:ShL a)(hb2:∀t∈b,t.length≤25):zdg L a b=some (zvn L a b):=by
 unfold zdg
 by_cases hn:a.length=b.length
 ·rw [show ((a.length:Int) == (b.length:Int))=true by rw [hn];exact beq_self_eq_true _]
  exact zuf (body:=fun z=>zb9 L a b z) ha.len hn (fun i x y hx hy=>by
   show zb9 L a b (i:Int)=_
   have:=ha.2 x (List.mem_of_getElem? hx)
   have:=hb2 y (List.mem_of_getElem? hy)
   unfold zb9
   rw [zgm hx,zD,zD,hx,hy]
   simp only [cond_true,Option.bind_some]
   rw [zhx h (by omega) (by omega)];rfl) (by
   show zb9 L a b (a.length:Int)=_
   unfold zb9
   rw [zg2];rfl)
 ·rw [beq_eq_false_iff_ne.2 (show (a.length:Int)≠(b.length:Int) by omega),zwt hn];rfl
theorem zw6(h:ze0 l L)(hk:zle mt){p q:List Tx}(hp:ShL p)(hq:ShL q){n:Int}:zdx L c mt loc stk b n p q=some (b||!znj L mt p q n):=by
 unfold zdx znj
 rw [zrA hk]
 unfold zBY
 cases hf:zuI mt n with
 |none=>rfl
 |some x =>
  have hx:=zpE hk hf
  simp only [Option.bind_some,cond_true]
  rw [zyP h hp hx.loc25,zyP h hq hx.stk25]
  cases zvn L p x.Locals <;> rfl
theorem zA4(h:ze0 l L)(hk:zle mt){p q:List Tx}(hp:ShL p)(hq:ShL q){n:Int}:zd0 L c mt loc stk b n p q=some (b||!znj L mt p q n):=by
 unfold zd0 znj
 rw [zrA hk]
 unfold zBY
 cases hf:zuI mt n with
 |none=>rfl
 |some x =>
  have hx:=zpE hk hf
  simp only [Option.bind_some,cond_true]
  rw [zyP h hp hx.loc25,zyP h hq hx.stk25]
  cases zvn L p x.Locals <;> rfl
theorem zBB(h:ze0 l L)(hk:zle mt)(hl:ShL loc){n:Int}:zct L c mt loc stk b n=some (b||mt.Traps.any (zp4 L mt loc n)):=by
 unfold zct
 rw [zl3 (body:=fun z=>zby L c mt loc stk n z.1 z.2) (l:=mt.Traps) (p:=zp4 L mt loc n) (by have:=hk.ntraps;omega) (fun i t b hi=>by
  have ht:=List.mem_of_getElem? hi
  have hc:=zvd hk ht
  have key:∀v:Tx,v=zqv t→zcj L c mt loc stk n b (i:Int) t v=some (.inl (b||zp4 L mt loc n t,IntKind.i64.wrap ((i:Int)+1))):=fun v hv=>by
   unfold zcj zcQ
   rw [hv,zqT h hc (by decide)]
   simp only [Option.bind_some]
   rw [zA4 h hk hl (sh1 hc)]
   unfold zp4 zp1
   simp only [Option.bind_some]
   cases decide (t.From≤n)&&decide (n<t.To) <;> cases b <;> simp
  show zby L c mt loc stk n b (i:Int)=_
  unfold zby
  rw [zgm hi,zD,hi]
  simp only [cond_true,Option.bind_some]
  cases he:t.C == [] with
  |true=>exact key _ (by unfold zqv;rw [he];rfl)
  |false=>exact key _ (by unfold zqv;rw [he];rfl)) (fun b=>by
  show zby L c mt loc stk n b (mt.Traps.length:Int)=_
  unfold zby
  rw [zg2];rfl)]
 rfl
theorem znm{s:List Tx}{e:Bool}(h:zeP l L m mt loc stk b)(hk:zle mt)(hp:zk L m c mt loc stk b x=some (loc,s,e))
  (hr:zm L c mt loc stk b x=(za7 L c mt loc x s e).bind fun v=>some (loc,v.1,v.2)) (hs:s<+:stk) (he:b=true→e=true):
  ∃p r,zk L m c mt loc stk b x=some p∧zm L c mt loc stk b x=some r∧znW mt.Stack (p.1,p.2.1,p.2.2||!znj L mt p.1 p.2.1 x.A) r∧zmg loc stk b p:=by
 have hl:=hs.length_le
 have hS:ShL s:=⟨by have:=h.shS.1;omega,fun t ht=>h.shS.2 t (hs.subset ht)⟩
 refine ⟨(loc,s,e),(loc,s,e||!znj L mt loc s x.A),hp,?_,zeY fun _=>by have:=h.room;show (s.length:Int)≤mt.Stack;omega,zeQ he h.shL h.shS hs⟩
 rw [hr]
 unfold za7
 rw [zw6 h.made hk h.shL hS];rfl
theorem instr_test(ho:21≤x.Op∧x.Op≤36):zm L c mt loc stk b x=(zcP L c mt loc stk b x).bind fun v=>some (loc,v.1,v.2):=by
 unfold zm
 rw [cf (by omega),ct ho]
 rfl
theorem zx8(h:zeP l L m mt loc stk b)(hk:zle mt)(ho:20≤x.Op∧x.Op≤36):
  ∃p r,zk L m c mt loc stk b x=some p∧zm L c mt loc stk b x=some r∧znW mt.Stack (p.1,p.2.1,p.2.2||!znj L mt p.1 p.2.1 x.A) r∧zmg loc stk b p:=by
 by_cases h0:x.Op=20
 ·refine znm (s:=stk) (e:=b) h hk (zxt h0) ?_ (List.prefix_refl _) id
  unfold zm za7
  rw [cf (by omega),cf (by omega),qt h0]
  simp only [cond_false,cond_true]
  rw [zw6 h.made hk h.shL h.shS]
  rfl
 by_cases h1:x.Op≤26
 ·refine znm (s:=(zai L [84] [[73]] stk b).1) (e:=(zai L [84] [[73]] stk b).2) h hk (zxu h ⟨by omega,h1⟩) ?_ (zdK _ _ _ _ _) (zbK _ _ _)
  rw [instr_test ⟨by omega,ho.2⟩]
  unfold zcP
  rw [decide_eq_true h1]
  simp only [cond_true]
  rw [zel h.made (sh1 zlo.1) h.shS,zeL [78] [84]]
  rfl
 by_cases h2:x.Op≤32
 ·refine znm (s:=(zai L [84] [[73],[73]] stk b).1) (e:=(zai L [84] [[73],[73]] stk b).2) h hk (zxv h ⟨by omega,h2⟩) ?_ (zdK _ _ _ _ _) (zbK _ _ _)
  rw [instr_test ⟨by omega,ho.2⟩]
  unfold zcP
  rw [decide_eq_false h1,decide_eq_true h2]
  simp only [cond_true,cond_false]
  rw [zel h.made (sh2 zlo.1 zlo.1) h.shS,zeL [78] [84]]
  rfl
 have e2:=(znJ (b:=b) h.on).1
 by_cases h3:x.Op≤34
 ·refine znm (s:=(zhw [84] stk b).2.1) (e:=(zhw [84] stk b).2.2) h hk (zxw h ⟨by omega,h3⟩) ?_ (zkS _ _ _) zmb
  rw [instr_test ⟨by omega,ho.2⟩]
  unfold zcP
  rw [decide_eq_false h1,decide_eq_false h2,decide_eq_true h3]
  simp only [cond_true,cond_false]
  rw [zm4 h.shS]
  simp only [Option.bind_some]
  rw [e2]
 ·refine znm (s:=(zhw [84] (zhw [84] stk b).2.1 (zhw [84] stk b).2.2).2.1) (e:=(zhw [84] (zhw [84] stk b).2.1 (zhw [84] stk b).2.2).2.2) h hk (zxx h ⟨by omega,ho.2⟩) ?_ ((zkS _ _ _).trans (zkS _ _ _)) (fun e=>zmb (zmb e))
  rw [instr_test ⟨by omega,ho.2⟩]
  unfold zcP
  rw [decide_eq_false h1,decide_eq_false h2,decide_eq_false h3]
  simp only [cond_false]
  rw [zm4 h.shS]
  simp only [Option.bind_some]
  rw [e2,zm4 (zrR h.shS (by decide)).2]
  simp only [Option.bind_some]
  rw [(znJ fun t ht=>h.on t ((zkS _ _ _).subset ht)).1]
end
section
variable {l L : List za} {m : List (Tx × Int)} {c : Tx} {mt : zc} {loc stk : List Tx} {b : Bool} {x : zp}
theorem instr_field(ho:37≤x.Op∧x.Op≤41):zm L c mt loc stk b x=(zcs L c mt loc stk b x).bind fun v=>some (loc,v.1,v.2):=by
 unfold zm
 rw [cf (by omega),cf (by omega),qf (show x.Op≠20 by omega),ct ho]
 rfl
def zAi(L:List za)(C:Tx):Bool:=match cl L C with |some y=>!y.Interface |none=>false
theorem zzH(h:zeP l L m mt loc stk b)(ho:x.Op=37)(hC:x.C.length≤25):
  ∃p r,zk L m c mt loc stk b x=some p∧zm L c mt loc stk b x=some r∧znW mt.Stack p r∧zmg loc stk b p:=by
 have h26:=h.made.len
 have hP:zk L m c mt loc stk b x=some (loc,stk++[x.C],b||!zAi L x.C):=by
  rw [zsH (by omega)]
  unfold zc8 zAi
  rw [qt ho]
  simp only [cond_true]
  rw [zjO h.map]
  simp only [Option.bind_some]
  rw [zeJ h.shS.len]
  cases cl L x.C <;> rfl
 have hK:zmg loc stk b (loc,stk++[x.C],b||!zAi L x.C):=zek (fun e=>by rw [e];rfl) h.shL h.shS (List.prefix_refl _) hC fun hb=>.inr (by
  simp only [Bool.or_eq_false_iff,Bool.not_eq_false'] at hb
  have hn:=hb.2
  unfold zAi at hn
  cases hc:cl L x.C with
  |none=>rw [hc] at hn;cases hn
  |some y=>exact zvB (znZ (zj3 h.made (zhq hc))) hC)
 cases hc:cl L x.C with
 |none =>
  have e:zAi L x.C=false:=by unfold zAi;rw [hc]
  refine ⟨_,(loc,stk,true),hP,?_,zfN (by rw [e];simp) rfl,hK⟩
  rw [instr_field (by omega)]
  unfold zcs
  rw [zjN (by omega)]
  simp only [Option.bind_some]
  rw [zot,zmH hc]
  rfl
 |some y =>
  have e:zAi L x.C=!y.Interface:=by unfold zAi;rw [hc]
  refine ⟨_,_,hP,?_,zeE _,hK⟩
  ·rw [instr_field (by omega)]
   unfold zcs
   rw [zjN (by omega)]
   simp only [Option.bind_some]
   rw [zot,zhq hc,qt ho]
   simp only [Bool.not_true,cond_false,cond_true]
   rw [znk,hc]
   simp only [Option.bind_some]
   rw [zeK h.shS.len,←e]
   rfl
theorem zpz{b0:Bool}{ts:List Tx}(hb:b0=true→b=true)(hl:ShL loc)(hs:ShL stk):zmg loc stk b0 (loc,zai L [84] ts stk b):=
 zeQ (s:=(zai L [84] ts stk b).1) (b:=(zai L [84] ts stk b).2) (fun e=>zbK _ _ _ (hb e)) hl hs (zdK _ _ _ _ _)
def zqI(L:List za)(b:Bool)(x:zp):Bool:=b||!((zm8 L x.C x.M).2.2&&((zm8 L x.C x.M).2.1.Static == ((x.Op == (40:Int))||(x.Op == (41:Int)))))
def zuA(L:List za)(stk:List Tx)(b:Bool)(x:zp):List Tx×Bool:=
 cond (x.Op == 38) ((zai L [84] [x.C] stk (zqI L b x)).1++[(zm8 L x.C x.M).2.1.Type_],(zai L [84] [x.C] stk (zqI L b x)).2)
  (cond (x.Op == 39) (zai L [84] [(zm8 L x.C x.M).2.1.Type_,x.C] stk (zqI L b x))
   (cond (x.Op == 40) (stk++[(zm8 L x.C x.M).2.1.Type_],zqI L b x) (zai L [84] [(zm8 L x.C x.M).2.1.Type_] stk (zqI L b x))))
theorem zpJ(h:zeP l L m mt loc stk b)(ho:38≤x.Op∧x.Op≤41)(hC:x.C.length≤25):zk L m c mt loc stk b x=some (loc,zuA L stk b x):=by
 have hT:=(zwY h.made x.C x.M).1
 rw [zsH (by omega)]
 unfold zc8 zuA
 rw [qf (show x.Op≠37 by omega),zyV h.made h.map h.lens]
 simp only [cond_false,Option.bind_some]
 rw [show (((zgX L x.C).findSome? (zyD L x.M)).getD ([],zF,false))=zm8 L x.C x.M from rfl]
 rw [show (b||!((zm8 L x.C x.M).2.2&&((zm8 L x.C x.M).2.1.Static == ((x.Op == (40:Int))||(x.Op == (41:Int))))))=zqI L b x from rfl]
 rw [zfl h.made h.map (sh1 hC) h.shS,zfl h.made h.map (sh2 hC hT) h.shS,zfl h.made h.map (sh1 hT) h.shS,zeJ h.shS.len]
 simp only [Option.bind_some,List.reverse_singleton]
 rw [zeJ (zd4 (by decide) _ _ _ h.shS).len]
 cases x.Op == 38 <;> cases x.Op == 39 <;> cases x.Op == 40 <;> rfl
theorem zy0(hb:zqI L b x=true):(zuA L stk b x).2=true:=by
 unfold zuA
 cases x.Op == 38 <;> cases x.Op == 39 <;> cases x.Op == 40 <;> first |exact zbK _ _ _ hb |exact hb
theorem zlp(h:zeP l L m mt loc stk b)(hC:x.C.length≤25):zmg loc stk b (loc,zuA L stk b x):=by
 obtain ⟨hT,hM⟩:=zwY h.made x.C x.M
 have hb0:b=true→zqI L b x=true:=fun e=>by unfold zqI;rw [e];rfl
 have hF:zqI L b x=false→zyI (zm8 L x.C x.M).2.1.Type_:=fun e=>by
  unfold zqI at e
  simp only [Bool.or_eq_false_iff,Bool.not_eq_false',Bool.and_eq_true] at e
  exact zvB (hM e.2.1) hT
 have ht:∀{ts:List Tx},(zai L [84] ts stk (zqI L b x)).2=false→zqI L b x=false:=fun {ts} e=>by
  cases hq:zqI L b x with
  |false=>rfl
  |true=>rw [zbK _ _ _ hq] at e;cases e
 unfold zuA
 cases x.Op == 38 with
 |true=>exact zek (fun e=>zbK _ _ _ (hb0 e)) h.shL h.shS (zdK _ _ _ _ _) hT fun e=>.inr (hF (ht e))
 |false =>
  cases x.Op == 39 with
  |true=>exact zpz hb0 h.shL h.shS
  |false =>
   cases x.Op == 40 with
   |true=>exact zek hb0 h.shL h.shS (List.prefix_refl _) hT fun e=>.inr (hF e)
   |false=>exact zpz hb0 h.shL h.shS
theorem zv7(h:zeP l L m mt loc stk b)(ho:38≤x.Op∧x.Op≤41)(hC:x.C.length≤25):
  ∃p r,zk L m c mt loc stk b x=some p∧zm L c mt loc stk b x=some r∧znW mt.Stack p r∧zmg loc stk b p:=by
 have h26:=h.made.len
 have hT:=(zwY h.made x.C x.M).1
 have hD:zcs L c mt loc stk b x=cond (!zda L x.C) (some (stk,true)) (cond (zqI L b x) (some (stk,zqI L b x))
   (cond ((x.Op == (39:Int))||(x.Op == (41:Int))) ((zS L c mt loc stk (zqI L b x) [(zm8 L x.C x.M).2.1.Type_]).bind fun v12=>zaw L c mt loc x (zm8 L x.C x.M) v12.1 v12.2) (zaw L c mt loc x (zm8 L x.C x.M) stk (zqI L b x)))):=by
  unfold zcs
  rw [zjN (by omega)]
  simp only [Option.bind_some]
  rw [zot,qf (show x.Op≠37 by omega),zsU h.made h.lens]
  rfl
 cases hb:zqI L b x with
 |true =>
  refine ⟨_,(loc,stk,true),zpJ (c:=c) h ho hC,?_,zfN (zy0 hb) rfl,zlp h hC⟩
  rw [instr_field (by omega),hD,hb]
  cases zda L x.C <;> rfl
 |false =>
  have hn:zda L x.C=true:=by
   cases hq:zda L x.C with
   |true=>rfl
   |false =>
    have:zm8 L x.C x.M=([],zF,false):=by unfold zm8;rw [zlX hq];rfl
    unfold zqI at hb
    rw [this] at hb
    simp at hb
  rw [hn,hb] at hD
  simp only [Bool.not_true,cond_false] at hD
  have hr:=h.room
  have hl1:=zjC (L:=L) [84] [x.C] stk false
  have hl2:=zjC (L:=L) [84] [(zm8 L x.C x.M).2.1.Type_,x.C] stk false
  have hl3:=zjC (L:=L) [84] [(zm8 L x.C x.M).2.1.Type_] stk false
  have hs3:=zd4 (L:=L) (e:=[84]) (by decide) [(zm8 L x.C x.M).2.1.Type_] stk false h.shS
  have ho4:x.Op=38∨x.Op=39∨x.Op=40∨x.Op=41:=by omega
  rcases ho4 with h4 |h4 |h4 |h4
  ·have e:zuA L stk b x=((zai L [84] [x.C] stk false).1++[(zm8 L x.C x.M).2.1.Type_],(zai L [84] [x.C] stk false).2):=by unfold zuA;rw [hb,qt h4];rfl
   have hO:=zpJ (c:=c) h ho hC
   have hK:=zlp (x:=x) h hC
   rw [e] at hO hK
   refine ⟨_,_,hO,?_,zeE _,hK⟩
   ·rw [instr_field (by omega),hD]
    unfold zaw zba
    rw [qf (show x.Op≠39 by omega),qf (show x.Op≠41 by omega),qt h4]
    simp only [Bool.or_false,Bool.true_or,cond_false,cond_true]
    rw [zel h.made (sh1 hC) h.shS,zeL [78] [84]]
    simp only [Option.bind_some,List.reverse_singleton]
    rw [zeK (zd4 (by decide) _ _ _ h.shS).len]
    rfl
  ·have e:zuA L stk b x=zai L [84] [(zm8 L x.C x.M).2.1.Type_,x.C] stk false:=by unfold zuA;rw [hb,qf (show x.Op≠38 by omega),qt h4];rfl
   refine ⟨_,(loc,zai L [84] [(zm8 L x.C x.M).2.1.Type_,x.C] stk false),zpJ (c:=c) h ho hC,?_,?_,zlp (x:=x) h hC⟩
   ·rw [instr_field (by omega),hD]
    unfold zaw zba
    rw [qf (show x.Op≠38 by omega),qf (show x.Op≠40 by omega),qt h4]
    simp only [Bool.or_false,Bool.true_or,Bool.or_true,cond_false,cond_true]
    rw [zel h.made (sh1 hT) h.shS,zeL [78] [84]]
    simp only [Option.bind_some,List.reverse_singleton]
    rw [zel h.made (sh1 hC) hs3,zeL [78] [84]]
    rfl
   ·rw [e];exact zeY fun _=>by show ((zai L [84] [(zm8 L x.C x.M).2.1.Type_,x.C] stk false).1.length:Int)≤mt.Stack;omega
  ·have e:zuA L stk b x=(stk++[(zm8 L x.C x.M).2.1.Type_],false):=by unfold zuA;rw [hb,qf (show x.Op≠38 by omega),qf (show x.Op≠39 by omega),qt h4];rfl
   have hO:=zpJ (c:=c) h ho hC
   have hK:=zlp (x:=x) h hC
   rw [e] at hO hK
   refine ⟨_,_,hO,?_,zeE _,hK⟩
   ·rw [instr_field (by omega),hD]
    unfold zaw zba
    rw [qf (show x.Op≠38 by omega),qf (show x.Op≠39 by omega),qf (show x.Op≠41 by omega),qt h4]
    simp only [Bool.or_false,Bool.or_true,cond_false,cond_true]
    rw [zeK h.shS.len]
    rfl
  ·have e:zuA L stk b x=zai L [84] [(zm8 L x.C x.M).2.1.Type_] stk false:=by unfold zuA;rw [hb,qf (show x.Op≠38 by omega),qf (show x.Op≠39 by omega),qf (show x.Op≠40 by omega)];rfl
   refine ⟨_,(loc,zai L [84] [(zm8 L x.C x.M).2.1.Type_] stk false),zpJ (c:=c) h ho hC,?_,?_,zlp (x:=x) h hC⟩
   ·rw [instr_field (by omega),hD]
    unfold zaw zba
    rw [qf (show x.Op≠38 by omega),qf (show x.Op≠39 by omega),qf (show x.Op≠40 by omega),qt h4]
    simp only [Bool.or_false,Bool.or_true,cond_false,cond_true]
    rw [zel h.made (sh1 hT) h.shS,zeL [78] [84]]
    rfl
   ·rw [e];exact zeY fun _=>by show ((zai L [84] [(zm8 L x.C x.M).2.1.Type_] stk false).1.length:Int)≤mt.Stack;omega
end
section
variable {l L : List za} {m : List (Tx × Int)} {c : Tx} {mt : zc} {loc stk : List Tx} {b : Bool} {x : zp}
theorem instr_call(ho:42≤x.Op∧x.Op≤45):zm L c mt loc stk b x=(zdw L c mt loc stk b x).bind fun v=>some (loc,v.1,v.2):=by
 unfold zm
 rw [cf (by omega),cf (by omega),qf (show x.Op≠20 by omega),cf (by omega),ct ho]
 rfl
def zzt(t:Tx)(p:List Tx×Bool):List Tx×Bool:=cond (!(t == [86])) (p.1++[t],p.2) p
def zvN(L:List za)(c:Tx)(x:zp)(s:Tx)(p:List Tx×Bool):List Tx×Bool:=
 cond ((x.Op == 43)||(x.Op == 45)) (zai L [84] [x.C] p.1 p.2)
  (cond (x.Op == 44) ((zb2 [84] p.1 p.2).2.1,(zb2 [84] p.1 p.2).2.2||!(zmv L (zb2 [84] p.1 p.2).1 x.C&&(zmv L (zb2 [84] p.1 p.2).1 c&&(zgX L c).any (fun y=>s == y)))) p)
def zq7(L:List za)(c:Tx)(stk:List Tx)(b:Bool)(x:zp)(s:Tx)(f:zc)(ok:Bool):List Tx×Bool:=
 zzt f.Ret (zvN L c x s (zai L [84] f.Params.reverse stk (b||!(ok&&(f.Static == (x.Op == (42:Int)))))))
theorem zuP(c:Tx)(x:zp)(s:Tx)(p:List Tx×Bool):(zvN L c x s p).1<+:p.1:=by
 unfold zvN
 cases (x.Op == 43)||(x.Op == 45) with
 |true=>exact zdK _ _ _ _ _
 |false =>
  cases x.Op == 44 with
  |true=>exact zg4 _ _ _
  |false=>exact List.prefix_refl _
theorem zrG{c:Tx}{x:zp}{s:Tx}{p:List Tx×Bool}(h:p.2=true):(zvN L c x s p).2=true:=by
 unfold zvN
 cases (x.Op == 43)||(x.Op == 45) with
 |true=>exact zbK _ _ _ h
 |false =>
  cases x.Op == 44 with
  |true=>show ((zb2 [84] p.1 p.2).2.2||_)=true;rw [zg3 h];rfl
  |false=>exact h
theorem zvs(h:zeP l L m mt loc stk b){s:Tx}{f:zc}{ok:Bool}(hR:f.Ret.length≤25)(hM:ok=true→zsV f.Ret=true):zmg loc stk b (loc,zq7 L c stk b x s f ok):=by
 have hp:=(zuP (L:=L) c x s (zai L [84] f.Params.reverse stk (b||!(ok&&(f.Static == (x.Op == (42:Int))))))).trans (zdK _ _ _ _ _)
 have hb:b=true→(zvN L c x s (zai L [84] f.Params.reverse stk (b||!(ok&&(f.Static == (x.Op == (42:Int))))))).2=true:=fun e=>zrG (zbK _ _ _ (by rw [e];rfl))
 unfold zq7 zzt
 cases hv:f.Ret == [86] with
 |true=>exact zeQ hb h.shL h.shS hp
 |false =>
  refine zek hb h.shL h.shS hp hR fun e=>.inr ?_
  have:ok=true:=by
   cases ok with
   |true=>rfl
   |false =>
    rw [zrG (zbK _ _ _ (by simp))] at e
    cases e
  have hr:=hM this
  unfold zsV at hr
  rw [hv] at hr
  exact zvB (by simpa using hr) hR
theorem zxH{f:zc}(h1:∀s∈f.Params,zfq s=true)(h2:f.Params.length≤6):ShL f.Params:=⟨by omega,fun s hs=>zoC (h1 s hs)⟩
theorem zza{f:zc}{s:List Tx}{e:Bool}(hs:s.length≤1000):zaB L m c mt loc f s e=some (zzt f.Ret (s,e)):=by
 unfold zaB zzt
 rw [zeJ hs]
 cases f.Ret == [86] <;> rfl
theorem zAK(h:zeP l L m mt loc stk b)(ho:42≤x.Op∧x.Op≤45)(hC:x.C.length≤25)(hc:c.length≤25){s:Tx}{f:zc}{ok:Bool}(h1:∀s∈f.Params,zfq s=true)(h2:f.Params.length≤6):
  zbh L m c mt loc stk b x s f ok=some (zq7 L c stk b x s f ok):=by
 have h26:=zg7 h.made c
 unfold zbh zq7
 rw [zfl h.made h.map (zxH h1 h2) h.shS]
 simp only [Option.bind_some]
 generalize hq:zai L [84] f.Params.reverse stk (b||!(ok&&(f.Static == (x.Op == (42:Int)))))=q
 have hs:ShL q.1:=by rw [←hq];exact zd4 (by decide) _ _ _ h.shS
 obtain ⟨g1,g2⟩:=zd3 (b:=q.2) hs (e:=[84]) (by decide)
 have hT:∀v:Bool,v=true→za4 L m c mt loc x s f q v=some (zzt f.Ret (zai L [84] [x.C] q.1 q.2)):=fun v hv=>by
  unfold za4
  rw [hv]
  simp only [cond_true]
  rw [zfl h.made h.map (sh1 hC) hs]
  simp only [Option.bind_some,List.reverse_singleton]
  rw [zza (zd4 (by decide) _ _ _ hs).len]
 have ho4:x.Op=42∨x.Op=43∨x.Op=44∨x.Op=45:=by omega
 unfold zvN
 rcases ho4 with h4 |h4 |h4 |h4
 ·rw [qf (show x.Op≠43 by omega),qf (show x.Op≠45 by omega),qf (show x.Op≠44 by omega)]
  simp only [cond_false,Bool.or_false]
  unfold za4
  rw [qf (show x.Op≠44 by omega)]
  simp only [cond_false]
  exact zza hs.len
 ·rw [qt h4]
  simp only [cond_true,Bool.true_or]
  exact hT _ rfl
 ·rw [qf (show x.Op≠43 by omega),qf (show x.Op≠45 by omega),qt h4]
  simp only [cond_false,Bool.or_false,cond_true]
  unfold za4
  rw [qt h4]
  simp only [cond_false,cond_true]
  rw [zmw hs.len]
  simp only [Option.bind_some]
  rw [zo0 h.made h.map g1 hC,zo0 h.made h.map g1 hc,zlY h.made h.map]
  simp only [Option.bind_some]
  rw [zo1 (by omega)]
  simp only [Option.bind_some]
  rw [zza g2.len,zza g2.len]
  cases zmv L (zb2 [84] q.1 q.2).1 x.C <;> cases zmv L (zb2 [84] q.1 q.2).1 c <;> rfl
 ·rw [qf (show x.Op≠43 by omega),qt h4]
  simp only [cond_false,cond_true,Bool.or_true]
  exact hT _ rfl
theorem zyR(T:List Tx)(s:Tx):(T.any fun y=>s == y)=T.any fun y=>y == s:=by
 congr 1
 funext y
 rw [Bool.eq_iff_iff,beq_iff_eq,beq_iff_eq]
 exact eq_comm
theorem zBQ(h:zeP l L m mt loc stk false)(ho:42≤x.Op∧x.Op≤45)(hC:x.C.length≤25)(hc:c.length≤25){s:Tx}{f:zc}(h1:∀s∈f.Params,zfq s=true)(h2:f.Params.length≤6):
  zaG L c mt loc stk false x f s true=za6 L c mt loc f (zvN L c x s (zai L [84] f.Params.reverse stk false)).1 (zvN L c x s (zai L [84] f.Params.reverse stk false)).2:=by
 have h26:=zg7 h.made c
 unfold zaG
 simp only [Bool.not_true,Bool.or_false,cond_false]
 rw [zel h.made (zxH h1 h2) h.shS,zeL [78] [84]]
 simp only [Option.bind_some]
 generalize hq:zai L [84] f.Params.reverse stk false=q
 have hs:ShL q.1:=by rw [←hq];exact zd4 (by decide) _ _ _ h.shS
 obtain ⟨g1,g2⟩:=zd3 (b:=q.2) hs (e:=[78]) (by decide)
 have ho4:x.Op=42∨x.Op=43∨x.Op=44∨x.Op=45:=by omega
 unfold zvN
 rw [zjk hs.len]
 simp only [Option.bind_some]
 rw [zhx h.made g1 hC,zhx h.made g1 hc,zhT h.made]
 simp only [Option.bind_some]
 rw [zmc (by omega)]
 simp only [Option.bind_some]
 rcases ho4 with h4 |h4 |h4 |h4
 ·rw [qt h4,qf (show x.Op≠43 by omega),qf (show x.Op≠45 by omega),qf (show x.Op≠44 by omega)]
  rfl
 ·rw [qt h4,qf (show x.Op≠42 by omega),qf (show x.Op≠44 by omega),zeL [84] [78]]
  rfl
 ·rw [qt h4,qf (show x.Op≠42 by omega),qf (show x.Op≠43 by omega),qf (show x.Op≠45 by omega)]
  simp only [Bool.not_false,cond_true,cond_false,Bool.or_false]
  have e2:=zj4 [84] [78] q.1 q.2
  rw [zyR,e2]
  have e3:((zb2 [78] q.1 q.2).2.2||!(zmv L (zb2 [84] q.1 q.2).1 x.C&&(zmv L (zb2 [84] q.1 q.2).1 c&&(zgX L c).any (fun y=>y == s))))=((zb2 [78] q.1 q.2).2.2||!(zmv L (zb2 [78] q.1 q.2).1 x.C&&(zmv L (zb2 [78] q.1 q.2).1 c&&(zgX L c).any (fun y=>y == s)))):=
   zpN fun e=>by rw [zeS [78] [84] q.1 q.2 e]
  rw [e3]
  cases zmv L (zb2 [78] q.1 q.2).1 x.C <;> cases zmv L (zb2 [78] q.1 q.2).1 c <;> cases (zgX L c).any (fun y=>y == s) <;> simp
 ·rw [qt h4,qf (show x.Op≠42 by omega),qf (show x.Op≠43 by omega),qf (show x.Op≠44 by omega),zeL [84] [78]]
  rfl
theorem zun(h:zeP l L m mt loc stk b)(ho:42≤x.Op∧x.Op≤45)(hC:x.C.length≤25)(hc:c.length≤25){s:Tx}{f:zc}{ok:Bool}(h1:∀s∈f.Params,zfq s=true)(h2:f.Params.length≤6)(h3:f.Ret.length≤25)(h4:ok=true→zsV f.Ret=true)
  (hP:zcH L m c mt loc stk b x=zbh L m c mt loc stk b x s f ok) (hD:zdw L c mt loc stk b x=zaG L c mt loc stk b x f s (ok&&(f.Static == (x.Op == (42:Int))))):
  ∃p r,zk L m c mt loc stk b x=some p∧zm L c mt loc stk b x=some r∧znW mt.Stack p r∧zmg loc stk b p:=by
 have hO:zk L m c mt loc stk b x=some (loc,zq7 L c stk b x s f ok):=by
  rw [zzk ho,hP,zAK h ho hC hc h1 h2];rfl
 have hK:=zvs (c:=c) (x:=x) (s:=s) h h3 h4
 cases hb:(b||!(ok&&(f.Static == (x.Op == (42:Int))))) with
 |true =>
  refine ⟨_,(loc,stk,true),hO,?_,zfN ?_ rfl,hK⟩
  ·rw [instr_call ho,hD]
   unfold zaG
   rw [hb];rfl
  ·show (zq7 L c stk b x s f ok).2=true
   have:(zvN L c x s (zai L [84] f.Params.reverse stk (b||!(ok&&(f.Static == (x.Op == (42:Int))))))).2=true:=zrG (zbK _ _ _ hb)
   unfold zq7 zzt
   cases f.Ret == [86] <;> exact this
 |false =>
  have hb1:b=false:=by simp only [Bool.or_eq_false_iff] at hb;exact hb.1
  have hb2:(ok&&(f.Static == (x.Op == (42:Int))))=true:=by simp only [Bool.or_eq_false_iff,Bool.not_eq_false'] at hb;exact hb.2
  subst hb1
  rw [hb2,zBQ h ho hC hc h1 h2] at hD
  have hl:=(zuP (L:=L) c x s (zai L [84] f.Params.reverse stk false)).length_le
  have hl2:=zjC (L:=L) [84] f.Params.reverse stk false
  have hr:=h.room
  have hsh:=h.shS.1
  have eK:zq7 L c stk false x s f ok=zzt f.Ret (zvN L c x s (zai L [84] f.Params.reverse stk false)):=by unfold zq7;rw [hb]
  generalize zvN L c x s (zai L [84] f.Params.reverse stk false)=q at hD hl eK
  cases hv:f.Ret == [86] with
  |true =>
   refine ⟨_,(loc,q.1,q.2),hO,?_,?_,hK⟩
   ·rw [instr_call ho,hD]
    unfold za6
    rw [hv];rfl
   ·rw [eK]
    unfold zzt
    rw [hv]
    exact zeY fun _=>by omega
  |false =>
   rw [eK] at hO hK
   unfold zzt at hO hK
   rw [hv] at hO hK
   refine ⟨_,_,hO,?_,zeE _,hK⟩
   rw [instr_call ho,hD]
   unfold za6
   rw [hv]
   simp only [Bool.not_false,cond_true]
   rw [zeK (by omega)]
   rfl
theorem zx6(h:zeP l L m mt loc stk b)(ho:42≤x.Op∧x.Op≤45)(hC:x.C.length≤25)(hc:c.length≤25):
  ∃p r,zk L m c mt loc stk b x=some p∧zm L c mt loc stk b x=some r∧znW mt.Stack p r∧zmg loc stk b p:=by
 by_cases h5:x.Op=45
 ·obtain ⟨⟨k1,k2,k3,k4⟩,k5⟩:=zBm h.made x.C x.M
  refine zun (s:=(zoR L x.C x.M).1) (f:=(zoR L x.C x.M).2.1) (ok:=(zoR L x.C x.M).2.2) h ho hC hc k1 k2 k3 k4 ?_ ?_
  ·unfold zcH
   rw [zsB h.made h.map h.lens,qt h5,zAT h.made h.map h.lens]
   rfl
  ·unfold zdw
   rw [qt h5,zt0 h.made h.lens,qf (show x.Op≠42 by omega)]
   show zaG L c mt loc stk b x _ _ _=_
   congr 1
   cases hq:(zoR L x.C x.M).2.2 with
   |false=>rfl
   |true=>rw [k5 hq];rfl
 ·obtain ⟨k1,k2,k3,k4⟩:=zxk h.made zcA x.M (zgX L x.C)
  generalize hR:((zgX L x.C).findSome? (zrD L zcA x.M)).getD ([],zM,false)=R at k1 k2 k3 k4
  refine zun (s:=R.1) (f:=R.2.1) (ok:=R.2.2&&!R.2.1.Abstract) h ho hC hc k1 k2 k3 (fun e=>k4 (by rw [Bool.and_eq_true] at e;exact e.1)) ?_ ?_
  ·unfold zcH
   rw [zsB h.made h.map h.lens,qf h5,hR]
   rfl
  ·unfold zdw
   rw [qf h5,zrS h.made h.lens,hR]
   show zaG L c mt loc stk b x _ _ _=_
   congr 1
   cases R.2.2 <;> cases R.2.1.Abstract <;> cases R.2.1.Static == (x.Op == (42:Int)) <;> rfl
end
section
variable {l L : List za} {m : List (Tx × Int)} {c : Tx} {mt : zc} {loc stk : List Tx} {b : Bool} {x : zp}
theorem instr_arrays(ho:49≤x.Op∧x.Op≤55):zm L c mt loc stk b x=(zaU L c mt loc stk b x).bind fun v=>some (loc,v.1,v.2):=by
 unfold zm
 rw [cf (by omega),cf (by omega),qf (show x.Op≠20 by omega),cf (by omega),cf (by omega),ct ho]
 rfl
def zwy(C:Tx):Tx:=cond (zfq (91 ::C)) (91 ::C) []
theorem zBi{C:Tx}(h:zfq (91 ::C)=true):zfq C=true:=by
 have e:zfm (91 ::C)=C:=by rw [zgz,if_pos rfl]
 unfold zfq at h ⊢
 rw [e] at h
 have hb:brk (zfm C)=false:=by
  rw [Bool.or_eq_true] at h
  rcases h with h |h
  ·have:zfm C=[73]:=by simpa using h
   rw [this];rfl
  ·exact zjP h
 rw [zme hb]
 exact h
theorem zrm{C:Tx}(h:C.length≤1000):zjX C=some (zwy C):=by
 unfold zjX zwy
 have hl:Len C:=by show C.length≤9223372036854775807;omega
 have hl2:Len (91 ::C):=by show (91 ::C).length≤9223372036854775807;simp;omega
 rw [zhb hl,zwD (by simp;omega)]
 simp only [Option.bind_some,List.singleton_append]
 rw [zhb hl2]
 cases h1:zfq (91 ::C) with
 |true=>rw [zBi h1];rfl
 |false=>cases zfq C <;> rfl
theorem zrL{C:Tx}(h:C.length≤1000):zj6 C=some (zwy C):=by
 unfold zj6 zwy
 have hl2:Len (91 ::C):=by show (91 ::C).length≤9223372036854775807;simp;omega
 rw [zwD (by simp;omega)]
 simp only [Option.bind_some,List.singleton_append]
 rw [zed hl2]
 cases zfq (91 ::C) <;> rfl
theorem zwC(x:UInt8):((x.toNat:Int) == (91:Int))=(x == 91):=by
 rw [Bool.eq_iff_iff,beq_iff_eq,beq_iff_eq]
 constructor
 ·intro h;exact UInt8.toNat_inj.1 (by simpa using (Int.ofNat_inj.1 h))
 ·intro h;rw [h];rfl
theorem zsN{s:Tx}(h:Len s):zlD s=some (zh1 s):=by
 unfold zlD zh1
 rw [zed h]
 cases hm:zfq s with
 |false=>rfl
 |true =>
  cases s with
  |nil =>
   exfalso
   unfold zfq at hm
   rw [show zfm (zfm [])=[] from rfl] at hm
   simp at hm
   exact zjQ hm rfl
  |cons x r =>
   simp only [Option.bind_some,Bool.not_true,cond_false,Bool.true_and]
   rw [ziO]
   simp only [List.getElem?_cons_zero,Option.bind_some,zwC]
   rw [show (1:Int)=((1:Nat):Int) from rfl,zio (by simp)]
   show cond (!(x == 91)) _ _=some (cond (x == 91) _ _)
   cases x == 91 <;> rfl
theorem zsM(hs:ShL stk):zdR L c mt loc stk b=some (zki [78] stk b):=by
 unfold zdR zki
 obtain ⟨h1,h2⟩:=zd3 (b:=b) hs (e:=[78]) (by decide)
 rw [zjk hs.len]
 simp only [Option.bind_some]
 rw [zsN (zt8 h1)]
 cases hq:(zb2 [78] stk b).1 == [78] with
 |true =>
  have e:(zb2 [78] stk b).1=[78]:=by simpa using hq
  rw [e];simp
 |false=>rfl
def zBF(t:Tx):Bool:=(t == [78])||(decide (1<(t.length:Int))&&brk t)
theorem zBa(t:Tx):((cond (t == [78]) (some true) ((cond (decide (1<(List.length t:Int))) ((idx t 0).bind fun v16=>some ((v16.toNat:Int) == (91:Int))) (some false)).bind fun v17=>some v17)):Option Bool)=some (zBF t):=by
 unfold zBF
 cases t == [78] with
 |true=>rfl
 |false =>
  cases t with
  |nil=>rfl
  |cons x r =>
   rw [ziO]
   simp only [List.getElem?_cons_zero,Option.bind_some,zwC]
   show ((cond (decide (1<(List.length (x ::r):Int))) (some (x == 91)) (some false)).bind fun v17=>some v17)=some (false||(decide (1<(List.length (x ::r):Int))&&(x == 91)))
   cases decide (1<(List.length (x ::r):Int)) <;> rfl
theorem zBX{t:Tx}(h:onS t):zBF t=((zh1 t).2||(t == [78])):=by
 rcases h with rfl |h
 ·unfold zBF
  rw [beq_self_eq_true];simp
 ·unfold zBF zh1
  rw [h]
  cases hb:brk t with
  |false=>simp
  |true =>
   have h1:=(zo2 h hb).1
   have h2:t.drop 1≠[]:=fun e=>by
    rw [e] at h1
    unfold zfq at h1
    rw [show zfm (zfm [])=[] from rfl] at h1
    simp at h1
    exact zjQ h1 rfl
   have h3:1<t.length:=by
    have:0<(t.drop 1).length:=List.length_pos_iff.2 h2
    simp at this
    omega
   rw [decide_eq_true (show 1<(t.length:Int) by omega)]
   simp
def thA(L:List za)(C:Tx):Bool:=zfq (91 ::C)&&thN L (91 ::C)
theorem zAu(C:Tx)(T:Tx→Bool)(h:zfq (91 ::C)=true→T (91 ::C)=thN L (91 ::C)):(cond (!(zwy C == [])) (some (T (zwy C))) (some false))=some (thA L C):=by
 unfold zwy thA
 cases hm:zfq (91 ::C) with
 |true =>
  rw [←h hm]
  rfl
 |false=>rfl
theorem zx4(h:zeP l L m mt loc stk b)(ho:x.Op=49∨x.Op=50∨x.Op=52∨x.Op=53)(hC:x.C.length≤10):
  ∃p r,zk L m c mt loc stk b x=some p∧zm L c mt loc stk b x=some r∧znW mt.Stack p r∧zmg loc stk b p:=by
 have hI:=zlo.1
 have hA:([91,73]:Tx).length≤25:=by decide
 have hr:=h.room
 rcases ho with h4 |h4 |h4 |h4
 ·refine ⟨(loc,(zai L [84] [[73]] stk b).1++[[91,73]],(zai L [84] [[73]] stk b).2),_,?_,?_,zeE _,zek (zbK _ _ _) h.shL h.shS (zdK _ _ _ _ _) hA fun _=>.inr ⟨hA,.inr (by decide +kernel)⟩⟩
  ·rw [zia (by omega)]
   unfold zay
   rw [qt h4]
   simp only [cond_true]
   rw [zfl h.made h.map (sh1 hI) h.shS]
   simp only [Option.bind_some,List.reverse_singleton]
   rw [zeJ (zd4 (by decide) _ _ _ h.shS).len]
   rfl
  ·rw [instr_arrays (by omega)]
   unfold zaU
   rw [qt h4]
   simp only [cond_true]
   rw [zel h.made (sh1 hI) h.shS,zeL [78] [84]]
   simp only [Option.bind_some,List.reverse_singleton]
   rw [zeK (zd4 (by decide) _ _ _ h.shS).len]
   rfl
 ·have hT:(zwy x.C).length≤25:=by
   unfold zwy
   cases zfq (91 ::x.C)
   ·exact Nat.zero_le _
   ·show (91 ::x.C).length≤25
    simp;omega
  refine ⟨(loc,(zai L [84] [[73]] stk (b||!thA L x.C)).1++[zwy x.C],(zai L [84] [[73]] stk (b||!thA L x.C)).2),_,?_,?_,zeE _,zek (fun e=>zbK _ _ _ (by rw [e];rfl)) h.shL h.shS (zdK _ _ _ _ _) hT fun e=>.inr ?_⟩
  ·rw [zia (by omega)]
   unfold zay
   rw [qf (show x.Op≠49 by omega),qt h4]
   simp only [cond_true,cond_false]
   rw [zrm (by omega)]
   simp only [Option.bind_some]
   rw [zon h.made h.map hT]
   simp only [Option.bind_some]
   rw [zAu x.C (zr0 L) fun hm=>zrW hm]
   simp only [Option.bind_some]
   rw [zfl h.made h.map (sh1 hI) h.shS]
   simp only [Option.bind_some,List.reverse_singleton]
   rw [zeJ (zd4 (by decide) _ _ _ h.shS).len]
   rfl
  ·rw [instr_arrays (by omega)]
   unfold zaU
   rw [qf (show x.Op≠49 by omega),qt h4]
   simp only [cond_true,cond_false]
   rw [zrL (by omega)]
   simp only [Option.bind_some]
   rw [zd8 h.made (by omega)]
   simp only [Option.bind_some]
   rw [zAu x.C (thN L) fun hm=>rfl]
   simp only [Option.bind_some]
   rw [zel h.made (sh1 hI) h.shS,zeL [78] [84]]
   simp only [Option.bind_some,List.reverse_singleton]
   rw [zeK (zd4 (by decide) _ _ _ h.shS).len]
   rfl
  ·have hth:thA L x.C=true:=by
    cases hq:thA L x.C with
    |true=>rfl
    |false=>rw [hq,zbK _ _ _ (by simp)] at e;cases e
   unfold thA at hth
   rw [Bool.and_eq_true] at hth
   unfold zwy at hT ⊢
   rw [hth.1] at hT ⊢
   exact zvB hth.1 hT
 ·refine ⟨(loc,(zai L [84] [[73],[91,73]] stk b).1++[[73]],(zai L [84] [[73],[91,73]] stk b).2),_,?_,?_,zeE _,zek (zbK _ _ _) h.shL h.shS (zdK _ _ _ _ _) hI fun _=>.inr zlo⟩
  ·rw [zia (by omega)]
   unfold zay
   rw [qf (show x.Op≠49 by omega),qf (show x.Op≠50 by omega),qf (show x.Op≠51 by omega),qt h4]
   simp only [cond_true,cond_false]
   rw [zfl h.made h.map (sh2 hA hI) h.shS]
   simp only [Option.bind_some]
   rw [show ([[91,73],[73]]:List Tx).reverse=[[73],[91,73]] from rfl,zeJ (zd4 (by decide) _ _ _ h.shS).len]
   rfl
  ·rw [instr_arrays (by omega)]
   unfold zaU
   rw [qf (show x.Op≠49 by omega),qf (show x.Op≠50 by omega),qf (show x.Op≠51 by omega),qt h4]
   simp only [cond_true,cond_false]
   rw [zel h.made (sh2 hA hI) h.shS,zeL [78] [84]]
   simp only [Option.bind_some]
   rw [show ([[91,73],[73]]:List Tx).reverse=[[73],[91,73]] from rfl,zeK (zd4 (by decide) _ _ _ h.shS).len]
   rfl
 ·have hl:=zjC (L:=L) [84] [[73],[73],[91,73]] stk b
  refine ⟨(loc,zai L [84] [[73],[73],[91,73]] stk b),(loc,zai L [84] [[73],[73],[91,73]] stk b),?_,?_,zeY fun _=>by show ((zai L [84] [[73],[73],[91,73]] stk b).1.length:Int)≤mt.Stack;omega,zpz id h.shL h.shS⟩
  ·rw [zia (by omega)]
   unfold zay
   rw [qf (show x.Op≠49 by omega),qf (show x.Op≠50 by omega),qf (show x.Op≠51 by omega),qf (show x.Op≠52 by omega),qt h4]
   simp only [cond_true,cond_false]
   rw [zfl h.made h.map (sh3 hA hI hI) h.shS]
   rfl
  ·rw [instr_arrays (by omega)]
   unfold zaU
   rw [qf (show x.Op≠49 by omega),qf (show x.Op≠50 by omega),qf (show x.Op≠51 by omega),qf (show x.Op≠52 by omega),qt h4]
   simp only [cond_true,cond_false]
   rw [zel h.made (sh3 hA hI hI) h.shS,zeL [78] [84]]
   rfl
theorem zAG(e:Tx)(s:List Tx)(b:Bool):(zki e s b).2.1.length≤s.length:=zpQ e s b
theorem zAH{s:List Tx}{b:Bool}(hs:∀t∈s,onS t)(hl:∀t∈s,t.length≤25)(h:(zki [84] s b).2.2=false):zyI (zki [84] s b).1:=by
 unfold zki at h ⊢
 simp only [Bool.or_eq_false_iff,Bool.not_eq_false'] at h
 have hin:=zlC h.1
 generalize (zb2 [84] s b).1=t at h hin
 have h1:=hl t hin
 simp only
 cases hq:t == [78] with
 |true =>
  have e:t=[78]:=by simpa using hq
  rw [e];exact zyZ
 |false =>
  rw [hq] at h
  simp only [Bool.false_or,Bool.and_eq_true] at h
  have h2:=h.2.1
  unfold zh1 at h2 ⊢
  cases hb:zfq t&&brk t with
  |false=>rw [hb] at h2;cases h2
  |true =>
   rw [Bool.and_eq_true] at hb
   refine zvB (zo2 hb.1 hb.2).1 ?_
   show (t.drop 1).length≤25
   simp;omega
theorem zx5(h:zeP l L m mt loc stk b)(ho:x.Op=51∨x.Op=54∨x.Op=55):
  ∃p r,zk L m c mt loc stk b x=some p∧zm L c mt loc stk b x=some r∧znW mt.Stack p r∧zmg loc stk b p:=by
 have hI:=zlo.1
 have hr:=h.room
 rcases ho with h4 |h4 |h4
 ·obtain ⟨g1,g2⟩:=zd3 (b:=b) h.shS (e:=[84]) (by decide)
  obtain ⟨k1,k2⟩:=zd3 (b:=b) h.shS (e:=[78]) (by decide)
  have hb:((zb2 [78] stk b).2.2||!zBF (zb2 [78] stk b).1)=((zb2 [84] stk b).2.2||!((zh1 (zb2 [84] stk b).1).2||((zb2 [84] stk b).1 == [78]))):=by
   have e2:=zj4 [78] [84] stk b
   rw [e2]
   refine zpN fun e=>?_
   rw [←zeS [84] [78] stk b e,zBX (h.on _ (zlC e))]
  refine ⟨(loc,(zb2 [84] stk b).2.1++[[73]],(zb2 [84] stk b).2.2||!((zh1 (zb2 [84] stk b).1).2||((zb2 [84] stk b).1 == [78]))),_,?_,?_,zeE _,zek (fun e=>by rw [zg3 e];rfl) h.shL h.shS (zg4 _ _ _) hI fun _=>.inr zlo⟩
  ·rw [zia (by omega)]
   unfold zay
   rw [qf (show x.Op≠49 by omega),qf (show x.Op≠50 by omega),qt h4]
   simp only [cond_true,cond_false]
   rw [zmw h.shS.len]
   simp only [Option.bind_some]
   rw [zhr (zt8 g1)]
   simp only [Option.bind_some]
   rw [zeJ g2.len]
   rfl
  ·rw [instr_arrays (by omega)]
   unfold zaU
   rw [qf (show x.Op≠49 by omega),qf (show x.Op≠50 by omega),qt h4]
   simp only [cond_true,cond_false]
   rw [zjk h.shS.len]
   simp only [Option.bind_some]
   rw [zBa]
   simp only [Option.bind_some]
   rw [zeK k2.len,hb,zj4 [78] [84]]
   rfl
 ·have hT:=zd4 (L:=L) (e:=[84]) (by decide) [[73]] stk b h.shS
  have hP:=zdK L [84] [[73]] stk b
  have hB:b=true→(zai L [84] [[73]] stk b).2=true:=zbK _ _ _
  have hOn:∀t∈(zai L [84] [[73]] stk b).1,onS t:=fun t ht=>h.on t (hP.subset ht)
  have hO:zk L m c mt loc stk b x=some (loc,(zki [84] (zai L [84] [[73]] stk b).1 (zai L [84] [[73]] stk b).2).2.1++[(zki [84] (zai L [84] [[73]] stk b).1 (zai L [84] [[73]] stk b).2).1],(zki [84] (zai L [84] [[73]] stk b).1 (zai L [84] [[73]] stk b).2).2.2):=by
   rw [zia (by omega)]
   unfold zay
   rw [qf (show x.Op≠49 by omega),qf (show x.Op≠50 by omega),qf (show x.Op≠51 by omega),qf (show x.Op≠52 by omega),qf (show x.Op≠53 by omega),qt h4]
   simp only [cond_true,cond_false]
   rw [zfl h.made h.map (sh1 hI) h.shS]
   simp only [Option.bind_some,List.reverse_singleton]
   rw [zuk hT]
   simp only [Option.bind_some]
   rw [zeJ (ztp hT (by decide)).2.len]
   rfl
  have hD:zm L c mt loc stk b x=some (loc,(zoE mt.Stack (zki [78] (zai L [84] [[73]] stk b).1 (zai L [84] [[73]] stk b).2).2.1 (zki [78] (zai L [84] [[73]] stk b).1 (zai L [84] [[73]] stk b).2).2.2 (zki [78] (zai L [84] [[73]] stk b).1 (zai L [84] [[73]] stk b).2).1).1,(zoE mt.Stack (zki [78] (zai L [84] [[73]] stk b).1 (zai L [84] [[73]] stk b).2).2.1 (zki [78] (zai L [84] [[73]] stk b).1 (zai L [84] [[73]] stk b).2).2.2 (zki [78] (zai L [84] [[73]] stk b).1 (zai L [84] [[73]] stk b).2).1).2):=by
   rw [instr_arrays (by omega)]
   unfold zaU
   rw [qf (show x.Op≠49 by omega),qf (show x.Op≠50 by omega),qf (show x.Op≠51 by omega),qf (show x.Op≠52 by omega),qf (show x.Op≠53 by omega),qt h4]
   simp only [cond_true,cond_false]
   rw [zel h.made (sh1 hI) h.shS,zeL [78] [84]]
   simp only [Option.bind_some,List.reverse_singleton]
   rw [zsM hT]
   simp only [Option.bind_some]
   rw [zeK (ztp hT (by decide)).2.len]
   rfl
  generalize zai L [84] [[73]] stk b=q at hT hP hB hOn hO hD
  have hK:zmg loc stk b (loc,(zki [84] q.1 q.2).2.1++[(zki [84] q.1 q.2).1],(zki [84] q.1 q.2).2.2):=
   zek (fun e=>zui (hB e)) h.shL h.shS ((zuj _ _ _).trans hP) (ztp hT (by decide)).1 fun e=>.inr (zAH hOn hT.2 e)
  refine ⟨_,_,hO,hD,?_,hK⟩
  have e2:=zz0 [78] [84] q.1 q.2
  cases hb:(zki [84] q.1 q.2).2.2 with
  |true=>exact zfN rfl (znA (by rw [e2];exact hb))
  |false =>
   rw [←zvr [84] [78] q.1 q.2 hb,e2,hb]
   exact zeE _
 ·have e2:=(znJ (b:=b) h.on).1
  obtain ⟨g1,g2⟩:=zrR (b:=b) h.shS (e:=[84]) (by decide)
  have hP0:=zkS [84] stk b
  have hB0:b=true→(zhw [84] stk b).2.2=true:=zmb
  have hT:=zd4 (L:=L) (e:=[84]) (by decide) [[73]] (zhw [84] stk b).2.1 (zhw [84] stk b).2.2 g2
  have hP:=(zdK L [84] [[73]] (zhw [84] stk b).2.1 (zhw [84] stk b).2.2).trans hP0
  have hB:b=true→(zai L [84] [[73]] (zhw [84] stk b).2.1 (zhw [84] stk b).2.2).2=true:=fun e=>zbK _ _ _ (hB0 e)
  have hO:zk L m c mt loc stk b x=some (loc,(zki [84] (zai L [84] [[73]] (zhw [84] stk b).2.1 (zhw [84] stk b).2.2).1 (zai L [84] [[73]] (zhw [84] stk b).2.1 (zhw [84] stk b).2.2).2).2.1,(zki [84] (zai L [84] [[73]] (zhw [84] stk b).2.1 (zhw [84] stk b).2.2).1 (zai L [84] [[73]] (zhw [84] stk b).2.1 (zhw [84] stk b).2.2).2).2.2):=by
   rw [zia (by omega)]
   unfold zay
   rw [qf (show x.Op≠49 by omega),qf (show x.Op≠50 by omega),qf (show x.Op≠51 by omega),qf (show x.Op≠52 by omega),qf (show x.Op≠53 by omega),qf (show x.Op≠54 by omega)]
   simp only [cond_true,cond_false]
   rw [zqS h.shS]
   simp only [Option.bind_some]
   rw [zfl h.made h.map (sh1 hI) g2]
   simp only [Option.bind_some,List.reverse_singleton]
   rw [zuk hT]
   rfl
  have hD:zm L c mt loc stk b x=some (loc,(zki [78] (zai L [84] [[73]] (zhw [84] stk b).2.1 (zhw [84] stk b).2.2).1 (zai L [84] [[73]] (zhw [84] stk b).2.1 (zhw [84] stk b).2.2).2).2.1,(zki [78] (zai L [84] [[73]] (zhw [84] stk b).2.1 (zhw [84] stk b).2.2).1 (zai L [84] [[73]] (zhw [84] stk b).2.1 (zhw [84] stk b).2.2).2).2.2):=by
   rw [instr_arrays (by omega)]
   unfold zaU
   rw [qf (show x.Op≠49 by omega),qf (show x.Op≠50 by omega),qf (show x.Op≠51 by omega),qf (show x.Op≠52 by omega),qf (show x.Op≠53 by omega),qf (show x.Op≠54 by omega),qt h4]
   simp only [cond_true,cond_false]
   rw [zm4 h.shS]
   simp only [Option.bind_some]
   rw [e2,zel h.made (sh1 hI) g2,zeL [78] [84]]
   simp only [Option.bind_some,List.reverse_singleton]
   rw [zsM hT]
   rfl
  rw [zz0 [78] [84]] at hD
  have hl:=zAG [84] (zai L [84] [[73]] (zhw [84] stk b).2.1 (zhw [84] stk b).2.2).1 (zai L [84] [[73]] (zhw [84] stk b).2.1 (zhw [84] stk b).2.2).2
  have hl2:=hP.length_le
  exact ⟨_,_,hO,hD,zeY fun _=>by omega,zeQ (fun e=>zui (hB e)) h.shL h.shS ((zuj _ _ _).trans hP)⟩
end
section
variable {l L : List za} {m : List (Tx × Int)} {c : Tx} {mt : zc} {loc stk : List Tx} {b : Bool} {x : zp}
theorem zxb{x:zp}(h:zlA x=true):(1≤x.Op∧x.Op≤61)∧zjI x.Op x.A=true∧zsA x.Op x.C=true:=by
 unfold zlA zkG zea at h
 simp only [Bool.and_eq_true,decide_eq_true_eq] at h
 exact ⟨h.1.1.1,h.1.1.2,h.1.2⟩
def zzY(L:List za)(m:List (Tx×Int))(c:Tx)(mt:zc)(loc stk:List Tx)(b:Bool)(x:zp):Prop:=
 ∃p r,zk L m c mt loc stk b x=some p∧zm L c mt loc stk b x=some r∧znW mt.Stack (p.1,p.2.1,cond (zeN x.Op) (p.2.2||!znj L mt p.1 p.2.1 x.A) p.2.2) r∧zmg loc stk b p
theorem zBx(hj:zeN x.Op=false)(h:∃p r,zk L m c mt loc stk b x=some p∧zm L c mt loc stk b x=some r∧znW mt.Stack p r∧zmg loc stk b p):zzY L m c mt loc stk b x:=by
 obtain ⟨p,r,h1,h2,h3,h4⟩:=h
 exact ⟨p,r,h1,h2,by rw [hj];exact h3,h4⟩
theorem zzF(h:zeP l L m mt loc stk b)(hk:zle mt)(hm:zlA x=true)(hc:c.length≤25):zzY L m c mt loc stk b x:=by
 obtain ⟨hO,hA,hC⟩:=zxb hm
 have h10:=zBW hm
 by_cases hj:20≤x.Op∧x.Op≤36
 ·have e:zeN x.Op=true:=bt hj
  obtain ⟨p,r,h1,h2,h3,h4⟩:=zx8 (c:=c) h hk hj
  exact ⟨p,r,h1,h2,by rw [e];exact h3,h4⟩
 have e:zeN x.Op=false:=bf hj
 refine zBx e ?_
 by_cases h1:x.Op=1∨x.Op=2
 ·exact zv6 h h1
 by_cases h3:x.Op=3
 ·have:0≤x.A:=by
   unfold zjI zea at hA
   rw [h3] at hA
   simp at hA
   omega
  exact zx9 h h3 this
 by_cases h4:x.Op=4
 ·have:0≤x.A:=by
   unfold zjI zea at hA
   rw [h4] at hA
   simp at hA
   omega
  exact zv8 h h4 this
 by_cases h5:x.Op=5
 ·exact zzJ h h5
 by_cases h6:x.Op=6
 ·exact zzG h h6
 by_cases h7:x.Op=7
 ·exact zyb h h7
 by_cases h8:8≤x.Op∧x.Op≤19
 ·exact zv5 h h8
 by_cases h9:x.Op=37
 ·exact zzH h h9 (by omega)
 by_cases h11:38≤x.Op∧x.Op≤41
 ·exact zv7 h h11 (by omega)
 by_cases h12:42≤x.Op∧x.Op≤45
 ·exact zx6 h h12 (by omega) hc
 by_cases h13:x.Op=46∨x.Op=47
 ·exact zzK h h13
 by_cases h14:x.Op=48
 ·exact zx3 h h14 hk.ret (zsW hk.ret)
 by_cases h15:x.Op=49∨x.Op=50∨x.Op=52∨x.Op=53
 ·exact zx4 h h15 h10
 by_cases h16:x.Op=51∨x.Op=54∨x.Op=55
 ·exact zx5 h h16
 by_cases h17:x.Op=56∨x.Op=57
 ·refine zx7 h h17 ?_ (by omega)
  have ht:zhM x.Op=true:=by
   unfold zhM
   rcases h17 with e |e <;> rw [e] <;> rfl
  unfold zsA at hC
  rw [ht] at hC
  simp only [cond_true] at hC
  unfold zo6 at hC
  rw [Bool.and_eq_true] at hC
  exact hC.2
 by_cases h18:x.Op=58
 ·exact zv9 h h18
 by_cases h19:x.Op=59
 ·exact zBw h h19
 exact zzI h (by omega)
theorem zwR(n:Int):zhN n=ziE n:=rfl
theorem zvl(h:zeP l L m mt loc stk false)(hk:zle mt){p:List Tx×List Tx×Bool}(hp:zmg loc stk false p)(hb:p.2.2=false)(hr:(p.2.1.length:Int)≤mt.Stack):zeP l L m mt p.1 p.2.1 false:=by
 obtain ⟨_,⟨k1,k2,k3,k4⟩,k5⟩:=hp
 obtain ⟨k6,k7⟩:=k5 hb
 have hs:=hk.stack.2
 refine ⟨h.made,h.map,h.lens,⟨by rw [k1];exact h.shL.1,k3⟩,⟨by omega,k4⟩,fun t ht=>?_,hr,fun t ht=>?_⟩
 ·rcases k6 t ht with e |e
  ·exact h.on t e
  ·exact e.2
 ·rcases k7 t ht with e |e
  ·exact h.onL t e
  ·exact .inr (h.on t e)
end
section
variable {l L : List za} {m : List (Tx × Int)} {c : Tx} {mt : zc} {loc stk : List Tx} {b : Bool}
def zv2(L:List za)(m:List (Tx×Int))(c:Tx)(mt:zc)(z:List Tx×List Tx×Bool×Bool×Int):Option Bool:=
 (zw (fun z=>zav c (zad.mk L m) mt z.1 z.2.1 z.2.2.1 z.2.2.2.1 z.2.2.2.2) z).bind fun o=>zU o (fun b=>zgA b.1 b.2.1 b.2.2) some
def zzx(L:List za)(c:Tx)(mt:zc)(z:List Tx×List Tx×Bool×Bool×Int):Option Bool:=
 (zw (fun z=>zat c (zR.mk L) mt z.1 z.2.1 z.2.2.1 z.2.2.2.1 z.2.2.2.2) z).bind fun o=>zU o (fun b=>zeO b.1 b.2.1 b.2.2.1 b.2.2.2) some
theorem zxY{g g':Bool}{i i':Int}{loc' stk':List Tx}{b':Bool}(h:zav c (zad.mk L m) mt loc stk b g i=some (.inl (loc',stk',b',g',i'))):zv2 L m c mt (loc,stk,b,g,i)=zv2 L m c mt (loc',stk',b',g',i'):=by
 unfold zv2
 rw [zN]
 show ((zav c (zad.mk L m) mt loc stk b g i).bind _).bind _=_
 rw [h];rfl
theorem zs1{g:Bool}{i:Int}{v:Bool}(h:zav c (zad.mk L m) mt loc stk b g i=some (.inr (.inr v))):zv2 L m c mt (loc,stk,b,g,i)=some v:=by
 unfold zv2
 rw [zN]
 show ((zav c (zad.mk L m) mt loc stk b g i).bind _).bind _=_
 rw [h];rfl
theorem zs0{g:Bool}{i:Int}(h:zav c (zad.mk L m) mt loc stk b g i=some (.inr (.inl (loc,stk,b)))):zv2 L m c mt (loc,stk,b,g,i)=some (!b):=by
 unfold zv2
 rw [zN]
 show ((zav c (zad.mk L m) mt loc stk b g i).bind _).bind _=_
 rw [h];rfl
theorem zxX{g g':Bool}{i i':Int}{loc' stk':List Tx}{b':Bool}(h:zat c (zR.mk L) mt loc stk b g i=some (.inl (loc',stk',b',g',i'))):zzx L c mt (loc,stk,b,g,i)=zzx L c mt (loc',stk',b',g',i'):=by
 unfold zzx
 rw [zN]
 show ((zat c (zR.mk L) mt loc stk b g i).bind _).bind _=_
 rw [h];rfl
theorem zsZ{g:Bool}{i:Int}(h:zat c (zR.mk L) mt loc stk b g i=some (.inr (.inl (loc,stk,b,g)))):zzx L c mt (loc,stk,b,g,i)=some (!b&&!g):=by
 unfold zzx
 rw [zN]
 show ((zat c (zR.mk L) mt loc stk b g i).bind _).bind _=_
 rw [h];rfl
theorem zu3(h:ze0 l L)(hm:zdz L m)(hk:zle mt)(hl:ShL loc)(hs:ShL stk){g:Bool}{i:Nat}(hi:i≤mt.Code.length):zv2 L m c mt (loc,stk,true,g,(i:Int))=some false:=by
 by_cases hlt:i<mt.Code.length
 ·refine zs1 ?_
  unfold zav
  have hx:mt.Code[i]?=some mt.Code[i]:=List.getElem?_eq_getElem hlt
  rw [zgm hx,zD,hx]
  simp only [cond_true,Option.bind_some]
  rw [zwT h hm hk hl hs]
  rfl
 ·refine zs0 ?_
  unfold zav
  rw [decide_eq_false (by omega)]
  rfl
theorem zrV{g:Bool}{i:Int}:zzx L c mt (loc,stk,true,g,i)=some false:=by
 refine zsZ ?_
 unfold zat
 rw [Bool.not_true,Bool.and_false]
 rfl
theorem zAR(h:ze0 l L)(hk:zle mt)(hl:ShL loc)(hs:ShL stk){g:Bool}{i:Nat}{x:zp}(hx:mt.Code[i]?=some x):
  zat c (zR.mk L) mt loc stk false g (i:Int) =
   (zct L c mt (zgB L mt loc stk i g).1 (zgB L mt loc stk i g).2.1 (zgB L mt loc stk i g).2.2 (i:Int)).bind fun v98 =>
    (zm L c mt (zgB L mt loc stk i g).1 (zgB L mt loc stk i g).2.1 v98 x).bind fun v100=>some (.inl (v100.1,v100.2.1,v100.2.2,(!(zhN x.Op)),(IntKind.i64.wrap ((i:Int)+1)))):=by
 unfold zat
 rw [zgm hx]
 simp only [Bool.not_false,Bool.and_true,cond_true]
 rw [zrA hk]
 unfold zBY zgB
 have key:∀(v:z8×Bool) (b:Bool) (p q:List Tx),zco c (zR.mk L) mt g (i:Int) v b p q =
   (zct L c mt p q (b||!(v.2||g)) (i:Int)).bind fun v98=>(zm L c mt p q v98 x).bind fun v100=>some (.inl (v100.1,v100.2.1,v100.2.2,(!(zhN x.Op)),(IntKind.i64.wrap ((i:Int)+1)))):=fun v b p q=>by
  unfold zco
  rw [zD,hx]
  rfl
 cases hf:zuI mt (i:Int) with
 |none =>
  simp only [Option.bind_some,Bool.false_and,cond_false]
  unfold zbO
  simp only [cond_false]
  rw [key]
  simp
 |some y =>
  have hy:=zpE hk hf
  simp only [Option.bind_some,Bool.true_and]
  have key2:∀b:Bool,zbO c (zR.mk L) mt loc stk g (i:Int) (y,true) b=(zct L c mt y.Locals y.Stack b (i:Int)).bind fun v98=>(zm L c mt y.Locals y.Stack v98 x).bind fun v100=>some (.inl (v100.1,v100.2.1,v100.2.2,(!(zhN x.Op)),(IntKind.i64.wrap ((i:Int)+1)))):=fun b=>by
   unfold zbO
   simp only [cond_true]
   rw [zwM (hy.shl hk).len (hy.shs hk).len]
   simp only [Option.bind_some]
   rw [key]
   simp
  rw [zw6 h hk hl hs]
  cases g with
  |true=>simp only [cond_true,Option.bind_some,Bool.false_or,Bool.true_and];exact key2 _
  |false=>simp only [cond_false,Bool.false_and];exact key2 _
theorem zzy(hk:zle mt)(hc:c.length≤25):∀(d i:Nat) (loc stk:List Tx) (g:Bool),d+i=mt.Code.length→zeP l L m mt loc stk false→(d=0→g=false) →
  ∃v,zv2 L m c mt (loc,stk,false,g,(i:Int))=some v∧zzx L c mt (loc,stk,false,g,(i:Int))=some v:=by
 intro d
 induction d with
 |zero =>
  intro i loc stk g hd h hg
  have hg:=hg rfl
  subst hg
  refine ⟨true,?_,?_⟩
  ·refine zs0 ?_
   unfold zav
   rw [decide_eq_false (by omega)]
   rfl
  ·refine zsZ ?_
   unfold zat
   rw [decide_eq_false (by omega)]
   rfl
 |succ d ih =>
  intro i loc stk g hd h hg
  have hlt:i<mt.Code.length:=by omega
  have hx:mt.Code[i]?=some mt.Code[i]:=List.getElem?_eq_getElem hlt
  have hxm:=hk.ins _ (List.getElem_mem hlt)
  have h100:=hk.code.2
  generalize mt.Code[i]=x at hx hxm
  have hw:IntKind.i64.wrap ((i:Int)+1)=((i+1:Nat):Int):=zaz (by omega)
  have hE:∀b,zeP l L m mt (zgB L mt loc stk i g).1 (zgB L mt loc stk i g).2.1 b:=fun b=>ztr h hk
  have hD:=zAR (c:=c) h.made hk h.shL h.shS (g:=g) hx
  have hP:zav c (zad.mk L m) mt loc stk false g (i:Int)=cond (zgB L mt loc stk i g).2.2 (some (.inr (.inr false))) ((zc9 L m c mt (zgB L mt loc stk i g).1 (zgB L mt loc stk i g).2.1 (zgB L mt loc stk i g).2.2 (i:Int)).bind fun v51=>(zk L m c mt (zgB L mt loc stk i g).1 (zgB L mt loc stk i g).2.1 v51 x).bind fun v52=>cond (zeN x.Op) ((zcJ L m c mt v52.1 v52.2.1 v52.2.2 x.A).bind fun v53=>zdh mt (i:Int) x v52 v53) (zdh mt (i:Int) x v52 v52.2.2)):=by
   unfold zav
   rw [zgm hx,zD,hx]
   simp only [cond_true,Option.bind_some]
   rw [zwT h.made h.map hk h.shL h.shS]
   rfl
  generalize zgB L mt loc stk i g=E at hE hD hP
  obtain ⟨p,r,s1,s2,s3,s4⟩:=zzF (c:=c) (hE (E.2.2||mt.Traps.any (zp4 L mt E.1 i))) hk hxm hc
  rw [zBB h.made hk (hE false).shL] at hD
  simp only [Option.bind_some] at hD
  rw [s2] at hD
  simp only [Option.bind_some] at hD
  rw [hw,zwR] at hD
  have hDn:=zxX hD
  cases hb:E.2.2 with
  |true =>
   rw [hb] at hP s4
   refine ⟨false,zs1 hP,?_⟩
   have hpb:p.2.2=true:=s4.1 rfl
   have hrb:r.2.2=true:=by
    rw [←s3.1,hpb]
    cases zeN x.Op <;> rfl
   rw [hDn,hrb]
   exact zrV
  |false =>
   rw [hb] at hP s1 s4
   simp only [cond_false] at hP
   rw [zBA h.made h.map hk (hE false).shL] at hP
   simp only [Option.bind_some] at hP
   rw [s1] at hP
   simp only [Option.bind_some] at hP
   obtain ⟨k0,⟨k1,k2,k3,k4⟩,k5⟩:=s4
   have hroom:=(hE false).room
   have hst:=hk.stack.2
   have hl1:ShL p.1:=⟨by rw [k1];exact (hE false).shL.1,k3⟩
   have hs1:ShL p.2.1:=⟨by omega,k4⟩
   rw [zAb h.made h.map hk hl1 hs1] at hP
   have hP2:zav c (zad.mk L m) mt loc stk false g (i:Int)=some (.inl (p.1,p.2.1,r.2.2,!ziE x.Op,((i+1:Nat):Int))):=by
    rw [hP,←s3.1,←hw]
    unfold zdh
    cases zeN x.Op <;> rfl
   have hPn:=zxY hP2
   rw [hPn,hDn]
   cases hrb:r.2.2 with
   |true=>exact ⟨false,zu3 h.made h.map hk hl1 hs1 (by omega),zrV⟩
   |false =>
    obtain ⟨e1,e2⟩:=s3.2 hrb
    simp only at e1 e2
    rw [←e1,←e2]
    have hsum:=s3.1
    rw [hrb] at hsum
    simp only [Bool.or_eq_false_iff,Bool.not_eq_false',decide_eq_true_eq] at hsum
    have hpb:p.2.2=false:=by
     have:=hsum.1
     cases hq:zeN x.Op with
     |true=>rw [hq] at this;simp only [cond_true,Bool.or_eq_false_iff] at this;exact this.1
     |false=>rw [hq] at this;exact this
    have hT:(false||mt.Traps.any (zp4 L mt E.1 i))=false:=by
     cases hq:(false||mt.Traps.any (zp4 L mt E.1 i)) with
     |false=>rfl
     |true=>rw [hq] at k0;rw [k0 rfl] at hpb;cases hpb
    rw [hT] at k0
    refine ih (i+1) p.1 p.2.1 (!ziE x.Op) (by omega) (zvl (hE false) hk ⟨k0,⟨k1,k2,k3,k4⟩,k5⟩ hpb hsum.2) fun h0=>?_
    obtain ⟨y,hy1,hy2⟩:=hk.last
    rw [List.getLast?_eq_getElem?] at hy1
    have:mt.Code.length-1=i:=by omega
    rw [this,hx] at hy1
    cases hy1
    rw [hy2];rfl
end
theorem zuU{R:Type}{n:Int}{body:List Tx→Option (Sum (List Tx) (Sum (List Tx) R))}
  (hb:∀z:List Tx,body z=cond (decide (((List.length z):Int)<n)) ((zh2 16 z ([[84]])).bind fun v=>some (.inl v)) (some (.inr (.inl z)))):
  ∀(k:Nat) (z:List Tx),((z.length+k:Nat):Int)=n→z.length+k≤1000→zw body z=some (.inl (z++List.replicate k [84]))
 | 0,z,h,h2=>by
  rw [zN,hb,decide_eq_false (by omega)]
  simp
 |k+1,z,h,h2=>by
  rw [zN,hb,decide_eq_true (by omega),zdm (by simp;omega) (by simp;omega)]
  simp only [cond_true,Option.bind_some,Sum.elim_inl]
  rw [zuU hb k (z++[[84]]) (by simp;omega) (by simp;omega)]
  simp [List.replicate_succ]
section
variable {l L : List za} {m : List (Tx × Int)} {c : Tx} {f : zc} {b : Bool}
def zn5(L:List za)(T:List Tx):Bool:=T.any fun t=>!zr0 L t
theorem zyt(h:ze0 l L)(hm:zdz L m){T:List Tx}(hT:ShL T):ziY T L m=some (!zn5 L T):=by
 unfold ziY zbn zbY
 rw [show ((zw (fun z=>zan T L m z) 0).bind fun o=>zU o (fun b=>zbu) some)=_ from zcw (l:=T) (p:=fun t=>!zr0 L t) (by have:=hT.len;omega)
  (fun i x hx=>by
   have hl:=hT.2 x (List.mem_of_getElem? hx)
   unfold zan zjD zhV
   rw [zgm hx,zD,hx]
   simp only [Option.bind_some,cond_true]
   rw [zon h hm hl]
   rfl) (by unfold zan;rw [zg2];rfl)]
 rw [Option.bind_some,zha]
 rfl
theorem zzS(h:ze0 l L)(hm:zdz L m){T:List Tx}(hT:ShL T):zhY T L m=some (!T.any fun t=>!thN L t):=by
 unfold zhY zbo zbZ
 rw [show ((zw (fun z=>zao T L m z) 0).bind fun o=>zU o (fun b=>zbv) some)=_ from zcw (l:=T) (p:=fun t=>!thN L t) (by have:=hT.len;omega)
  (fun i x hx=>by
   have hl:=hT.2 x (List.mem_of_getElem? hx)
   unfold zao zhX zhW
   rw [zgm hx,zD,hx]
   simp only [Option.bind_some,cond_true]
   rw [zom h hm hl (zt8 hl),zo7]
   rfl) (by unfold zao;rw [zg2];rfl)]
 rw [Option.bind_some,zha]
 rfl
def zvG(c:Tx)(f:zc):List Tx:=cond (!f.Static) [c] []++f.Params
def zmV(c:Tx)(f:zc):List Tx:=zvG c f++List.replicate (f.Locals.toNat-(zvG c f).length) [84]
theorem zsw(hk:zle f):((zvG c f).length:Int)=zaa f:=by
 have h6:=hk.npar
 unfold zvG zaa
 cases f.Static with
 |true=>simp
 |false =>
  rw [zld (by omega) (by omega)]
  simp
theorem zAp{R:Type}(hk:zle f){body:List Tx→Option (Sum (List Tx) (Sum (List Tx) R))}
  (hb:∀z:List Tx,body z=cond (decide (((List.length z):Int)<f.Locals)) ((zh2 16 z ([[84]])).bind fun v=>some (.inl v)) (some (.inr (.inl z)))):zw body (zvG c f)=some (.inl (zmV c f)):=by
 have h1:=zsw (c:=c) hk
 have h2:=hk.locs
 exact zuU hb _ _ (by omega) (by omega)
theorem zxg(hk:zle f):((zmV c f).length:Int)=f.Locals:=by
 have h1:=zsw (c:=c) hk
 have h2:=hk.locs
 unfold zmV
 simp
 omega
theorem zsx(hk:zle f)(hc:zfq c=true):∀t∈zmV c f,t.length≤25∧(t=[84]∨onS t):=by
 intro t ht
 unfold zmV zvG at ht
 rcases List.mem_append.1 ht with h |h
 ·rcases List.mem_append.1 h with h |h
  ·have:t=c:=by
    cases hs:f.Static with
    |true=>rw [hs] at h;cases h
    |false=>rw [hs] at h;simpa using h
   rw [this]
   exact ⟨zoC hc,.inr (.inr hc)⟩
  ·have:=hk.params t h
   exact ⟨zoC this,.inr (.inr this)⟩
 ·rw [(List.mem_replicate.1 h).2]
  exact ⟨by decide,.inl rfl⟩
theorem ztn(h:ze0 l L)(hm:zdz L m)(hL:zte L)(hk:zle f)(hc:zfq c=true):zeP l L m f (zmV c f) [] false:=by
 have h1:=zxg (c:=c) hk
 have h2:=hk.locs
 have h3:=hk.stack
 exact ⟨h,hm,hL,⟨by omega,fun t ht=>(zsx hk hc t ht).1⟩,⟨Nat.zero_le _,fun t ht=>(List.not_mem_nil ht).elim⟩,fun t ht=>(List.not_mem_nil ht).elim,by simp;omega,fun t ht=>(zsx hk hc t ht).2⟩
def zz3(L:List za)(f:zc):Bool:=((f.Maps.any fun x=>zn5 L x.Locals||zn5 L x.Stack)||!((f.Ret == [86])||thN L f.Ret))||f.Params.any fun t=>!thN L t
theorem zAJ(hk:zle f)(b:Bool):zeD L c f [] [] b=some (zmV c f):=by
 have h6:=hk.npar
 unfold zeD
 have key:zcg f (cond (!f.Static) [c] [])=some (zmV c f):=by
  unfold zcg
  rw [zdm (by cases f.Static <;> simp <;> omega) (by cases f.Static <;> simp <;> omega)]
  simp only [Option.bind_some]
  rw [show zw (fun z=>zdJ f z) (cond (!f.Static) [c] []++f.Params)=_ from zAp (c:=c) hk (body:=fun z=>zdJ f z) fun z=>rfl]
  rfl
 cases hs:f.Static with
 |true=>rw [hs] at key;exact key
 |false =>
  rw [hs] at key
  simp only [Bool.not_false,cond_true] at key ⊢
  rw [zdm (by simp) (by simp)]
  exact key
theorem zxG(hk:zle f):ShL f.Params:=⟨by have:=hk.npar;omega,fun s hs=>zoC (hk.params s hs)⟩
theorem zzh(h:ze0 l L)(hm:zdz L m)(hk:zle f):((zw (fun z=>zcC (zad.mk L m) f z.1 z.2) (false,0)).bind fun o=>zU o (fun b=>zfx c (zad.mk L m) f b) some)=zv2 L m c f (zmV c f,[],zz3 L f,true,0):=by
 have h6:=hk.npar
 rw [zl3 (body:=fun z=>zcC (zad.mk L m) f z.1 z.2) (l:=f.Maps) (p:=fun x=>zn5 L x.Locals||zn5 L x.Stack) (by have:=hk.nmaps;omega) (fun i x b hx=>by
  have hy:=hk.maps x (List.mem_of_getElem? hx)
  show zcC (zad.mk L m) f b (i:Int)=_
  unfold zcC
  rw [zgm hx,zD,hx]
  simp only [cond_true,Option.bind_some]
  rw [zyt h hm (hy.shl hk),zyt h hm (hy.shs hk)]
  cases zn5 L x.Locals <;> cases zn5 L x.Stack <;> rfl) (fun b=>by
  show zcC (zad.mk L m) f b (f.Maps.length:Int)=_
  unfold zcC
  rw [zg2];rfl)]
 simp only [Option.bind_some,zU]
 have j4:∀(b v:Bool),zdW c (zad.mk L m) f b v (cond (!f.Static) [c] [])=zv2 L m c f (zmV c f,[],b||!v,true,0):=fun b v=>by
  unfold zdW
  rw [zdm (by cases f.Static <;> simp <;> omega) (by cases f.Static <;> simp <;> omega)]
  simp only [Option.bind_some]
  rw [show zw (fun z=>zfy f z) (cond (!f.Static) [c] []++f.Params)=_ from zAp (c:=c) hk (body:=fun z=>zfy f z) fun z=>rfl]
  rfl
 have j3:∀b:Bool,zdV c (zad.mk L m) f b=zv2 L m c f (zmV c f,[],b||(f.Params.any fun t=>!thN L t),true,0):=fun b=>by
  unfold zdV
  rw [zzS h hm (zxG hk)]
  simp only [Option.bind_some]
  have:=j4 b (!f.Params.any fun t=>!thN L t)
  rw [Bool.not_not] at this
  rw [←this]
  cases hs:f.Static with
  |true=>rfl
  |false =>
   simp only [Bool.not_false,cond_true]
   rw [zdm (by simp) (by simp)]
   rfl
 unfold zfx zz3
 have hr:=zsW hk.ret
 rw [zom h hm hr (zt8 hr),zo7]
 simp only [Option.bind_some]
 rw [j3,j3]
 cases f.Ret == [86] <;> simp
theorem zzg(h:ze0 l L)(hk:zle f):((zw (fun z=>zbB (zR.mk L) f z.1 z.2) (false,0)).bind fun o=>zU o (fun b=>zef c (zR.mk L) f b) some)=zzx L c f (zmV c f,[],zz3 L f,true,0):=by
 have h6:=hk.npar
 rw [zl3 (body:=fun z=>zbB (zR.mk L) f z.1 z.2) (l:=f.Maps) (p:=fun x=>zn5 L x.Locals||zn5 L x.Stack) (by have:=hk.nmaps;omega) (fun i x b hx=>by
  have hy:=hk.maps x (List.mem_of_getElem? hx)
  have hl:=(hy.shl hk).1
  have hs:=(hy.shs hk).1
  show zbB (zR.mk L) f b (i:Int)=_
  unfold zbB
  rw [zgm hx,zD,hx]
  simp only [cond_true,Option.bind_some]
  rw [zdm (by simp;omega) (by simp;omega)]
  simp only [Option.bind_some,List.nil_append]
  rw [zdm (by omega) (by omega)]
  simp only [Option.bind_some]
  rw [zl3 (body:=fun z=>zcd (zR.mk L) (x.Locals++x.Stack) z.1 z.2) (l:=x.Locals++x.Stack) (p:=fun t=>!zr0 L t) (by simp;omega) (fun j t b ht=>by
   have hm:=List.mem_of_getElem? ht
   have h25:t.length≤25:=by
    rcases List.mem_append.1 hm with e |e
    ·exact hy.loc25 t e
    ·exact hy.stk25 t e
   show zcd (zR.mk L) (x.Locals++x.Stack) b (j:Int)=_
   unfold zcd
   rw [zgm ht,zD,ht]
   simp only [cond_true,Option.bind_some]
   rw [zd8 h (by omega)]
   unfold zr0
   cases t == [84] <;> cases t == [78] <;> cases thN L t <;> rfl) (fun b=>by
   show zcd (zR.mk L) (x.Locals++x.Stack) b ((x.Locals++x.Stack).length:Int)=_
   unfold zcd
   rw [zg2];rfl)]
  rw [List.any_append]
  rfl) (fun b=>by
  show zbB (zR.mk L) f b (f.Maps.length:Int)=_
  unfold zbB
  rw [zg2];rfl)]
 simp only [Option.bind_some,zU]
 unfold zef
 rw [zl3 (body:=fun z=>zce (zR.mk L) f z.1 z.2) (l:=f.Params) (p:=fun t=>!thN L t) (by omega) (fun i t b ht=>by
  have h25:=(zxG hk).2 t (List.mem_of_getElem? ht)
  show zce (zR.mk L) f b (i:Int)=_
  unfold zce
  rw [zgm ht,zD,ht]
  simp only [cond_true,Option.bind_some]
  rw [zd8 h (by omega)]
  rfl) (fun b=>by
  show zce (zR.mk L) f b (f.Params.length:Int)=_
  unfold zce
  rw [zg2];rfl)]
 simp only [Option.bind_some,zU]
 unfold zfi
 have hr:=zsW hk.ret
 rw [zd8 h (by omega)]
 have e:((cond (f.Ret == [86]) (some true) ((some (thN L f.Ret)).bind fun v69=>some v69)):Option Bool)=some ((f.Ret == [86])||thN L f.Ret):=by cases f.Ret == [86] <;> rfl
 rw [e]
 simp only [Option.bind_some]
 rw [zAJ hk]
 simp only [Option.bind_some]
 have e2:(((false||f.Maps.any fun x=>zn5 L x.Locals||zn5 L x.Stack)||f.Params.any fun t=>!thN L t)||!((f.Ret == [86])||thN L f.Ret))=zz3 L f:=by
  unfold zz3
  cases (f.Maps.any fun x=>zn5 L x.Locals||zn5 L x.Stack) <;> cases (f.Params.any fun t=>!thN L t) <;> cases ((f.Ret == [86])||thN L f.Ret) <;> rfl
 rw [e2]
 rfl
theorem zyS(h:ze0 l L)(hm:zdz L m)(hL:zte L)(hk:zle f)(hc:zfq c=true):∃v,zv2 L m c f (zmV c f,[],zz3 L f,true,0)=some v∧zzx L c f (zmV c f,[],zz3 L f,true,0)=some v:=by
 have hA:=ztn h hm hL hk hc
 cases zz3 L f with
 |true=>exact ⟨false,zu3 (i:=0) h hm hk hA.shL hA.shS (Nat.zero_le _),zrV⟩
 |false=>exact zzy hk (zoC hc) f.Code.length 0 (zmV c f) [] true (by omega) hA fun e=>by have:=hk.code.1;omega
theorem zyw(h:ze0 l L)(hm:zdz L m)(hL:zte L)(c:Tx)(k:Int):∃v,zc3 (some (zad.mk L m)) c k=some v∧zfu (some (zR.mk L)) c k=some v:=by
 have h26:=h.len
 unfold zc3 zfu
 simp only [zAo]
 rw [zjO hm,zjN (by omega)]
 simp only [Option.bind_some]
 rw [zot]
 cases hc:cl L c with
 |none =>
  rw [zmH hc]
  exact ⟨false,rfl,rfl⟩
 |some x =>
  rw [zhq hc,znk,hc]
  simp only [Option.bind_some,Bool.not_true,Bool.false_or]
  by_cases h0:k<0
  ·rw [decide_eq_true h0]
   exact ⟨false,rfl,rfl⟩
  rw [decide_eq_false h0]
  simp only [Bool.false_or,cond_false]
  by_cases h1:(x.Methods.length:Int)≤k
  ·rw [decide_eq_true h1]
   exact ⟨false,rfl,rfl⟩
  rw [decide_eq_false h1]
  obtain ⟨n,rfl⟩:∃n:Nat,k=(n:Int):=⟨k.toNat,by omega⟩
  have hn:n<x.Methods.length:=by omega
  have hf:x.Methods[n]?=some x.Methods[n]:=List.getElem?_eq_getElem hn
  have hfm:=List.getElem_mem hn
  generalize x.Methods[n]=f at hf hfm
  rw [zD,hf]
  simp only [Option.bind_some,cond_false]
  cases ha:f.Abstract with
  |true=>exact ⟨false,rfl,rfl⟩
  |false =>
   have hk:=zCO (zxj h (zcX hc).1 hfm) ha
   have hcm:=znZ (zj3 h (zhq hc))
   simp only [cond_false]
   rw [zzh h hm hk,zzg h hk]
   exact zyS h hm hL hk hcm
end
theorem zq6:zhd=some true:=by kernel_rfl
section
variable {l L : List za} {m : List (Tx × Int)}
theorem zvg(hM:ze0 l L)(hm:zdz L m)(hL:zte L){e1 e2:Int}{i:Nat}{x:za}(hx:l[i]?=some x)(hn:x.Methods.length≤10000):
  ∀(d:Nat) (k:Int),k+(d:Int)=(x.Methods.length:Int)+1→-1≤k→zw (fun z=>zew l (some (zad.mk L m),e1) (some (zR.mk L),e2) (i:Int) z) k=some (.inl ())
 | 0,k,h,h1=>by
  rw [zN]
  show (zew l (some (zad.mk L m),e1) (some (zR.mk L),e2) (i:Int) k).bind _=_
  unfold zew
  rw [zD,hx]
  simp only [Option.bind_some]
  rw [decide_eq_false (by omega)]
  rfl
 |d+1,k,h,h1=>by
  obtain ⟨v,v1,v2⟩:=zyw hM hm hL x.Name k
  rw [zN]
  show (zew l (some (zad.mk L m),e1) (some (zR.mk L),e2) (i:Int) k).bind _=_
  have hw:IntKind.i64.wrap (k+1)=k+1:=zld (by omega) (by omega)
  have e:zew l (some (zad.mk L m),e1) (some (zR.mk L),e2) (i:Int) k=some (.inl (k+1)):=by
   unfold zew
   rw [zD,hx]
   simp only [Option.bind_some]
   rw [decide_eq_true (by omega),v1,v2,hw]
   simp
  rw [e]
  exact zvg hM hm hL hx hn d (k+1) (by omega) (by omega)
theorem zoB(hf:∀c∈l,zmm c):zhJ l=some true:=by
 have hc:∀c∈l,zzV c:=fun c hc=>(hf c hc).cg
 obtain ⟨m,hm,he⟩:=zty hc
 unfold zhJ
 rw [he,ztY hc]
 simp only [Option.bind_some]
 cases hE:(zxo l).1 with
 |none=>simp only [Option.map_none,Option.isNone_none,Bool.or_true,cond_true]
 |some L =>
  obtain ⟨hM,hz⟩:=zxp hE
  have hmp:=hm L hE
  have h16:=hM.few
  have hL:zte L:=zBb (zBd hM hf)
  rw [hz]
  simp only [Option.map_some,Option.isNone_some,beq_self_eq_true,Bool.not_true,Bool.or_self,cond_false]
  rw [show zw (fun z=>ze6 l (some (zad.mk L m),0) (some (zR.mk L),0) z) 0=some (.inl ()) from zyO (l:=l) (fun i x hx=>by
   have hi:=(List.getElem?_eq_some_iff.1 hx).1
   have hn:=(hf x (List.mem_of_getElem? hx)).methods.len
   show ze6 l _ _ (i:Int)=_
   unfold ze6
   rw [zgm hx,zvg hM hmp hL hx hn (x.Methods.length+2) (-1) (by omega) (by omega)]
   simp only [cond_true,Option.bind_some,zU]
   unfold zju
   rw [zaz (by omega)]) (by
   show ze6 l _ _ (l.length:Int)=_
   unfold ze6
   rw [zg2];rfl)]
  rfl
theorem znq{l:List za}(h:∀c∈l,zkf c):zhI l=some true:=by
 unfold zhI
 rw [zq6,ztF]
 simp only [Option.bind_some,Bool.not_true,cond_false]
 rw [zoB fun c hc=>(zvm h c hc).fc]
 rfl
end
def sB(s:Tx):Bool:=decide (s.length≤10000)
def iB(n:Int):Bool:=decide (-9223372036854775808≤n∧n≤9223372036854775807)
def lB{α:Type}(p:α→Bool)(l:List α):Bool:=decide (l.length≤10000)&&l.all p
def zqH(f:zt):Bool:=sB f.Name&&sB f.Type_
def zAd(x:zp):Bool:=(iB x.Op&&iB x.A)&&(sB x.C&&sB x.M)
def zvJ(x:z8):Bool:=iB x.At&&(lB sB x.Locals&&lB sB x.Stack)
def zs9(x:zaF):Bool:=(iB x.From&&iB x.To)&&(iB x.At&&sB x.C)
def zvK(m:zc):Bool:=(sB m.Name&&lB sB m.Params)&&((sB m.Ret&&(iB m.Locals&&iB m.Stack))&&(lB zAd m.Code&&(lB zvJ m.Maps&&lB zs9 m.Traps)))
def zqE(c:za):Bool:=(sB c.Name&&sB c.Super)&&(lB sB c.Impl&&(lB zqH c.Fields&&lB zvK c.Methods))
theorem zok{s:Tx}(h:sB s=true):FS s:=of_decide_eq_true h
theorem zsr{n:Int}(h:iB n=true):I64 n:=of_decide_eq_true h
theorem zrp{α:Type}{p:α→Bool}{Q:α→Prop}{l:List α}(k:∀x,p x=true→Q x)(h:lB p l=true):FL Q l:=by
 unfold lB at h
 rw [Bool.and_eq_true] at h
 exact ⟨of_decide_eq_true h.1,fun x hx=>k x (List.all_eq_true.1 h.2 x hx)⟩
theorem zwU{f:zt}(h:zqH f=true):zzW f:=by
 unfold zqH at h
 rw [Bool.and_eq_true] at h
 exact ⟨zok h.1,zok h.2⟩
theorem zA7{x:zp}(h:zAd x=true):zC1 x:=by
 unfold zAd at h
 simp only [Bool.and_eq_true] at h
 exact ⟨zsr h.1.1,zsr h.1.2,zok h.2.1,zok h.2.2⟩
theorem zBe{x:z8}(h:zvJ x=true):zC2 x:=by
 unfold zvJ at h
 simp only [Bool.and_eq_true] at h
 exact ⟨zsr h.1,zrp (fun _=>zok) h.2.1,zrp (fun _=>zok) h.2.2⟩
theorem zzP{x:zaF}(h:zs9 x=true):zBI x:=by
 unfold zs9 at h
 simp only [Bool.and_eq_true] at h
 exact ⟨zsr h.1.1,zsr h.1.2,zsr h.2.1,zok h.2.2⟩
theorem zzf{m:zc}(h:zvK m=true):zAy m:=by
 unfold zvK at h
 simp only [Bool.and_eq_true] at h
 exact ⟨zok h.1.1,zrp (fun _=>zok) h.1.2,zok h.2.1.1,zsr h.2.1.2.1,zsr h.2.1.2.2,zrp (fun _=>zA7) h.2.2.1,zrp (fun _=>zBe) h.2.2.2.1,zrp (fun _=>zzP) h.2.2.2.2⟩
theorem zwH{c:za}(h:zqE c=true):zmm c:=by
 unfold zqE at h
 simp only [Bool.and_eq_true] at h
 exact ⟨zok h.1.1,zok h.1.2,zrp (fun _=>zok) h.2.1,zrp (fun _=>zwU) h.2.2.1,zrp (fun _=>zzf) h.2.2.2⟩
theorem zwu{l:List za}(h:l.all zqE=true):zhJ l=some true:=zoB fun c hc=>zwH (List.all_eq_true.1 h c hc)
theorem zt4{s:Tx}(h:¬(8:Int)<(s.length:Int)):sB s=true:=decide_eq_true (by omega)
theorem zBN{α:Type}{w:Nat}{a b:List α}(h:a.length+b.length≤1000)(hw:w≤1000):zh2 w a b=some (a++b):=zdm (Nat.le_trans (Nat.mul_le_mul h hw) (by decide)) (by omega)
theorem zmQ(a b:Tx)(keep dead:Bool):zg1 a b keep dead=some true:=by
 unfold zg1
 rw [zq6]
 simp only [Option.bind_some,Bool.not_true,cond_false]
 cases ha:decide (8<(List.length a:Int)) with
 |true=>rfl
 |false =>
  cases hb:decide (8<(List.length b:Int)) with
  |true=>rfl
  |false =>
   have hA:=zt4 (of_decide_eq_false ha)
   have hB:=zt4 (of_decide_eq_false hb)
   have key:∀code:List zp,lB zAd code=true→zcF a b code=some true:=fun code hc=>by
    unfold zcF zis
    rw [zBN (by simp) (by omega)]
    simp only [Option.bind_some]
    rw [zwu (by
     simp only [List.all_cons,List.all_nil,Bool.and_true,Bool.and_eq_true]
     refine ⟨by decide +kernel,by decide +kernel,?_⟩
     simp only [zqE,lB,zvK,zvJ,List.all_append,List.all_cons,List.all_nil,Bool.and_true,Bool.and_eq_true,List.length_append,List.length_cons,List.length_nil] at *
     simp only [hA,hB,hc,and_self,and_true,true_and]
     simp [sB,iB,zqH,zAd])]
    rfl
   have key1:∀code:List zp,code.length≤100→lB zAd code=true→zcE a b dead code=some true:=fun code hl hc=>by
    unfold zcE
    cases dead with
    |true =>
     simp only [cond_true]
     rw [zBN (by simp;omega) (by omega)]
     simp only [Option.bind_some]
     refine key _ ?_
     unfold lB at hc ⊢
     simp only [Bool.and_eq_true,decide_eq_true_eq] at hc
     simp only [List.all_append,List.length_append,Bool.and_eq_true,decide_eq_true_eq]
     exact ⟨by simp;omega,hc.2,by decide +kernel⟩
    |false=>exact key _ hc
   cases keep with
   |true=>exact key1 _ (by decide) (by decide +kernel)
   |false=>exact key1 _ (by decide) (by decide +kernel)
theorem zmh(lo hi:Int)(c a b:Tx):zgq lo hi c a b=some true:=by
 unfold zgq
 rw [zq6]
 simp only [Option.bind_some,Bool.not_true,cond_false]
 cases hq:((((((decide (lo<0))||(decide (hi≤lo)))||(decide (6<hi)))||(decide (8<(List.length c:Int))))||(decide (8<(List.length a:Int))))||(decide (8<(List.length b:Int)))) with
 |true=>rfl
 |false =>
  simp only [Bool.or_eq_false_iff,decide_eq_false_iff_not] at hq
  obtain ⟨⟨⟨⟨⟨q1,q2⟩,q3⟩,q4⟩,q5⟩,q6⟩:=hq
  have hC:=zt4 q4
  have hA:=zt4 q5
  have hB:=zt4 q6
  have i1:iB lo=true:=decide_eq_true (by omega)
  have i2:iB hi=true:=decide_eq_true (by omega)
  unfold zis
  simp only [cond_false]
  rw [zBN (by simp) (by omega)]
  simp only [Option.bind_some]
  rw [zwu (by
   simp only [List.all_cons,List.all_nil,Bool.and_true,Bool.and_eq_true]
   refine ⟨by decide +kernel,by decide +kernel,?_⟩
   simp only [zqE,lB,zvK,zvJ,zs9,List.all_append,List.all_cons,List.all_nil,Bool.and_true,Bool.and_eq_true,List.length_append,List.length_cons,List.length_nil] at *
   simp only [hA,hB,hC,i1,i2,and_self,and_true,true_and]
   simp [sB,iB,zqH,zAd])]
  rfl
theorem zmO(a b:Tx)(st:Bool):zg0 a b st=some true:=by
 unfold zg0
 rw [zq6]
 simp only [Option.bind_some,Bool.not_true,cond_false]
 cases ha:decide (8<(List.length a:Int)) with
 |true=>rfl
 |false =>
  cases hb:decide (8<(List.length b:Int)) with
  |true=>rfl
  |false =>
   have ha':=of_decide_eq_false ha
   have hb':=of_decide_eq_false hb
   have hA:=zt4 ha'
   have hB:=zt4 hb'
   rw [zed (show Len a by show a.length≤9223372036854775807;omega),zed (show Len b by show b.length≤9223372036854775807;omega)]
   simp only [Bool.or_self,cond_false,Option.bind_some]
   cases hma:zfq a with
   |false=>rfl
   |true =>
    simp only [Bool.not_true,cond_false,Option.bind_some]
    cases hmb:zfq b with
    |false=>rfl
    |true =>
     unfold zis
     simp only [Bool.not_true,cond_false,Option.bind_some]
     rw [zBN (by simp) (by omega)]
     simp only [Option.bind_some]
     rw [zBN (by simp) (by omega)]
     simp only [Option.bind_some]
     rw [zwu (by
      simp only [List.all_cons,List.all_nil,Bool.and_true,Bool.and_eq_true]
      refine ⟨by decide +kernel,by decide +kernel,?_⟩
      simp only [zqE,lB,zvK,zvJ,zs9,List.all_append,List.all_cons,List.all_nil,Bool.and_true,Bool.and_eq_true,List.length_append,List.length_cons,List.length_nil] at *
      simp only [hA,hB,and_self,and_true,true_and]
      simp [sB,iB,zqH,zAd])]
     rfl
theorem zyG(l:List za)(h:wL zkf l):zG Tryz.prog 6 [.isl 6 (List.map zd l)] (bA true):=znr l (znq h.2)
theorem zyv(a b:List UInt8)(k d:Bool)(_:wS a)(_:wS b):zG Tryz.prog 9 [sA a,sA b,bA k,bA d] (bA true):=zmR a b k d (zmQ a b k d)
theorem zwg(n m:Int)(c a b:List UInt8)(_:wI .i64 n)(_:wI .i64 m)(_:wS c)(_:wS a)(_:wS b):zG Tryz.prog 10 [iA n,iA m,sA c,sA a,sA b] (bA true):=zmi n m c a b (zmh n m c a b)
theorem zyu(a b:List UInt8)(s:Bool)(_:wS a)(_:wS b):zG Tryz.prog 12 [sA a,sA b,bA s] (bA true):=zmP a b s (zmO a b s)
section
variable {l L : List za} {m : List (Tx × Int)}
structure zDf(f:zc):Prop where
 pars:f.Params.length≤10000∧∀x∈f.Params,x.length≤25
 ret:f.Ret.length≤25
 traps:f.Traps.length≤10000∧∀x∈f.Traps,x.C.length≤25
 code:f.Code.length≤10000∧∀x∈f.Code,x.C.length≤25
theorem zle.small{f:zc}(hk:zle f):zDf f where
 pars:=⟨by have:=hk.npar;omega,(zxG hk).2⟩
 ret:=zsW hk.ret
 traps:=⟨by have:=hk.ntraps;omega,fun y hy=>by
  rcases hk.traps y hy with e |e
  ·rw [e];exact Nat.zero_le _
  ·have:=zoZ e;omega⟩
 code:=⟨by have:=hk.code.2;omega,fun x hx=>by have:=zBW (hk.ins x hx);omega⟩
end
def zCH(i:Bool):List zp:=cond i [(zp.mk 1 0 [] []),(zp.mk 47 0 [] [])] [(zp.mk 46 0 [] [])]
def zDl(i:Bool):Tx:=cond i [73] [86]
def zCM(ps:List Tx)(i st:Bool):zc:=zc.mk [102] ps (zDl i) st false ((ps.length:Int)+1) 1 (zCH i) [] []
def m0:zc:=zCM [] false false

end
end Go.Proofs.YtjbdfkapnffjnaaGreat
